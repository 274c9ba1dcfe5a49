/-
  Answers of a law at some of its inputs, each computed by the proved evaluator.
-/
import Derived.Test.YtbkhffakhggdaaaDoorEv
import Derived.KernelRfl
set_option linter.all false
namespace Go.Proofs.YtbkhffakhggdaaaDoor.Code
open Go Go.Ab
theorem e8_5_24 : ch8 5 24 = true := by kernel_rfl
theorem e8_5_25 : ch8 5 25 = true := by kernel_rfl
theorem e8_5_26 : ch8 5 26 = true := by kernel_rfl
theorem e8_5_27 : ch8 5 27 = true := by kernel_rfl
theorem e8_5_28 : ch8 5 28 = true := by kernel_rfl
theorem e8_5_29 : ch8 5 29 = true := by kernel_rfl
theorem e8_5_30 : ch8 5 30 = true := by kernel_rfl
theorem e8_5_31 : ch8 5 31 = true := by kernel_rfl
end Go.Proofs.YtbkhffakhggdaaaDoor.Code
