/-
  Answers of a law at some of its inputs, each computed by the proved evaluator.
-/
import Derived.Test.YtbkhffakhggdaaaDoorEv
import Derived.KernelRfl
set_option linter.all false
namespace Go.Proofs.YtbkhffakhggdaaaDoor.Code
open Go Go.Ab
theorem e8_5_16 : ch8 5 16 = true := by kernel_rfl
theorem e8_5_17 : ch8 5 17 = true := by kernel_rfl
theorem e8_5_18 : ch8 5 18 = true := by kernel_rfl
theorem e8_5_19 : ch8 5 19 = true := by kernel_rfl
theorem e8_5_20 : ch8 5 20 = true := by kernel_rfl
theorem e8_5_21 : ch8 5 21 = true := by kernel_rfl
theorem e8_5_22 : ch8 5 22 = true := by kernel_rfl
theorem e8_5_23 : ch8 5 23 = true := by kernel_rfl
end Go.Proofs.YtbkhffakhggdaaaDoor.Code
