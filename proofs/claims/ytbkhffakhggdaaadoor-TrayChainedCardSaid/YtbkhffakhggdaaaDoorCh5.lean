/-
  Answers of a law at some of its inputs, each computed by the proved evaluator.
-/
import Derived.Test.YtbkhffakhggdaaaDoorEv
import Derived.KernelRfl
set_option linter.all false
namespace Go.Proofs.YtbkhffakhggdaaaDoor.Code
open Go Go.Ab
theorem e8_5_32 : ch8 5 32 = true := by kernel_rfl
theorem e8_5_33 : ch8 5 33 = true := by kernel_rfl
theorem e8_5_34 : ch8 5 34 = true := by kernel_rfl
theorem e8_5_35 : ch8 5 35 = true := by kernel_rfl
theorem e8_5_36 : ch8 5 36 = true := by kernel_rfl
theorem e8_5_37 : ch8 5 37 = true := by kernel_rfl
theorem e8_5_38 : ch8 5 38 = true := by kernel_rfl
theorem e8_5_39 : ch8 5 39 = true := by kernel_rfl
end Go.Proofs.YtbkhffakhggdaaaDoor.Code
