/-
  Answers of a law at some of its inputs, each computed by the proved evaluator.
-/
import Derived.Test.YtbkhffakhggdaaaDoorEv
import Derived.KernelRfl
set_option linter.all false
namespace Go.Proofs.YtbkhffakhggdaaaDoor.Code
open Go Go.Ab
theorem e8_5_0 : ch8 5 0 = true := by kernel_rfl
theorem e8_5_1 : ch8 5 1 = true := by kernel_rfl
theorem e8_5_2 : ch8 5 2 = true := by kernel_rfl
theorem e8_5_3 : ch8 5 3 = true := by kernel_rfl
theorem e8_5_4 : ch8 5 4 = true := by kernel_rfl
theorem e8_5_5 : ch8 5 5 = true := by kernel_rfl
theorem e8_5_6 : ch8 5 6 = true := by kernel_rfl
theorem e8_5_7 : ch8 5 7 = true := by kernel_rfl
end Go.Proofs.YtbkhffakhggdaaaDoor.Code
