/-
  Answers of a law at some of its inputs, each computed by the proved evaluator.
-/
import Derived.Test.YtbkhffakhggdaaaDoorEv
import Derived.KernelRfl
set_option linter.all false
namespace Go.Proofs.YtbkhffakhggdaaaDoor.Code
open Go Go.Ab
theorem e8_5_8 : ch8 5 8 = true := by kernel_rfl
theorem e8_5_9 : ch8 5 9 = true := by kernel_rfl
theorem e8_5_10 : ch8 5 10 = true := by kernel_rfl
theorem e8_5_11 : ch8 5 11 = true := by kernel_rfl
theorem e8_5_12 : ch8 5 12 = true := by kernel_rfl
theorem e8_5_13 : ch8 5 13 = true := by kernel_rfl
theorem e8_5_14 : ch8 5 14 = true := by kernel_rfl
theorem e8_5_15 : ch8 5 15 = true := by kernel_rfl
end Go.Proofs.YtbkhffakhggdaaaDoor.Code
