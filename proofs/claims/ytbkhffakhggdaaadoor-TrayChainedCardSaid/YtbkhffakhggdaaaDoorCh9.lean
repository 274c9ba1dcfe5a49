/-
  Answers of a law at some of its inputs, each computed by the proved evaluator.
-/
import Derived.Test.YtbkhffakhggdaaaDoorEv
import Derived.KernelRfl
set_option linter.all false
namespace Go.Proofs.YtbkhffakhggdaaaDoor.Code
open Go Go.Ab
theorem e8_4_0 : ch8 4 0 = true := by kernel_rfl
theorem e8_4_1 : ch8 4 1 = true := by kernel_rfl
theorem e8_4_2 : ch8 4 2 = true := by kernel_rfl
theorem e8_4_3 : ch8 4 3 = true := by kernel_rfl
theorem e8_4_4 : ch8 4 4 = true := by kernel_rfl
theorem e8_4_5 : ch8 4 5 = true := by kernel_rfl
theorem e8_4_6 : ch8 4 6 = true := by kernel_rfl
theorem e8_4_7 : ch8 4 7 = true := by kernel_rfl
theorem e8_4_8 : ch8 4 8 = true := by kernel_rfl
theorem e8_4_9 : ch8 4 9 = true := by kernel_rfl
theorem e8_4_10 : ch8 4 10 = true := by kernel_rfl
theorem e8_4_11 : ch8 4 11 = true := by kernel_rfl
theorem e8_4_12 : ch8 4 12 = true := by kernel_rfl
theorem e8_4_13 : ch8 4 13 = true := by kernel_rfl
theorem e8_4_14 : ch8 4 14 = true := by kernel_rfl
theorem e8_4_15 : ch8 4 15 = true := by kernel_rfl
end Go.Proofs.YtbkhffakhggdaaaDoor.Code
