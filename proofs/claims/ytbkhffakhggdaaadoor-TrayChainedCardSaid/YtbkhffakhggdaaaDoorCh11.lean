/-
  Answers of a law at some of its inputs, each computed by the proved evaluator.
-/
import Derived.Test.YtbkhffakhggdaaaDoorEv
import Derived.KernelRfl
set_option linter.all false
namespace Go.Proofs.YtbkhffakhggdaaaDoor.Code
open Go Go.Ab
theorem e8_0_0 : ch8 0 0 = true := by kernel_rfl
theorem e8_0_1 : ch8 0 1 = true := by kernel_rfl
theorem e8_1_0 : ch8 1 0 = true := by kernel_rfl
theorem e8_1_1 : ch8 1 1 = true := by kernel_rfl
theorem e8_1_2 : ch8 1 2 = true := by kernel_rfl
theorem e8_1_3 : ch8 1 3 = true := by kernel_rfl
theorem e8_2_0 : ch8 2 0 = true := by kernel_rfl
theorem e8_2_1 : ch8 2 1 = true := by kernel_rfl
theorem e8_2_2 : ch8 2 2 = true := by kernel_rfl
theorem e8_2_3 : ch8 2 3 = true := by kernel_rfl
theorem e8_2_4 : ch8 2 4 = true := by kernel_rfl
theorem e8_2_5 : ch8 2 5 = true := by kernel_rfl
theorem e8_2_6 : ch8 2 6 = true := by kernel_rfl
theorem e8_2_7 : ch8 2 7 = true := by kernel_rfl
theorem e8_3_0 : ch8 3 0 = true := by kernel_rfl
theorem e8_3_1 : ch8 3 1 = true := by kernel_rfl
theorem e8_3_2 : ch8 3 2 = true := by kernel_rfl
theorem e8_3_3 : ch8 3 3 = true := by kernel_rfl
theorem e8_3_4 : ch8 3 4 = true := by kernel_rfl
theorem e8_3_5 : ch8 3 5 = true := by kernel_rfl
theorem e8_3_6 : ch8 3 6 = true := by kernel_rfl
theorem e8_3_7 : ch8 3 7 = true := by kernel_rfl
theorem e8_3_8 : ch8 3 8 = true := by kernel_rfl
theorem e8_3_9 : ch8 3 9 = true := by kernel_rfl
theorem e8_3_10 : ch8 3 10 = true := by kernel_rfl
theorem e8_3_11 : ch8 3 11 = true := by kernel_rfl
theorem e8_3_12 : ch8 3 12 = true := by kernel_rfl
theorem e8_3_13 : ch8 3 13 = true := by kernel_rfl
theorem e8_3_14 : ch8 3 14 = true := by kernel_rfl
theorem e8_3_15 : ch8 3 15 = true := by kernel_rfl
end Go.Proofs.YtbkhffakhggdaaaDoor.Code
