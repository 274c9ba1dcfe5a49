/-
  Answers of a law at some of its inputs, each computed by the proved evaluator.
-/
import Derived.Test.YtbkhffakhggdaaaDoorEv
import Derived.KernelRfl
set_option linter.all false
namespace Go.Proofs.YtbkhffakhggdaaaDoor.Code
open Go Go.Ab
theorem e8_4_16 : ch8 4 16 = true := by kernel_rfl
theorem e8_4_17 : ch8 4 17 = true := by kernel_rfl
theorem e8_4_18 : ch8 4 18 = true := by kernel_rfl
theorem e8_4_19 : ch8 4 19 = true := by kernel_rfl
theorem e8_4_20 : ch8 4 20 = true := by kernel_rfl
theorem e8_4_21 : ch8 4 21 = true := by kernel_rfl
theorem e8_4_22 : ch8 4 22 = true := by kernel_rfl
theorem e8_4_23 : ch8 4 23 = true := by kernel_rfl
theorem e8_4_24 : ch8 4 24 = true := by kernel_rfl
theorem e8_4_25 : ch8 4 25 = true := by kernel_rfl
theorem e8_4_26 : ch8 4 26 = true := by kernel_rfl
theorem e8_4_27 : ch8 4 27 = true := by kernel_rfl
theorem e8_4_28 : ch8 4 28 = true := by kernel_rfl
theorem e8_4_29 : ch8 4 29 = true := by kernel_rfl
theorem e8_4_30 : ch8 4 30 = true := by kernel_rfl
theorem e8_4_31 : ch8 4 31 = true := by kernel_rfl
end Go.Proofs.YtbkhffakhggdaaaDoor.Code
