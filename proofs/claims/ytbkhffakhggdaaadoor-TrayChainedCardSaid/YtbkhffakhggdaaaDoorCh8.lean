/-
  Answers of a law at some of its inputs, each computed by the proved evaluator.
-/
import Derived.Test.YtbkhffakhggdaaaDoorEv
import Derived.KernelRfl
set_option linter.all false
namespace Go.Proofs.YtbkhffakhggdaaaDoor.Code
open Go Go.Ab
theorem e8_5_56 : ch8 5 56 = true := by kernel_rfl
theorem e8_5_57 : ch8 5 57 = true := by kernel_rfl
theorem e8_5_58 : ch8 5 58 = true := by kernel_rfl
theorem e8_5_59 : ch8 5 59 = true := by kernel_rfl
theorem e8_5_60 : ch8 5 60 = true := by kernel_rfl
theorem e8_5_61 : ch8 5 61 = true := by kernel_rfl
theorem e8_5_62 : ch8 5 62 = true := by kernel_rfl
theorem e8_5_63 : ch8 5 63 = true := by kernel_rfl
end Go.Proofs.YtbkhffakhggdaaaDoor.Code
