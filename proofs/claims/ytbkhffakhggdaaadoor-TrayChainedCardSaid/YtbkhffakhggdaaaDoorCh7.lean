/-
  Answers of a law at some of its inputs, each computed by the proved evaluator.
-/
import Derived.Test.YtbkhffakhggdaaaDoorEv
import Derived.KernelRfl
set_option linter.all false
namespace Go.Proofs.YtbkhffakhggdaaaDoor.Code
open Go Go.Ab
theorem e8_5_48 : ch8 5 48 = true := by kernel_rfl
theorem e8_5_49 : ch8 5 49 = true := by kernel_rfl
theorem e8_5_50 : ch8 5 50 = true := by kernel_rfl
theorem e8_5_51 : ch8 5 51 = true := by kernel_rfl
theorem e8_5_52 : ch8 5 52 = true := by kernel_rfl
theorem e8_5_53 : ch8 5 53 = true := by kernel_rfl
theorem e8_5_54 : ch8 5 54 = true := by kernel_rfl
theorem e8_5_55 : ch8 5 55 = true := by kernel_rfl
end Go.Proofs.YtbkhffakhggdaaaDoor.Code
