/-
  Answers of a law at some of its inputs, each computed by the proved evaluator.
-/
import Derived.Test.YtbkhffakhggdaaaDoorEv
import Derived.KernelRfl
set_option linter.all false
namespace Go.Proofs.YtbkhffakhggdaaaDoor.Code
open Go Go.Ab
theorem e8_5_40 : ch8 5 40 = true := by kernel_rfl
theorem e8_5_41 : ch8 5 41 = true := by kernel_rfl
theorem e8_5_42 : ch8 5 42 = true := by kernel_rfl
theorem e8_5_43 : ch8 5 43 = true := by kernel_rfl
theorem e8_5_44 : ch8 5 44 = true := by kernel_rfl
theorem e8_5_45 : ch8 5 45 = true := by kernel_rfl
theorem e8_5_46 : ch8 5 46 = true := by kernel_rfl
theorem e8_5_47 : ch8 5 47 = true := by kernel_rfl
end Go.Proofs.YtbkhffakhggdaaaDoor.Code
