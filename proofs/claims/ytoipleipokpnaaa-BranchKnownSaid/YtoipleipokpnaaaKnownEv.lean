/-
  The answer of BranchKnown(), computed by the proved evaluator.
-/
import Derived.Test.YtoipleipokpnaaaCall
import Derived.KernelRfl
set_option linter.all false
namespace Go.Proofs.Ytoipleipokpnaaa.KnownEv
open Go Go.Ab Go.Proofs.Ytoipleipokpnaaa.Code
theorem e9 : okv (acallQ E 200000 9 [] []) (.bool true) = true := by kernel_rfl
theorem found : acall E 200000 9 [] [] = some (.bool true, []) := by rw [← acallQ_eq]; exact okv_eq e9
end Go.Proofs.Ytoipleipokpnaaa.KnownEv
