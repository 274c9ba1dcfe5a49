/-
  The answer of works(), computed by the proved evaluator.
-/
import Derived.Test.YtoipleipokpnaaaGreatAbQuick
import Derived.Test.YtoipleipokpnaaaGreatLib
set_option linter.all false
namespace Go.Proofs.YtoipleipokpnaaaGreat.Code
open Go Go.Ab
def okv (r : Option (AV × Heap)) (v : AV) : Bool := match r with
  | some (u, []) => u.same v
  | _ => false
theorem okv_eq {r : Option (AV × Heap)} {v : AV} (h : okv r v = true) : r = some (v, []) := by
  unfold okv at h
  split at h
  · rw [AV.same_eq _ _ h]
  · cases h
theorem keptQ {f : FuncId} {args : List AV} {v : AV} (h : okv (acallQ envL 200000 f args []) v = true) (ha : AV.top.tops args = 0) (hv : v.top = 0) : Kept Tryz.prog (f, args, v) := by
  rw [acallQ_eq] at h
  exact kept (env := envL) (funsOK rfl Code.tableOK) libOK Code.mixed (okv_eq h) ha hv
end Go.Proofs.YtoipleipokpnaaaGreat.Code
namespace Go.Proofs.YtoipleipokpnaaaGreat.Works
open Go Go.Ab Go.Proofs.YtoipleipokpnaaaGreat.Code
theorem e8 : okv (acallQ envL 200000 8 [] []) (.bool true) = true := by kernel_rfl
def top : FuncId × List AV × AV := (8, [], .bool true)
theorem kept : Kept Tryz.prog top := keptQ e8 rfl rfl
end Go.Proofs.YtoipleipokpnaaaGreat.Works
