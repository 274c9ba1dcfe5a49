import Derived.Test.YtoipleipokpnaaaAbQuick
import Derived.Test.YtoipleipokpnaaaLib
namespace Go.Proofs.Ytoipleipokpnaaa.Code
open Go Go.Ab
def okv (r : Option (AV × Heap)) (v : AV) : Bool := match r with
  | some (u, []) => u.same v
  | _ => false
theorem okv_eq {r : Option (AV × Heap)} {v : AV} (h : okv r v = true) : r = some (v, []) := by
  unfold okv at h
  split at h
  · rw [AV.same_eq _ _ h]
  · cases h
theorem keptQ {f : FuncId} {args : List AV} {v : AV} (h : okv (acallQ envL 200000 f args []) v = true) (ha : AV.top.tops args = 0) (hv : v.top = 0) : Kept Try.prog (f, args, v) := by
  rw [acallQ_eq] at h
  exact kept (env := envL) (funsOK rfl Code.tableOK) libOK Code.mixed (okv_eq h) ha hv
end Go.Proofs.Ytoipleipokpnaaa.Code
namespace Go.Proofs.Ytoipleipokpnaaa.Works
open Go Go.Ab Go.Proofs.Ytoipleipokpnaaa.Code
theorem e11 : okv (acallQ envL 200000 11 [] []) (.bool true) = true := by kernel_rfl
def top : FuncId × List AV × AV := (11, [], .bool true)
theorem kept : Kept Try.prog top := keptQ e11 rfl rfl
end Go.Proofs.Ytoipleipokpnaaa.Works
