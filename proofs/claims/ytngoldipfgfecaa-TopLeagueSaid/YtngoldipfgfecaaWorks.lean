/-
  The answer of leagueWorks(), computed by the proved evaluator.
-/
import Derived.Test.YtngoldipfgfecaaAbQuick
import Derived.Test.YtngoldipfgfecaaCode
import Derived.KernelRfl
set_option linter.all false
namespace Go.Proofs.Ytngoldipfgfecaa.Code
open Go Go.Ab
def okv (r : Option (AV × Heap)) (v : AV) : Bool := match r with
  | some (u, []) => u.same v
  | _ => false
theorem okv_eq {r : Option (AV × Heap)} {v : AV} (h : okv r v = true) : r = some (v, []) := by
  unfold okv at h
  split at h
  · rw [AV.same_eq _ _ h]
  · cases h
theorem keptQ {f : FuncId} {args : List AV} {v : AV} (h : okv (acallQ env 200000 f args []) v = true) (ha : AV.top.tops args = 0) (hv : v.top = 0) : Kept Try.prog (f, args, v) := by
  rw [acallQ_eq] at h
  exact kept (env := env) (funsOK rfl Code.tableOK) (fun _ _ _ _ hk => by cases hk) Code.mixed (okv_eq h) ha hv
end Go.Proofs.Ytngoldipfgfecaa.Code
namespace Go.Proofs.Ytngoldipfgfecaa.Works
open Go Go.Ab Go.Proofs.Ytngoldipfgfecaa.Code
theorem e8 : okv (acallQ env 200000 8 [] []) (.bool true) = true := by kernel_rfl
def top : FuncId × List AV × AV := (8, [], .bool true)
theorem kept : Kept Try.prog top := keptQ e8 rfl rfl
end Go.Proofs.Ytngoldipfgfecaa.Works
