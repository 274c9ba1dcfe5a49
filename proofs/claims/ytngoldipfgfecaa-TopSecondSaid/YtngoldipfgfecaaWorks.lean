/-
  Answers of calls without arguments, computed by the proved evaluator.
-/
import Derived.Test.YtngoldipfgfecaaAbQuick
import Derived.Test.YtngoldipfgfecaaCode
import Derived.KernelRfl
set_option linter.all false
namespace Go.Proofs.Ytngoldipfgfecaa.Code
open Go Go.Ab
def okv (r : Option (AV × Heap)) (v : AV) : Bool := match r with
  | some (u, []) => u.same v
  | _ => false
theorem okv_eq {r : Option (AV × Heap)} {v : AV} (h : okv r v = true) : r = some (v, []) := by
  unfold okv at h
  split at h
  · rw [AV.same_eq _ _ h]
  · cases h
theorem keptQ {f : FuncId} {args : List AV} {v : AV} (h : okv (acallQ env 200000 f args []) v = true) (ha : AV.top.tops args = 0) (hv : v.top = 0) : Kept Try.prog (f, args, v) := by
  rw [acallQ_eq] at h
  exact kept (env := env) (funsOK rfl Code.tableOK) (fun _ _ _ _ hk => by cases hk) Code.mixed (okv_eq h) ha hv
end Go.Proofs.Ytngoldipfgfecaa.Code
namespace Go.Proofs.Ytngoldipfgfecaa.Works
open Go Go.Ab Go.Proofs.Ytngoldipfgfecaa.Code
theorem e20 : okv (acallQ env 200000 20 [] []) (.bool true) = true := by kernel_rfl
def w20 : FuncId × List AV × AV := (20, [], .bool true)
theorem kept20 : Kept Try.prog w20 := keptQ e20 rfl rfl
def table : List (FuncId × List AV × AV) := [w20]
theorem tableOK : ∀ p ∈ table, Kept Try.prog p := by
  unfold table
  simp only [List.forall_mem_cons]
  exact ⟨kept20, by simp⟩
end Go.Proofs.Ytngoldipfgfecaa.Works
