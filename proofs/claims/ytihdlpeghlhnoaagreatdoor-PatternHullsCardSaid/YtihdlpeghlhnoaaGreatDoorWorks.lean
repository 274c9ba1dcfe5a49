/-
  Answers of calls, each computed by the proved evaluator.
-/
import Derived.Test.YtihdlpeghlhnoaaGreatDoorWk1
import Derived.Test.YtihdlpeghlhnoaaGreatDoorWk2
import Derived.Test.YtihdlpeghlhnoaaGreatDoorIn5
set_option linter.all false
section
namespace Go.Proofs.YtihdlpeghlhnoaaGreatDoor.Code
open Go Go.Ab
def we2 : FuncId × List AV × AV := (20, [L6], .tup [inLl, .int .i64 (.ofNat 0)])
theorem wk2 : Kept Tryz.prog we2 := wkIn
def tableW : List (FuncId × List AV × AV) := [we0, we1, we2, we3, we4, we5, we6, we7, we8, we9, we10, we11, we12, we13, we14]
theorem tableW_ok : ∀ p ∈ tableW, Kept Tryz.prog p := by
  unfold tableW
  simp only [List.forall_mem_cons]
  exact ⟨wk0, wk1, wk2, wk3, wk4, wk5, wk6, wk7, wk8, wk9, wk10, wk11, wk12, wk13, wk14, by simp⟩
def knowW (f : FuncId) (args : List AV) (H : Heap) : Option KRes := match knownT tableW f args H with
  | some k => some k
  | none => lib f args H
theorem knowW_ok : KnownOK Tryz.prog { funs := env.funs, known := knowW } := fun f args H k hk => by
  have hk' : knowW f args H = some k := hk
  unfold knowW at hk'
  split at hk'
  · rename_i k' h1
    cases hk'
    exact knownT_ok (env := { funs := env.funs, known := knownT tableW }) rfl tableW_ok f args H k h1
  · exact lib_ok hk'
theorem foundWQ : okv (acallQ { funs := env.funs, known := knowW } 200000 14 [] []) (.bool true) = true := by kernel_rfl
theorem foundW : acall { funs := env.funs, known := knowW } 200000 14 [] [] = some (.bool true, []) := by
  have h := foundWQ
  rw [acallQ_eq] at h
  exact okv_eq h
def weTop : FuncId × List AV × AV := (14, [], .bool true)
theorem wkTop : Kept Tryz.prog weTop := kept (env := { funs := env.funs, known := knowW }) (funsOK rfl Code.tableOK) knowW_ok Code.mixed foundW rfl rfl
end Go.Proofs.YtihdlpeghlhnoaaGreatDoor.Code
end

