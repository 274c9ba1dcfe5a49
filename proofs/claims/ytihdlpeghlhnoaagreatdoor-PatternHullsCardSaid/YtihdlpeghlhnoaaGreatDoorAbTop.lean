/-
  Part of the proved evaluator, or answers that it computed.
-/
import Derived.Test.YtihdlpeghlhnoaaGreatDoorAbMain
import Derived.Below
set_option linter.all false
namespace Go.Ab
open Go.RowKit
variable {P : Program}

/-- at the call of a statement: no block of one's own; what is there is not written -/
def ctx0 (W : World) : Ctx := { w := W, n := 0, ρ := fun _ => 0, ver := fun _ => 0, bsz := fun _ => (0, 0), I := fun b _ => b < W.heap.size }

theorem sim0 {W : World} (hG : GlobOK (ctx0 W)) : Sim (ctx0 W) [] := ⟨rfl, fun id b h => by simp at h, fun i j h => by simp at h, fun _ _ h => h, hG⟩
theorem glob0 {W : World} (h : ∀ g, globs g = none) : GlobOK (ctx0 W) := fun g x hx => by rw [h g] at hx; cases hx

theorem Evo.below {W : World} {Δ : Ctx} (e : Evo (ctx0 W) Δ) : Below W.heap.size W Δ.w := ⟨e.os, e.tape, e.output, e.size, fun i hi => e.frame i hi (fun j hj => by simp [ctx0] at hj)⟩

/-- a statement that the evaluator finds true is true -/
theorem law_true {env : Env} (HF : FunsOK P env) (HK : KnownOK P env) (hmix : P.follows .mixedOrders = true) {n : Nat} {f : FuncId} {args : List AV} {H' : Heap} {W : World} {us : List Value} (hG : GlobOK (ctx0 W)) (hv : VRs (ctx0 W) args us)
    (h : acall env n f args [] = some (.bool true, H')) : Calls P f us.toArray W fun e w' => e = .returned (.bool true) ∧ Below W.heap.size W w' := by
  refine (acall_sound HF HK hmix h (ctx0 W) us (sim0 hG) hv).mono fun e w' ⟨Δ, v', h1, h2, h3, h4⟩ => ?_
  cases h3
  subst h2
  exact ⟨h1, h4.evo.below⟩

/-- a table of compiled functions -/
def lookF : List (FuncId × AFun) → FuncId → Option AFun
  | [], _ => none
  | (g, af) :: r, f => if f = g then some af else lookF r f

theorem lookF_mem : ∀ {t : List (FuncId × AFun)} {f : FuncId} {af : AFun}, lookF t f = some af → (f, af) ∈ t
  | [], f, af, h => by simp [lookF] at h
  | (g, a) :: r, f, af, h => by
    simp only [lookF] at h
    split at h
    · rename_i he; subst he
      simp only [Option.some.injEq] at h; subst h
      simp
    · exact List.mem_cons_of_mem _ (lookF_mem h)

def FunOK (P : Program) (p : FuncId × AFun) : Prop := ∃ (fn : Func) (A : Ann), P.funcs[p.1]? = some fn ∧ fn.name ≠ "runtime.NumGoroutine" ∧ cfun P A p.2.mode p.2.raw fn = some p.2

theorem funsOK {env : Env} {t : List (FuncId × AFun)} (he : env.funs = lookF t) (h : ∀ p ∈ t, FunOK P p) : FunsOK P env := fun f af hf => by
  rw [he] at hf
  exact h (f, af) (lookF_mem hf)

theorem knownNone {env : Env} (h : ∀ f args H, env.known f args H = none) : KnownOK P env := fun f args H k hk => by rw [h] at hk; cases hk

def lookL (l : List (Nat × List Nat)) (i : Nat) : Option (List Nat) :=
  match l with
  | [] => none
  | (j, x) :: r => if i = j then some x else lookL r i

def annOf (ks : List (Nat × List Nat)) (pf pv : List Nat) (fr fz : List (Nat × List Nat)) : Ann :=
  { keep := fun i => (lookL ks i).getD [], pureF := fun f => pf.contains f, pureV := fun r => pv.contains r, fresh := lookL fr, frz := fun i => (lookL fz i).getD [] }

def bytesOf (l : List Nat) : ByteArray := ⟨(l.map Nat.toUInt8).toArray⟩
end Go.Ab
