/-
  Answers kept for calls with arguments: looked up by the arguments' own form.
-/
import Derived.Test.YtihdlpeghlhnoaaGreatDoorAbKnow
set_option linter.all false
namespace Go.Ab
variable {P : Program}

def AV.same : AV → AV → Bool
  | .int k n, .int k' n' => decide (k = k') && decide (n = n')
  | .bool b, .bool c => match b, c with
    | true, true => true
    | false, false => true
    | _, _ => false
  | .nilp, .nilp => true
  | .nils, .nils => true
  | .nilm, .nilm => true
  | .nilf, .nilf => true
  | .nili, .nili => true
  | .agg a, .agg b => sames a b
  | .tup a, .tup b => sames a b
  | .lst s e a, .lst s' e' b => Nat.beq s s' && (match e, e' with | true, true => true | false, false => true | _, _ => false) && sames a b
  | .fp x, .fp y => x.same y
  | _, _ => false
where
  sames : List AV → List AV → Bool
    | [], [] => true
    | x :: r, y :: s => x.same y && sames r s
    | _, _ => false

mutual
theorem AV.same_eq : ∀ (x y : AV), x.same y = true → x = y := fun x y h => by
  cases x <;> cases y <;> simp only [AV.same, Bool.false_eq_true] at h <;> try rfl
  · simp only [Bool.and_eq_true, decide_eq_true_eq] at h; rw [h.1, h.2]
  · rename_i b c; cases b <;> cases c <;> first | rfl | simp at h
  · rw [AV.sames_eq _ _ h]
  · rw [AV.sames_eq _ _ h]
  · rename_i s e a s' e' b
    simp only [Bool.and_eq_true] at h
    rw [AV.sames_eq _ _ h.2, Nat.eq_of_beq_eq_true h.1.1]
    have := h.1.2
    cases e <;> cases e' <;> first | rfl | simp at this
  · rw [AV.same_eq _ _ h]
theorem AV.sames_eq : ∀ (x y : List AV), AV.same.sames x y = true → x = y
  | [], [], _ => rfl
  | [], _ :: _, h => by simp [AV.same.sames] at h
  | _ :: _, [], h => by simp [AV.same.sames] at h
  | x :: r, y :: s, h => by
    simp only [AV.same.sames, Bool.and_eq_true] at h
    rw [AV.same_eq x y h.1, AV.sames_eq r s h.2]
end

/-- a table of answers -/
def knownT : List (FuncId × List AV × AV) → FuncId → List AV → Heap → Option KRes
  | [], _, _, _ => none
  | (g, xs, v) :: r, f, args, H => match Nat.beq f g && AV.same.sames args xs with
    | true => some { v := v }
    | false => knownT r f args H

def Kept (P : Program) (p : FuncId × List AV × AV) : Prop := ∀ H : Heap, CallsTo P p.1 H.length 0 (List.range H.length) p.2.1 H p.2.2 H

theorem knownT_ok {env : Env} {t : List (FuncId × List AV × AV)} (he : env.known = knownT t) (h : ∀ p ∈ t, Kept P p) : KnownOK P env := fun f args H k hk => by
  rw [he] at hk
  clear he
  induction t with
  | nil => simp [knownT] at hk
  | cons p r ih =>
    obtain ⟨g, xs, v⟩ := p
    simp only [knownT] at hk
    split at hk
    · rename_i hg
      simp only [Bool.and_eq_true] at hg
      cases hk
      rw [Nat.eq_of_beq_eq_true hg.1, AV.sames_eq _ _ hg.2]
      simpa [applyUps] using h _ (List.mem_cons_self ..) H
    · exact ih (fun p hp => h p (List.mem_cons_of_mem _ hp)) hk

/-- an evaluation on no blocks keeps -/
theorem kept {env : Env} (HF : FunsOK P env) (HK : KnownOK P env) (hmix : P.follows .mixedOrders = true) {n : Nat} {f : FuncId} {args : List AV} {v : AV}
    (h : acall env n f args [] = some (v, [])) (ha : AV.top.tops args = 0) (hv : v.top = 0) : Kept P (f, args, v) :=
  still_calls (acall_sound HF HK hmix h) ha hv
end Go.Ab
