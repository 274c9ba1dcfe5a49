/-
  What the library's own contracts give: answers of calls that leave all blocks as they were.
-/
import Derived.Test.YtihdlpeghlhnoaaGreatDoorAbKnow
import Derived.Below
import Derived.Lib.Join
import Derived.Lib.Bytealg
set_option linter.all false
namespace Go.Ab
open Go.RowKit
variable {P : Program}

theorem Good.below {Γ : Ctx} {H : Heap} (s : Sim Γ H) {w' : World} (h : Below Γ.w.heap.size Γ.w w') : Good H.length 0 (List.range H.length) Γ { Γ with w := w' } H H := by
  have hcell : ∀ b o, Γ.I b o → w'.cell? ⟨b, o, none⟩ = Γ.w.cell? ⟨b, o, none⟩ := fun b o hI => by
    simp only [World.cell?, h.block b (s.imm b o hI)]
  have e : Evo Γ { Γ with w := w' } := ⟨Nat.le_refl _, fun _ _ => Nat.le_refl _, fun _ _ _ => ⟨rfl, rfl⟩, fun i hi => .inl ⟨hi, rfl⟩, fun b o hI => ⟨hI, hcell b o hI⟩, fun _ _ hI => .inl hI, fun b hb _ => h.block b hb, h.size, h.os, h.tape, h.output⟩
  refine ⟨⟨s.n, fun id b hb => ?_, s.inj, fun b o hI => Nat.lt_of_lt_of_le (s.imm b o hI) h.size, s.glob.mono e⟩, e, fun _ _ hw => hw, fun _ _ => rfl, fun _ _ _ => rfl, Nat.le_refl _⟩
  have hlt := s.lt (List.getElem?_eq_some_iff.1 hb).1
  exact (s.blk id b hb).mono e rfl rfl (h.block _ hlt) (fun _ hI => hI)

/-- a list of strings -/
def strsOf : List AV → Option (List ByteArray)
  | [] => some []
  | .str s :: r => match strsOf r with
    | some l => some (s :: l)
    | none => none
  | _ => none

theorem strsOf_get : ∀ {l : List AV} {xs : List ByteArray}, strsOf l = some xs → l.length = xs.length ∧ ∀ (i : Nat) (x : ByteArray), xs[i]? = some x → l[i]? = some (.str x)
  | [], xs, h => by simp [strsOf] at h; subst h; simp
  | a :: r, xs, h => by
    cases a <;> simp only [strsOf, reduceCtorEq] at h
    rename_i s
    split at h
    · rename_i l hl
      simp only [Option.some.injEq] at h; subst h
      obtain ⟨h1, h2⟩ := strsOf_get hl
      refine ⟨by simp [h1], fun i x hx => ?_⟩
      cases i with
      | zero => simp at hx; subst hx; rfl
      | succ i => simpa using h2 i x (by simpa using hx)
    · cases h

/-- strings one behind the other, a separator between them -/
def joinB (xs : List ByteArray) (sep : ByteArray) : ByteArray := ⟨(Lib.join (xs.map (·.data.toList)) sep.data.toList).toArray⟩

/-- the answer of strings.Join -/
def joinK : List AV → Option KRes
  | [x, .str sep] => match (match x with
      | .nils => some []
      | .lst 1 _ xs => strsOf xs
      | _ => none) with
    | some l => if Nat.ble l.length 1000 ∧ Nat.ble (Lib.join (l.map (·.data.toList)) sep.data.toList).length 100000 then some { v := .str (joinB l sep) } else none
    | none => none
  | _ => none

/-- what the library says of strings.Join -/
structure JoinOK (P : Program) (f : FuncId) : Prop where
  none : ∀ (a : Option Addr) (c : Nat) (sep : ByteArray) (w : World), Calls P f #[.slice a 0 c, .string sep] w fun e w' => e = .returned (.string ⟨#[]⟩) ∧ w' = w
  some : ∀ (bk o c : Nat) (xs : List ByteArray) (sep : ByteArray) (w : World), (∀ (j : Nat) x, xs[j]? = some x → w.cell? ⟨bk, o + j, .none⟩ = some (.string x)) → bk < w.heap.size → xs.length ≤ 140737488355328 → xs.length ≤ c →
    (Lib.join (xs.map (·.data.toList)) sep.data.toList).length ≤ 140737488355328 →
    Calls P f #[.slice (some ⟨bk, o, .none⟩) xs.length c, .string sep] w fun e w' => e = .returned (.string ⟨(Lib.join (xs.map (·.data.toList)) sep.data.toList).toArray⟩) ∧ Below w.heap.size w w'

theorem join_known {f : FuncId} (J : JoinOK P f) {args : List AV} {H : Heap} {k : KRes} (h : joinK args = some k) : CallsTo P f H.length 0 (List.range H.length) args H k.v (applyUps k.ups H ++ k.news) := by
  unfold joinK at h
  split at h <;> try (cases h; done)
  rename_i x sep
  split at h <;> try (cases h; done)
  rename_i l hl
  split at h <;> try (cases h; done)
  rename_i hb
  simp only [Option.some.injEq] at h; subst h
  obtain ⟨hb1, hb2⟩ := hb
  have hb1 := Nat.le_of_ble_eq_true hb1
  have hb2 := Nat.le_of_ble_eq_true hb2
  intro Γ us s hv
  obtain ⟨u1, r1, rfl, hx, hr⟩ := hv.of_cons
  obtain ⟨u2, r2, rfl, hs, hr⟩ := hr.of_cons
  obtain rfl := hr.of_nil
  cases hs
  have e0 : applyUps [] H ++ ([] : List Blk) = H := by simp [applyUps]
  have hnil : ∀ (a : Option Addr) (c : Nat), l = [] → Calls P f #[.slice a 0 c, .string sep] Γ.w fun e w' => ∃ Δ v', e = .returned v' ∧ Δ.w = w' ∧ VR Δ (.str (joinB l sep)) v' ∧ Good H.length 0 (List.range H.length) Γ Δ H (applyUps [] H ++ []) := fun a c hl => by
    refine (J.none a c sep Γ.w).mono fun e w' ⟨h1, h2⟩ => ⟨Γ, _, h1, h2.symm, ?_, by rw [e0]; exact Good.refl s⟩
    subst hl
    exact .str _
  split at hl
  · simp only [Option.some.injEq] at hl; subst hl
    cases hx
    exact hnil _ _ rfl
  · rename_i ex xs
    obtain ⟨hl1, hl2⟩ := strsOf_get hl
    cases hx with
    | emp _ _ a cap hex =>
      have : l = [] := List.eq_nil_of_length_eq_zero (by simpa using hl1.symm)
      exact hnil _ _ this
    | lst _ _ _ b o cap g hlc hex hsz hcell hvv =>
      by_cases hn : l = []
      · subst hn
        have : xs = [] := List.eq_nil_of_length_eq_zero (by simpa using hl1)
        subst this
        exact hnil _ _ rfl
      · have hc : ∀ (j : Nat) (x : ByteArray), l[j]? = some x → Γ.w.cell? ⟨b, o + j, none⟩ = some (.string x) ∧ Γ.I b (o + j) := fun j x hx => by
          have h1 := hl2 j x hx
          have h2 := hcell j _ 0 (.str x) h1 rfl
          have h3 := hvv j _ 0 (.str x) h1 rfl
          simp only [Nat.mul_one, Nat.add_zero] at h2
          generalize g j 0 = u at h2 h3
          cases h3
          exact h2
        have hbk : b < Γ.w.heap.size := by
          obtain ⟨x, r, rfl⟩ := List.exists_cons_of_ne_nil hn
          exact s.imm b _ (hc 0 x rfl).2
        have := J.some b o cap l sep Γ.w (fun j x hx => (hc j x hx).1) hbk (by omega) (by omega) (by omega)
        rw [hl1]
        refine this.mono fun e w' ⟨h1, h2⟩ => ⟨{ Γ with w := w' }, _, h1, rfl, .str _, by rw [e0]; exact Good.below s h2⟩
  · cases hl

/-- the answer of strings.Compare -/
def cmpK : List AV → Option KRes
  | [.str a, .str b] => some { v := .int .i64 (Lib.compareBytes a.data.toList b.data.toList) }
  | _ => none

/-- what the library says of strings.Compare -/
def CmpOK (P : Program) (f : FuncId) : Prop := ∀ (a b : ByteArray) (w : World),
  Calls P f #[.string a, .string b] w fun e w' => e = .returned (.int .i64 (Lib.compareBytes a.data.toList b.data.toList)) ∧ w' = w

theorem cmp_known {f : FuncId} (J : CmpOK P f) {args : List AV} {H : Heap} {k : KRes} (h : cmpK args = some k) : CallsTo P f H.length 0 (List.range H.length) args H k.v (applyUps k.ups H ++ k.news) := by
  unfold cmpK at h
  split at h <;> try (cases h; done)
  rename_i a b
  simp only [Option.some.injEq] at h; subst h
  intro Γ us s hv
  obtain ⟨u1, r1, rfl, hx, hr⟩ := hv.of_cons
  obtain ⟨u2, r2, rfl, hs, hr⟩ := hr.of_cons
  obtain rfl := hr.of_nil
  cases hx; cases hs
  have e0 : applyUps [] H ++ ([] : List Blk) = H := by simp [applyUps]
  exact (J a b Γ.w).mono fun e w' ⟨h1, h2⟩ => ⟨Γ, _, h1, h2.symm, .int _ _, by rw [e0]; exact Good.refl s⟩
end Go.Ab
