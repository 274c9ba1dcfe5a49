/-
  A call that was evaluated once, on no blocks, with arguments and an answer that hold no block of one's own, is a contract for every heap.
-/
import Derived.Test.YtihdlpeghlhnoaaGreatDoorAbTop
set_option linter.all false
namespace Go.Ab
open Go.RowKit
variable {P : Program}

theorem tops_mem : ∀ {l : List AV} {x : AV}, AV.top.tops l = 0 → x ∈ l → x.top = 0
  | a :: r, x, h, hx => by
    simp only [AV.top.tops, Nat.max_eq_zero_iff] at h
    rcases List.mem_cons.1 hx with rfl | hx
    · exact h.1
    · exact tops_mem h.2 hx

theorem tops_cells {x : AV} (h : x.top = 0) : AV.top.tops x.cells = 0 := by
  cases x <;> first | (simp only [AV.cells, AV.top.tops, Nat.max_eq_zero_iff, and_true]; exact h) | exact h

theorem VR.still {Γ Δ : Ctx} (hI : ∀ b o, Γ.I b o → Δ.I b o ∧ Δ.w.cell? ⟨b, o, none⟩ = Γ.w.cell? ⟨b, o, none⟩) {x : AV} {v : Value} (h : VR Γ x v) : x.top = 0 → VR Δ x v := by
  induction h with
  | int k n => intro _; exact .int k n
  | bool b => intro _; exact .bool b
  | str s => intro _; exact .str s
  | nilp => intro _; exact .nilp
  | nils => intro _; exact .nils
  | nilm => intro _; exact .nilm
  | nilf => intro _; exact .nilf
  | nili => intro _; exact .nili
  | agg cs vs hl h1 _ ih => intro ht; simp only [AV.top] at ht; exact .agg cs vs hl h1 fun i c v hc hv => ih i c v hc hv (tops_mem ht (List.mem_of_getElem? hc))
  | tup cs vs hl _ ih => intro ht; simp only [AV.top] at ht; exact .tup cs vs hl fun i c v hc hv => ih i c v hc hv (tops_mem ht (List.mem_of_getElem? hc))
  | emp sz ex a cap hex => intro _; exact .emp sz ex a cap hex
  | lst sz ex xs b o cap f hlc hex hsz hcell _ ih =>
    intro ht; simp only [AV.top] at ht
    refine .lst sz ex xs b o cap f hlc hex hsz (fun i x j c hx hc => ?_) fun i x j c hx hc => ih i x j c hx hc (tops_mem (tops_cells (tops_mem ht (List.mem_of_getElem? hx))) (List.mem_of_getElem? hc))
    obtain ⟨h1, h2⟩ := hcell i x j c hx hc
    obtain ⟨h3, h4⟩ := hI _ _ h2
    exact ⟨h4.trans h1, h3⟩
  | fp x b o f h1 hcell _ ih =>
    intro ht; simp only [AV.top] at ht
    refine .fp x b o f h1 (fun j c hc => ?_) fun j c hc => ih j c hc (tops_mem (tops_cells ht) (List.mem_of_getElem? hc))
    obtain ⟨h1, h2⟩ := hcell j c hc
    obtain ⟨h3, h4⟩ := hI _ _ h2
    exact ⟨h4.trans h1, h3⟩
  | ptr id ver off a hn hle h => intro ht; simp [AV.top] at ht
  | vec id ver off len sz a cap hn hle h => intro ht; simp [AV.top] at ht
  | fn f xs ys us vs hl hl' _ _ ih ih' =>
    intro ht; simp only [AV.top, Nat.max_eq_zero_iff] at ht
    exact .fn f xs ys us vs hl hl' (fun i c v hc hv => ih i c v hc hv (tops_mem ht.1 (List.mem_of_getElem? hc))) fun i c v hc hv => ih' i c v hc hv (tops_mem ht.2 (List.mem_of_getElem? hc))
  | ifc t x v _ ih => intro ht; simp only [AV.top] at ht; exact .ifc t x v (ih ht)
  | dead a n c => intro _; exact .dead a n c
  | mp id r hn h => intro ht; simp [AV.top] at ht

/-- evaluated on no blocks: so on any -/
theorem still_calls {f : FuncId} {args : List AV} {v : AV} {tc : List Nat} (h : CallsTo P f 0 0 tc args [] v []) (ha : AV.top.tops args = 0) (hv : v.top = 0) (H : Heap) :
    CallsTo P f H.length 0 (List.range H.length) args H v H := fun Γ us s hus => by
  let Γ0 : Ctx := { w := Γ.w, n := 0, ρ := fun _ => 0, ver := fun _ => 0, bsz := fun _ => (0, 0), I := Γ.I }
  have s0 : Sim Γ0 [] := ⟨rfl, fun id b h => by simp at h, fun i j h => by simp at h, s.imm, fun g x hx => ⟨(s.glob g x hx).1, VR.still (Γ := Γ) (Δ := Γ0) (fun b o h => ⟨h, rfl⟩) (s.glob g x hx).2 (s.glob g x hx).1⟩⟩
  have hus0 : VRs Γ0 args us := ⟨hus.1, fun i c u hc hu => VR.still (Γ := Γ) (Δ := Γ0) (fun b o h => ⟨h, rfl⟩) (hus.2 i c u hc hu) (tops_mem ha (List.mem_of_getElem? hc))⟩
  refine (h Γ0 us s0 hus0).mono fun e w' ⟨Δ0, v', h1, h2, h3, h4⟩ => ?_
  have e0 := h4.evo
  let Δ : Ctx := { Γ with w := w', I := Δ0.I }
  have ev : Evo Γ Δ := by
    refine ⟨Nat.le_refl _, fun _ _ => Nat.le_refl _, fun _ _ _ => ⟨rfl, rfl⟩, fun _ h => .inl ⟨h, rfl⟩, fun b o h => ?_, fun b o h => ?_, fun b hb _ => ?_, ?_, ?_, ?_, ?_⟩
    · have := e0.I b o h; rw [h2] at this; exact this
    · rcases e0.newI b o h with h | h | ⟨i, hi, _⟩
      · exact .inl h
      · exact .inr (.inl h)
      · exact absurd hi (Nat.not_lt_zero _)
    · have := e0.frame b hb (fun i hi => absurd hi (Nat.not_lt_zero _)); rw [h2] at this; exact this
    · have := e0.size; rw [h2] at this; exact this
    · have := e0.os; rw [h2] at this; exact this
    · have := e0.tape; rw [h2] at this; exact this
    · have := e0.output; rw [h2] at this; exact this
  refine ⟨Δ, v', h1, rfl, VR.still (Γ := Δ0) (Δ := Δ) (fun b o h => ⟨h, by rw [h2]⟩) h3 hv, ⟨⟨s.n, fun id b hb => ?_, s.inj, fun b o h => by have := h4.sim.imm b o h; rw [h2] at this; exact this, s.glob.mono ev⟩, ev, fun _ _ h => h, fun _ _ => rfl, fun _ _ _ => rfl, Nat.le_refl _⟩⟩
  have hlt : Γ.ρ id < Γ.w.heap.size := s.lt (List.getElem?_eq_some_iff.1 hb).1
  refine (s.blk id b hb).mono ev rfl rfl ?_ (fun o hI => ?_)
  · have := e0.frame (Γ.ρ id) hlt (fun i hi => absurd hi (Nat.not_lt_zero _)); rw [h2] at this; exact this
  · rcases e0.newI _ o hI with h | h | ⟨i, hi, _⟩
    · exact h
    · exact absurd h (Nat.not_le.2 hlt)
    · exact absurd hi (Nat.not_lt_zero _)

/-- a table of answers to calls without arguments -/
def known0 (t : List (FuncId × AV)) (f : FuncId) (args : List AV) (_ : Heap) : Option KRes :=
  match args with
  | [] => match t with
    | [] => none
    | (g, v) :: r => if f = g then some { v := v } else known0 r f [] []
  | _ => none

theorem known0_ok {env : Env} {t : List (FuncId × AV)} (he : env.known = known0 t)
    (h : ∀ p ∈ t, ∃ tc, CallsTo P p.1 0 0 tc [] [] p.2 [] ∧ p.2.top = 0) : KnownOK P env := fun f args H k hk => by
  rw [he] at hk
  cases args with
  | cons a r => simp [known0] at hk
  | nil =>
    clear he
    induction t with
    | nil => simp [known0] at hk
    | cons p r ih =>
      obtain ⟨g, v⟩ := p
      simp only [known0] at hk
      split at hk
      · rename_i hg
        subst hg
        cases hk
        obtain ⟨tc, h1, h2⟩ := h _ (List.mem_cons_self ..)
        simpa [applyUps] using still_calls h1 rfl h2 H
      · refine ih (fun p hp => h p (List.mem_cons_of_mem _ hp)) ?_
        cases r <;> exact hk
end Go.Ab
