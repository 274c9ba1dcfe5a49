/-
  Part of the proved evaluator.
-/
import Derived.Test.YtoipleipokpnaaaAbDraw
set_option linter.all false
namespace Go.Ab
variable {P : Program}

/-! ## two blocks change places -/
def Ctx.swap (Γ : Ctx) (k : Nat) : Ctx :=
  { Γ with
    ρ := fun i => if i = k then Γ.ρ (k + 1) else if i = k + 1 then Γ.ρ k else Γ.ρ i
    ver := fun i => if i = k then Γ.ver (k + 1) else if i = k + 1 then Γ.ver k else Γ.ver i
    bsz := fun i => if i = k then Γ.bsz (k + 1) else if i = k + 1 then Γ.bsz k else Γ.bsz i }

theorem VR.swap {Γ : Ctx} {k : Nat} {x : AV} {v : Value} (h : VR Γ x v) : x.top ≤ k → VR (Γ.swap k) x v := by
  induction h with
  | int k n => intro _; exact .int k n
  | bool b => intro _; exact .bool b
  | str s => intro _; exact .str s
  | nilp => intro _; exact .nilp
  | nils => intro _; exact .nils
  | nilm => intro _; exact .nilm
  | nilf => intro _; exact .nilf
  | nili => intro _; exact .nili
  | agg cs vs hl h1 _ ih => intro ht; simp only [AV.top] at ht; exact .agg cs vs hl h1 fun i c v hc hv => ih i c v hc hv (AV.tops_le ht c (List.mem_of_getElem? hc))
  | tup cs vs hl _ ih => intro ht; simp only [AV.top] at ht; exact .tup cs vs hl fun i c v hc hv => ih i c v hc hv (AV.tops_le ht c (List.mem_of_getElem? hc))
  | emp sz ex a cap hex => intro _; exact .emp sz ex a cap hex
  | lst sz ex xs b o cap f hlc hex hsz hcell _ ih =>
    intro ht; simp only [AV.top] at ht
    exact .lst sz ex xs b o cap f hlc hex hsz hcell fun i x j c hx hc => ih i x j c hx hc (AV.cells_top (AV.tops_le ht x (List.mem_of_getElem? hx)) c (List.mem_of_getElem? hc))
  | fp x b o f h1 hcell _ ih =>
    intro ht; simp only [AV.top] at ht
    exact .fp x b o f h1 hcell fun j c hc => ih j c hc (AV.cells_top ht c (List.mem_of_getElem? hc))
  | ptr i ver off a hn hle h =>
    intro ht; simp only [AV.top] at ht
    have h1 : i ≠ k := by omega
    have h2 : i ≠ k + 1 := by omega
    exact .ptr i ver off a hn (by simpa [Ctx.swap, h1, h2] using hle) (by simpa [Ctx.swap, Ctx.δ, h1, h2] using h)
  | vec i ver off len sz a cap hn hle h =>
    intro ht; simp only [AV.top] at ht
    have h1 : i ≠ k := by omega
    have h2 : i ≠ k + 1 := by omega
    exact .vec i ver off len sz a cap hn (by simpa [Ctx.swap, h1, h2] using hle) (by simpa [Ctx.swap, Ctx.δ, h1, h2] using h)
  | fn f xs ys us vs hl hl' _ _ ih ih' =>
    intro ht; simp only [AV.top] at ht
    exact .fn f xs ys us vs hl hl' (fun i c v hc hv => ih i c v hc hv (AV.tops_le (by omega) c (List.mem_of_getElem? hc)))
      (fun i c v hc hv => ih' i c v hc hv (AV.tops_le (by omega) c (List.mem_of_getElem? hc)))
  | ifc t x v _ ih => intro ht; simp only [AV.top] at ht; exact .ifc t x v (ih ht)
  | dead a n c => intro _; exact .dead a n c
  | mp i r hn h =>
    intro ht; simp only [AV.top] at ht
    have h1 : i ≠ k := by omega
    have h2 : i ≠ k + 1 := by omega
    exact .mp i r hn (by simpa [Ctx.swap, h1, h2] using h)

theorem VR.swap_lo {Γ : Ctx} {k ver off : Nat} {v : Value} (h : VR Γ (.ptr k ver off) v) (hn : k + 1 < Γ.n) : VR (Γ.swap k) (.ptr (k + 1) ver off) v := by
  cases h with
  | ptr _ _ _ a hn' hle h => exact .ptr _ _ _ a hn (by simpa [Ctx.swap] using hle) (by simpa [Ctx.swap, Ctx.δ] using h)
theorem VR.swap_hi {Γ : Ctx} {k ver off : Nat} {v : Value} (h : VR Γ (.ptr (k + 1) ver off) v) : VR (Γ.swap k) (.ptr k ver off) v := by
  cases h with
  | ptr _ _ _ a hn' hle h => exact .ptr _ _ _ a (show k < Γ.n by omega) (by simpa [Ctx.swap] using hle) (by simpa [Ctx.swap, Ctx.δ] using h)

theorem BlkOK.swap {Γ : Ctx} {i j k : Nat} {b : Blk} (h : BlkOK Γ i b) (ht : b.top ≤ k) (hρ : (Γ.swap k).ρ j = Γ.ρ i) (hv : (Γ.swap k).ver j = Γ.ver i) (hb : (Γ.swap k).bsz j = Γ.bsz i) : BlkOK (Γ.swap k) j b := by
  cases b with
  | row ver cs fz ex =>
    obtain ⟨h2, c, t, h3, h4, h5, h6, h7, h8⟩ := h
    have hd : (Γ.swap k).δ j = Γ.δ i := by unfold Ctx.δ; rw [hb]
    refine ⟨hv.trans h2, c, t, by rw [hρ]; exact h3, by rw [hb]; exact h4, by rw [hd]; exact h5, by rw [hd]; exact h6, fun i x hx => ?_, fun o ho hI => h8 o (by rw [← hd]; exact ho) (by rw [← hρ]; exact hI)⟩
    rw [hd]
    obtain ⟨h9, v, h10, h11⟩ := h7 i x hx
    exact ⟨h9, v, h10, h11.swap (AV.tops_le ht x (List.mem_of_getElem? hx))⟩
  | map es =>
    obtain ⟨h2, c, t, h3, h4, h5, h6⟩ := h
    refine ⟨hv.trans h2, c, t, by rw [hρ]; exact h3, h4, fun i p hp => ?_, fun o hI => h6 o (by rw [← hρ]; exact hI)⟩
    obtain ⟨h7, x, h8, h9, h10⟩ := h5 i p hp
    exact ⟨h7, x, h8, h9.swap (by omega), h10.swap (by omega)⟩

/-- the blocks behind those that were there change places: they are alike -/
theorem Good.swap {base bar : Nat} {tc : List Nat} {Γ Δ : Ctx} {H : Heap} {B : Blk} (s0 : Sim Γ H) (g : Good base bar tc Γ Δ H (H ++ [B, B])) (hB : B.top = 0) : Good base bar tc Γ (Δ.swap H.length) H (H ++ [B, B]) := by
  obtain ⟨s, e, wf, hb, ht, hl⟩ := g
  have hn := s.n
  have hn0 := s0.n
  have hlen : (H ++ [B, B]).length = H.length + 2 := by simp
  have htop : ∀ (i : Nat) (b : Blk), H[i]? = some b → b.top ≤ H.length := fun i b hb => by
    have hi := (List.getElem?_eq_some_iff.1 hb).1
    cases b with
    | map es => exact Nat.zero_le _
    | row ver cs fz ex =>
      obtain ⟨_, c, t, _, _, _, _, h7, _⟩ := s0.blk i _ hb
      simp only [Blk.top]
      refine AV.le_tops fun x hx => ?_
      obtain ⟨j, hj, rfl⟩ := List.getElem_of_mem hx
      obtain ⟨_, v, _, hv⟩ := h7 j _ (List.getElem?_eq_getElem hj)
      rw [← hn0]; exact hv.top_le
  have hk : (H ++ [B, B])[H.length]? = some B := by simp
  have hk1 : (H ++ [B, B])[H.length + 1]? = some B := by rw [List.getElem?_append_right (by omega)]; simp
  refine ⟨⟨hn, fun i b hbb => ?_, fun i j hi hj hij => ?_, s.imm, fun g x hx => ⟨(s.glob g x hx).1, (s.glob g x hx).2.swap (by simp only [AV.top]; rw [(s.glob g x hx).1]; exact Nat.zero_le _)⟩⟩,
    ⟨e.n, fun i hi => ?_, fun i hi h => ?_, fun i hi => ?_, e.I, e.newI, e.frame, e.size, e.os, e.tape, e.output⟩, wf, hb, ht, hl⟩
  · by_cases h1 : i = H.length
    · subst h1
      rw [hk] at hbb
      simp only [Option.some.injEq] at hbb; subst hbb
      exact (s.blk _ _ hk1).swap (by omega) (by simp [Ctx.swap]) (by simp [Ctx.swap]) (by simp [Ctx.swap])
    · by_cases h2 : i = H.length + 1
      · subst h2
        rw [hk1] at hbb
        simp only [Option.some.injEq] at hbb; subst hbb
        exact (s.blk _ _ hk).swap (by omega) (by simp [Ctx.swap]) (by simp [Ctx.swap]) (by simp [Ctx.swap])
      · have hi : i < H.length := by
          have := (List.getElem?_eq_some_iff.1 hbb).1
          omega
        have hbb' := hbb
        rw [List.getElem?_append_left hi] at hbb
        exact (s.blk _ _ hbb').swap (htop _ _ hbb) (by simp [Ctx.swap, h1, h2]) (by simp [Ctx.swap, h1, h2]) (by simp [Ctx.swap, h1, h2])
  · have inj := s.inj
    simp only [Ctx.swap] at hij
    rw [hlen] at hi hj
    rw [hlen] at inj
    have a1 : ∀ i, i < H.length + 2 → (if i = H.length then Δ.ρ (H.length + 1) else if i = H.length + 1 then Δ.ρ H.length else Δ.ρ i) = Δ.ρ (if i = H.length then H.length + 1 else if i = H.length + 1 then H.length else i) := fun i _ => by
      split
      · rfl
      · split <;> rfl
    rw [a1 i hi, a1 j hj] at hij
    have := inj _ _ (by split <;> (try split) <;> omega) (by split <;> (try split) <;> omega) hij
    revert this
    split <;> split <;> (try split) <;> (try split) <;> omega
  · have h1 : i ≠ H.length := by omega
    have h2 : i ≠ H.length + 1 := by omega
    simpa [Ctx.swap, h1, h2] using e.ver i hi
  · have h1 : i ≠ H.length := by omega
    have h2 : i ≠ H.length + 1 := by omega
    simp only [Ctx.swap, h1, h2, if_false] at h ⊢
    exact e.same i hi h
  · simp only [Ctx.swap] at hi ⊢
    by_cases h1 : i = H.length
    · subst h1
      rw [if_pos rfl]
      rcases e.ρ (H.length + 1) (by omega) with ⟨h3, _⟩ | h3
      · omega
      · exact .inr h3
    · rw [if_neg h1]
      by_cases h2 : i = H.length + 1
      · subst h2
        rw [if_pos rfl]
        rcases e.ρ H.length (by omega) with ⟨h3, _⟩ | h3
        · omega
        · exact .inr h3
      · rw [if_neg h2]
        exact e.ρ i hi

/-! ## the run in the order of the text -/
theorem frG_shift (S : Nat → Bool) : ∀ (l : List AOper) (m : Nat) (f : Frame) (vs : List AV), frG S (m + 1) f l vs = frG (fun j => S (j + 1)) m f l vs
  | [], m, f, vs => by simp [frG]
  | q :: s, m, f, [] => by simp [frG]
  | q :: s, m, f, w :: vs => by simp only [frG]; rw [frG_shift S s]

theorem frG_val {S : Nat → Bool} {t : Nat} {x : AV} : ∀ (l : List AOper) (vs : List AV) (m : Nat) (fr : Frame), fget t (frG S m fr l vs) = some x →
    fget t fr = some x ∨ ∃ i o, l[i]? = some o ∧ vs[i]? = some x ∧ S (m + i) = true ∧ o.dst = some t
  | [], vs, m, fr, h => .inl (by simpa [frG] using h)
  | o :: r, [], m, fr, h => .inl (by simpa [frG] using h)
  | o :: r, v :: vs, m, fr, h => by
    simp only [frG] at h
    rcases frG_val r vs (m + 1) _ h with h | ⟨i, p, h1, h2, h3, h4⟩
    · split at h
      · rename_i hS
        rw [fget_fput] at h
        split at h
        · rename_i hd
          exact .inr ⟨0, o, rfl, by simpa using h, by simpa using hS, hd⟩
        · exact .inl h
      · exact .inl h
    · exact .inr ⟨i + 1, p, by simpa using h1, by simpa using h2, by rw [← h3]; congr 1; omega, h4⟩

theorem frG_vals {S : Nat → Bool} {t : Nat} : ∀ (l : List AOper) (vs vs' : List AV) (m : Nat) (fr fr' : Frame), vs.length = vs'.length → fget t fr = fget t fr' →
    (∀ i o, l[i]? = some o → o.dst = some t → S (m + i) = true → vs[i]? = vs'[i]?) → fget t (frG S m fr l vs) = fget t (frG S m fr' l vs')
  | [], vs, vs', m, fr, fr', hl, h, _ => by simpa [frG] using h
  | o :: r, [], [], m, fr, fr', hl, h, _ => by simpa [frG] using h
  | o :: r, [], v' :: vs', m, fr, fr', hl, h, _ => by simp at hl
  | o :: r, v :: vs, [], m, fr, fr', hl, h, _ => by simp at hl
  | o :: r, v :: vs, v' :: vs', m, fr, fr', hl, h, hv => by
    simp only [frG]
    refine frG_vals r vs vs' (m + 1) _ _ (by simpa using hl) ?_ (fun i p hp hd hS => by
      have := hv (i + 1) p (by simpa using hp) hd (by rw [← hS]; congr 1; omega)
      simpa using this)
    cases hS : S m
    · simpa using h
    · simp only [if_true, fget_fput]
      by_cases hd : o.dst = some t
      · have := hv 0 o rfl hd (by simpa using hS)
        simp only [List.getElem?_cons_zero, Option.some.injEq] at this
        rw [if_pos hd, if_pos hd, this]
      · rw [if_neg hd, if_neg hd]; exact h

theorem runTwin_trace {env : Env} {ex : Ex} {base bar : Nat} {H0 : Heap} : ∀ (l : List (Nat × AOper)) (fr : Frame) (H : Heap) (st' : St), runTwin env ex base bar H0 l fr H = some st' →
    ∃ (vals : List AV) (hs : List Heap), vals.length = l.length ∧ hs[0]? = some H ∧ hs[l.length]? = some st'.H ∧ st'.fr = frG (fun _ => true) 0 fr (l.map (·.2)) vals ∧
      ∀ (i k : Nat) (o : AOper), l[i]? = some (k, o) → ∃ v Hi Hi' tc, vals[i]? = some v ∧ hs[i]? = some Hi ∧
        aopC env ex true base bar o.op (fkeep o.looks (frG (fun j => decide (j < i)) 0 fr (l.map (·.2)) vals)) (if k = 0 then H0 else Hi) = some (v, Hi', tc) ∧
        hs[i + 1]? = some (if k = 0 then Hi else Hi') ∧ (k = 0 → v.top ≤ H0.length ∧ tc.isEmpty = true ∧ Hi'.length = H0.length) ∧ (k = 3 → tc.all (fun i => Nat.ble H0.length i) = true)
  | [], fr, H, st', h => by
    simp [runTwin] at h; subst h
    exact ⟨[], [H], rfl, rfl, rfl, rfl, by simp⟩
  | (k, o) :: r, fr, H, st', h => by
    simp only [runTwin] at h
    split at h <;> try (cases h; done)
    rename_i v H' tc hop
    split at h <;> try (cases h; done)
    rename_i hc
    obtain ⟨vals, hs, e1, e2, e4, e5, e6⟩ := runTwin_trace r _ _ st' h
    refine ⟨v :: vals, H :: hs, by simp [e1], rfl, by simpa using e4, ?_, fun i k' p hi => ?_⟩
    · rw [e5]; simp only [List.map_cons, frG, if_true]; rw [frG_shift]
    · cases i with
      | zero =>
        simp only [List.getElem?_cons_zero, Option.some.injEq, Prod.mk.injEq] at hi
        obtain ⟨rfl, rfl⟩ := hi
        refine ⟨v, H, H', tc, rfl, rfl, ?_, by simpa using e2, fun hk => ?_, fun hk => ?_⟩
        · rw [frG_none (by simp)]; exact hop
        · exact Decidable.byContradiction fun hne => hc (.inl ⟨hk, hne⟩)
        · exact Decidable.byContradiction fun hne => hc (.inr ⟨hk, hne⟩)
      | succ i =>
        obtain ⟨w, Hi, Hi', tc', f1, f2, f4, f5, f7, f8⟩ := e6 i k' p (by simpa using hi)
        refine ⟨w, Hi, Hi', tc', by simpa using f1, by simpa using f2, ?_, by simpa using f5, f7, f8⟩
        have hf : frG (fun j => decide (j < i + 1)) 0 fr (((k, o) :: r).map (·.2)) (v :: vals) = frG (fun j => decide (j < i)) 0 (fput o.dst v fr) (r.map (·.2)) vals := by
          simp only [List.map_cons, frG, Nat.zero_lt_succ, decide_true, if_true]
          rw [frG_shift]
          simp only [Nat.add_lt_add_iff_right]
        rw [hf]; exact f4

theorem zeroOf_top {t : TypeId} {z : AV} (hz : zeroOf P t = some z) : z.top = 0 := by
  unfold zeroOf at hz
  split at hz <;> try (cases hz; done)
  split at hz <;> try (cases hz; done)
  split at hz <;> try (cases hz; done)
  rename_i x hx
  split at hz <;> try (cases hz; done)
  simp only [Option.some.injEq] at hz; subst hz
  have flat : ∀ (vs : List Value) (xs : List AV), ofV.flats vs = some xs → AV.top.tops xs = 0 := by
    intro vs
    induction vs with
    | nil => intro xs h; simp [ofV.flats] at h; subst h; rfl
    | cons v vs ih =>
      intro xs h
      simp only [ofV.flats] at h
      split at h
      · rename_i a as ha has
        simp only [Option.some.injEq] at h; subst h
        simp only [AV.top.tops, ih _ has, Nat.max_zero]
        unfold ofV.flat1 at ha
        split at ha <;> first | (cases ha; done) | (simp only [Option.some.injEq] at ha; subst ha; rfl)
      · cases h
  unfold ofV at hx
  split at hx <;> first
    | (simp only [Option.some.injEq] at hx; subst hx; rfl)
    | skip
  · obtain ⟨a, ha, rfl⟩ := Option.map_eq_some_iff.1 hx
    exact flat _ _ ha
  · split at hx
    · simp only [Option.some.injEq] at hx; subst hx; rfl
    · cases hx
  · cases hx

/-! ## a run that sees the first blocks alone -/
def Ctx.wide (Γ Δ : Ctx) (k : Nat) : Ctx :=
  { Δ with
    n := Γ.n
    ρ := fun i => if i < k then Δ.ρ i else Γ.ρ i
    ver := fun i => if i < k then Δ.ver i else Γ.ver i
    bsz := fun i => if i < k then Δ.bsz i else Γ.bsz i }

theorem VR.wide {Γ Δ : Ctx} {k : Nat} (hk : k ≤ Γ.n) (hn : Δ.n = k) {x : AV} {v : Value} (h : VR Δ x v) : VR (Γ.wide Δ k) x v := by
  induction h with
  | int k n => exact .int k n
  | bool b => exact .bool b
  | str s => exact .str s
  | nilp => exact .nilp
  | nils => exact .nils
  | nilm => exact .nilm
  | nilf => exact .nilf
  | nili => exact .nili
  | agg cs vs hl h1 _ ih => exact .agg cs vs hl h1 fun i c v hc hv => ih i c v hc hv
  | tup cs vs hl _ ih => exact .tup cs vs hl fun i c v hc hv => ih i c v hc hv
  | emp sz ex a cap hex => exact .emp sz ex a cap hex
  | lst sz ex xs b o cap f hlc hex hsz hcell _ ih => exact .lst sz ex xs b o cap f hlc hex hsz hcell fun i x j c hx hc => ih i x j c hx hc
  | fp x b o f h1 hcell _ ih => exact .fp x b o f h1 hcell fun j c hc => ih j c hc
  | ptr i ver off a hni hle h =>
    have h1 : i < k := by omega
    exact .ptr i ver off a (Nat.lt_of_lt_of_le h1 hk) (by simpa [Ctx.wide, h1] using hle) (by simpa [Ctx.wide, Ctx.δ, h1] using h)
  | vec i ver off len sz a cap hni hle h =>
    have h1 : i < k := by omega
    exact .vec i ver off len sz a cap (Nat.lt_of_lt_of_le h1 hk) (by simpa [Ctx.wide, h1] using hle) (by simpa [Ctx.wide, Ctx.δ, h1] using h)
  | fn f xs ys us vs hl hl' _ _ ih ih' => exact .fn f xs ys us vs hl hl' (fun i c v hc hv => ih i c v hc hv) (fun i c v hc hv => ih' i c v hc hv)
  | ifc t x v _ ih => exact .ifc t x v ih
  | dead a n c => exact .dead a n c
  | mp i r hni h =>
    have h1 : i < k := by omega
    exact .mp i r (Nat.lt_of_lt_of_le h1 hk) (by simpa [Ctx.wide, h1] using h)

theorem BlkOK.wide {Γ Δ : Ctx} {i k : Nat} {b : Blk} (hk : k ≤ Γ.n) (hn : Δ.n = k) (hi : i < k) (h : BlkOK Δ i b) : BlkOK (Γ.wide Δ k) i b := by
  have hρ : (Γ.wide Δ k).ρ i = Δ.ρ i := by simp [Ctx.wide, hi]
  have hv : (Γ.wide Δ k).ver i = Δ.ver i := by simp [Ctx.wide, hi]
  have hb : (Γ.wide Δ k).bsz i = Δ.bsz i := by simp [Ctx.wide, hi]
  have hd : (Γ.wide Δ k).δ i = Δ.δ i := by unfold Ctx.δ; rw [hb]
  cases b with
  | row ver cs fz ex =>
    obtain ⟨h2, c, t, h3, h4, h5, h6, h7, h8⟩ := h
    refine ⟨hv.trans h2, c, t, by rw [hρ]; exact h3, by rw [hb]; exact h4, by rw [hd]; exact h5, by rw [hd]; exact h6, fun i x hx => ?_, fun o ho hI => h8 o (by rw [← hd]; exact ho) (by rw [← hρ]; exact hI)⟩
    rw [hd]
    obtain ⟨h9, v, h10, h11⟩ := h7 i x hx
    exact ⟨h9, v, h10, h11.wide hk hn⟩
  | map es =>
    obtain ⟨h2, c, t, h3, h4, h5, h6⟩ := h
    refine ⟨hv.trans h2, c, t, by rw [hρ]; exact h3, h4, fun i p hp => ?_, fun o hI => h6 o (by rw [← hρ]; exact hI)⟩
    obtain ⟨h7, x, h8, h9, h10⟩ := h5 i p hp
    exact ⟨h7, x, h8, h9.wide hk hn, h10.wide hk hn⟩

theorem Sim.low {Γ : Ctx} {H X : Heap} (s : Sim Γ (H ++ X)) (ht : ∀ (i : Nat) (b : Blk), H[i]? = some b → b.top ≤ H.length) : Sim (Γ.cut H.length) H := by
  refine ⟨rfl, fun i b hb => ?_, fun i j hi hj hij => s.inj i j (by simp; omega) (by simp; omega) hij, s.imm, s.glob.cut⟩
  exact (s.blk i b (by rw [List.getElem?_append_left (List.getElem?_eq_some_iff.1 hb).1]; exact hb)).cut (ht i b hb)

theorem BlkOK.in {Γ : Ctx} {i : Nat} {b : Blk} (h : BlkOK Γ i b) : Γ.ρ i < Γ.w.heap.size ∧ (∀ o, Γ.I (Γ.ρ i) o → True) := by
  refine ⟨?_, fun _ _ => trivial⟩
  cases b with
  | row ver cs fz ex =>
    obtain ⟨h2, c, t, h3, _⟩ := h
    exact (Array.getElem?_eq_some_iff.1 h3).1
  | map es =>
    obtain ⟨h2, c, t, h3, _⟩ := h
    exact (Array.getElem?_eq_some_iff.1 h3).1

/-- what was not seen is as it was -/
theorem Good.wide {base bar : Nat} {Γ Δ : Ctx} {H H' X : Heap} (s : Sim Γ (H ++ X)) (g : Good base bar [] (Γ.cut H.length) Δ H H') (hl : H'.length = H.length) : Good base bar [] Γ (Γ.wide Δ H.length) (H ++ X) (H ++ X) := by
  have hHH : H' = H := List.ext_getElem? fun i => by
    by_cases hi : i < H.length
    · exact g.tc i hi (by simp)
    · rw [List.getElem?_eq_none (by omega), List.getElem?_eq_none (by omega)]
  subst hHH
  obtain ⟨s2, e, wf, hb, ht, _⟩ := g
  have n2 : Δ.n = H'.length := s2.n
  have nΓ : Γ.n = H'.length + X.length := by rw [s.n]; simp
  have hk : H'.length ≤ Γ.n := by omega
  have hn0 : (Γ.cut H'.length).n = H'.length := rfl
  have hev : Evo Γ (Γ.wide Δ H'.length) := by
    refine ⟨Nat.le_refl _, fun i hi => ?_, fun i hi h => ?_, fun i hi => ?_, e.I, fun b o h => ?_, fun b hb hne => ?_, e.size, e.os, e.tape, e.output⟩
    · by_cases h : i < H'.length
      · have := e.ver i h
        simpa [Ctx.wide, h, Ctx.cut] using this
      · simp [Ctx.wide, h]
    · by_cases h1 : i < H'.length
      · simp only [Ctx.wide, h1, if_true] at h ⊢
        exact e.same i h1 h
      · simp [Ctx.wide, h1]
    · by_cases h1 : i < H'.length
      · simp only [Ctx.wide, h1, if_true]
        rcases e.ρ i (by omega) with ⟨_, h2⟩ | h2
        · exact .inl ⟨hi, h2⟩
        · exact .inr h2
      · simp only [Ctx.wide, h1, if_false]
        exact .inl ⟨hi, trivial⟩
    · rcases e.newI b o h with h | h | ⟨i, hi, h⟩
      · exact .inl h
      · exact .inr (.inl h)
      · exact .inr (.inr ⟨i, Nat.lt_of_lt_of_le hi hk, h⟩)
    · exact e.frame b hb fun i hi => hne i (Nat.lt_of_lt_of_le hi hk)
  refine ⟨⟨s.n, fun i b hbb => ?_, fun i j hi hj hij => ?_, s2.imm, fun gl x hx => ⟨(s2.glob gl x hx).1, (s2.glob gl x hx).2.wide hk n2⟩⟩, hev, fun _ _ h => h, fun _ _ => rfl, fun _ _ _ => rfl, Nat.le_refl _⟩
  · by_cases h1 : i < H'.length
    · exact (s2.blk i b (by rwa [List.getElem?_append_left h1] at hbb)).wide hk n2 h1
    · have hB := s.blk i b hbb
      have hin := hB.in.1
      have hil := (List.getElem?_eq_some_iff.1 hbb).1
      have hρ : (Γ.wide Δ H'.length).ρ i = Γ.ρ i := by simp [Ctx.wide, h1]
      have hfar : ∀ j, j < H'.length → Γ.ρ j ≠ Γ.ρ i := fun j hj h => by
        have := s.inj j i (by simp; omega) hil h
        omega
      refine hB.mono hev (by simp [Ctx.wide, h1]) (by simp [Ctx.wide, h1]) ?_ fun o h => ?_
      · rw [hρ]; exact e.frame _ hin hfar
      · rw [hρ] at h
        rcases e.newI _ o h with h | h | ⟨j, hj, h⟩
        · exact h
        · exact absurd hin (Nat.not_lt.2 h)
        · exact absurd h (hfar j hj)
  · have mixed : ∀ i j, i < H'.length → ¬ j < H'.length → j < (H' ++ X).length → Δ.ρ i ≠ Γ.ρ j := fun i j hi hj hjl h => by
      have hbj : (H' ++ X)[j]? = some ((H' ++ X)[j]) := List.getElem?_eq_getElem hjl
      have hin := (s.blk j _ hbj).in.1
      rcases e.ρ i (by omega) with ⟨_, h2⟩ | h2
      · have := s.inj i j (by simp; omega) hjl (h2.symm.trans h)
        omega
      · rw [h] at h2
        exact absurd hin (Nat.not_lt.2 h2)
    by_cases h1 : i < H'.length <;> by_cases h2 : j < H'.length
    · simp only [Ctx.wide, h1, h2, if_true] at hij
      exact s2.inj i j h1 h2 hij
    · simp only [Ctx.wide, h1, h2, if_true, if_false] at hij
      exact absurd hij (mixed i j h1 h2 hj)
    · simp only [Ctx.wide, h1, h2, if_true, if_false] at hij
      exact absurd hij.symm (mixed j i h2 h1 hi)
    · simp only [Ctx.wide, h1, h2, if_false] at hij
      exact s.inj i j hi hj hij

/-! ## any order -/
def twMk (c1 c2 : Bool) (B : Blk) : Heap := (if c1 then [B] else []) ++ (if c2 then [B] else [])
def twVals (c1 c2 : Bool) (e2 : Nat) (v1 : AV) (vals : List AV) : List AV := if !c1 && c2 then vals.set e2 v1 else vals

theorem twVals_same {c1 c2 : Bool} {e2 : Nat} {v1 : AV} {vals : List AV} (h : c1 = true ∨ c2 = false) : twVals c1 c2 e2 v1 vals = vals := by
  unfold twVals; cases c1 <;> cases c2 <;> simp_all

structure TInv (nt base bar : Nat) (ops : Array Oper) (ls : List AOper) (fr0 : Frame) (vals : List AV) (e1 e2 s1 s2 : Nat) (v1 : AV) (HX : Bool → Bool → Bool → Bool → Heap) (Γ : Ctx) (H0 : Heap) (listed : Array Bool) (a : Act) (Γc : Ctx) : Prop where
  size : listed.size = ops.size
  closed : ∀ i o, listed.getD i false = true → ops[i]? = some o → ∀ e ∈ o.after.toList, Region.binds .any e = true → listed.getD e.on false = true
  good : Good base bar (List.range H0.length) Γ Γc H0 (HX (listed.getD e1 false) (listed.getD e2 false) (listed.getD s1 false) (listed.getD s2 false))
  fits : Fits nt Γc (frG (fun i => listed.getD i false) 0 fr0 ls (twVals (listed.getD e1 false) (listed.getD e2 false) e2 v1 vals)) a

theorem twin_nocall {env : Env} {ex : Ex} {k base bar : Nat} {op : AOp} (hk : k ≠ 0) (h : twinFits k op = true) (fr : Frame) (H : Heap) : aopC env ex true base bar op fr H = aop base bar op fr H := by
  cases op <;> first | rfl | (exfalso; unfold twinFits at h; split at h <;> simp_all [heapFree])

theorem fits_bad {k : Nat} : twinFits k .bad = false := by
  unfold twinFits
  split <;> first | rfl | (rename_i h; cases h) | simp_all [heapFree]

theorem alloc_run {base bar : Nat} {z : AV} {fr : Frame} {H H' : Heap} {v : AV} {tc : List Nat} (h : aop base bar (.alloc z) fr H = some (v, H', tc)) :
    v = .ptr H.length 0 0 ∧ H' = H ++ [.row 0 z.cells 0 true] ∧ ∀ H2 : Heap, aop base bar (.alloc z) fr H2 = some (.ptr H2.length 0 0, H2 ++ [.row 0 z.cells 0 true], []) := by
  simp only [aop] at h ⊢
  split at h <;> try (cases h; done)
  rename_i hz
  simp only [Option.some.injEq, Prod.mk.injEq] at h
  obtain ⟨rfl, rfl, rfl⟩ := h
  exact ⟨rfl, rfl, fun H2 => by rw [if_neg hz]⟩

theorem astore_run {base bar size id : Nat} {H H' : Heap} {p v : AV} (h : astore base bar H size p v = some (H', id)) : H'.length = H.length ∧ ∀ i, i ≠ id → H'[i]? = H[i]? := by
  cases p with
  | ptr id0 ver off =>
    simp only [astore] at h
    split at h
    · rename_i ver' cs fz ex hrow
      by_cases hc : ver' = ver ∧ v.cells.length = size ∧ fz ≤ off ∧ off + size ≤ cs.length ∧ bar ≤ id0 ∧ (base ≤ id0 ∨ AV.top.tops v.cells ≤ id0 + 1)
      · rw [if_pos hc] at h
        simp only [Option.some.injEq, Prod.mk.injEq] at h
        obtain ⟨rfl, rfl⟩ := h
        exact ⟨by simp, fun i hi => List.getElem?_set_ne (fun e => hi e.symm)⟩
      · rw [if_neg hc] at h; cases h
    · cases h
  | _ => simp [astore] at h
theorem store_run {base bar size : Nat} {p x : Opd} {fr : Frame} {H H' : Heap} {v : AV} {tc : List Nat} (h : aop base bar (.store size p x) fr H = some (v, H', tc)) : H'.length = H.length ∧ ∀ i, i ∉ tc → H'[i]? = H[i]? := by
  simp only [aop] at h
  split at h <;> try (cases h; done)
  split at h <;> try (cases h; done)
  split at h <;> try (cases h; done)
  rename_i H2 id hst
  simp only [Option.some.injEq, Prod.mk.injEq] at h
  obtain ⟨_, rfl, rfl⟩ := h
  obtain ⟨h1, h2⟩ := astore_run hst
  exact ⟨h1, fun i hi => h2 i (fun e => hi (by simp [e]))⟩

set_option maxHeartbeats 200000 in
theorem runTwin_sound {env : Env} {ex : Ex} (HF : FunsOK P env) (HK : KnownOK P env) (HE : ExOK P ex) (hmix : P.follows .mixedOrders = true) {nt base bar id : Nat} {ops : Array Oper} {l : List AOper} {l' : List (Nat × AOper)} (hl : cOpers P nt ops ops.toList = some l)
    (hct : cTwin ops l = some l') {st st' : St} (h : runTwin env ex base bar st.H l' st.fr st.H = some st') {Γ : Ctx} {a : Act} (F : Fits nt Γ st.fr a) (s : Sim Γ st.H) (hbase : base ≤ st.H.length) (hbar : bar ≤ base) {Q : Exit → Act → World → Prop}
    (hQ : ∀ (Δ : Ctx) (a' : Act), Fits nt Δ st'.fr a' → Good base bar (List.range st.H.length) Γ Δ st.H st'.H → Q .normal a' Δ.w) : (Code.region id ops true).wp P Q a Γ.w := by
  obtain ⟨hlen0, hget⟩ := cOpers_get hl
  have hlen : l.length = ops.size := by simpa using hlen0
  unfold cTwin at hct
  split at hct <;> try (cases hct; done)
  rename_i hok
  simp only [Option.some.injEq] at hct
  generalize hB : befs ops.toList [] = B at hct hok
  simp only [twinOK, Bool.and_eq_true] at hok
  obtain ⟨⟨⟨⟨⟨⟨⟨h4, hfine⟩, hall1⟩, hall2⟩, hbs1⟩, hbs2⟩, hbs3⟩, htags⟩ := hok
  have h4 := Nat.le_of_ble_eq_true h4
  obtain ⟨e1, he1⟩ : ∃ e1, e1 = ops.size - 4 := ⟨_, rfl⟩
  obtain ⟨e2, he2⟩ : ∃ e2, e2 = ops.size - 3 := ⟨_, rfl⟩
  obtain ⟨s1, hs1⟩ : ∃ s1, s1 = ops.size - 2 := ⟨_, rfl⟩
  obtain ⟨s2, hs2⟩ : ∃ s2, s2 = ops.size - 1 := ⟨_, rfl⟩
  have e21 : e2 = e1 + 1 := by omega
  have s1e : s1 = e2 + 1 := by omega
  have s2e : s2 = s1 + 1 := by omega
  have nse : ops.size = s2 + 1 := by omega
  rw [← he1, ← he2] at hall2 htags
  rw [← he1] at hall1
  rw [← he1, ← hs1] at hbs1
  rw [← he2, ← hs1] at hbs2
  rw [← hs2] at hbs3
  have hl'len : l'.length = ops.size := by rw [← hct]; simp [hlen]
  have htag : ∀ i, i < ops.size → ∃ o, l[i]? = some o ∧ twinFits (twinTag ops.size i) o.op = true ∧ o.guard = none ∧ (twinTag ops.size i = 0 → blindTo ops i e1 = true ∧ blindTo ops i e2 = true) ∧ (twinTag ops.size i = 3 → (ops.getD i default).dst = none) := fun i hi => by
    have := List.all_eq_true.1 htags i (by rw [List.mem_range, hlen]; exact hi)
    split at this
    · rename_i o ho
      simp only [Bool.and_eq_true, Option.isNone_iff_eq_none, Bool.or_eq_true, bne_iff_ne, ne_eq] at this
      obtain ⟨⟨⟨p1, p2⟩, p3⟩, p4⟩ := this
      exact ⟨o, ho, p1, p2, fun h => p3.resolve_left (fun e => e h), fun h => p4.resolve_left (fun e => e h)⟩
    · cases this
  have hl'get : ∀ i o, ops[i]? = some o → ∃ c, l'[i]? = some (twinTag ops.size i, c) ∧ c.dst = o.dst ∧ c.op = (cOp P o.op).getD .bad ∧ cGuard ops o.guard = some none ∧ o.dst.all (fun d => Nat.blt d nt) = true ∧ c.looks = Oper.looksAt ops o ∧ twinFits (twinTag ops.size i) c.op = true ∧ (twinTag ops.size i = 3 → o.dst = none) ∧
      (twinTag ops.size i = 0 → ∀ j oj d, (j = e1 ∨ j = e2) → ops[j]? = some oj → oj.dst = some d → d ∉ c.looks) := fun i o ho => by
    have hi : i < ops.size := (Array.getElem?_eq_some_iff.1 ho).1
    obtain ⟨g, h1, h2, h3⟩ := hget i o (by simpa using ho)
    obtain ⟨c, t2, t3, t4, t5, t6⟩ := htag i hi
    rw [h1] at t2
    simp only [Option.some.injEq] at t2; subst t2
    simp only at t3 t4; subst t4
    have hgo : ops.getD i default = o := by simp [Array.getD_eq_getD_getElem?, ho]
    refine ⟨{ dst := o.dst, op := (cOp P o.op).getD .bad, guard := none, looks := Oper.looksAt ops (ops.getD i default) }, ?_, rfl, rfl, h2, h3, by simp only [hgo], t3, fun h => by have := t6 h; rwa [hgo] at this, fun h j oj d hj hoj hd => ?_⟩
    · rw [← hct, List.getElem?_map, List.getElem?_zipIdx, h1]; simp
    · have hb : blindTo ops i j = true := by rcases hj with rfl | rfl; exact (t5 h).1; exact (t5 h).2
      unfold blindTo at hb
      rw [show (ops.getD j default).dst = some d by simp [Array.getD_eq_getD_getElem?, hoj, hd]] at hb
      simpa using hb
  -- edges and pairs
  have hf := List.all_eq_true.1 hfine
  have hedge : ∀ i o, ops[i]? = some o → ∀ e ∈ o.after.toList, Region.binds .any e = true → e.on < i := fun i o ho e he hb => by
    have hi : i < ops.size := (Array.getElem?_eq_some_iff.1 ho).1
    have := hf i (by rw [List.mem_range, hlen]; exact hi)
    simp only [Bool.and_eq_true] at this
    have h2 := List.all_eq_true.1 this.1 e (by simpa [Array.getD_eq_getD_getElem?, ho] using he)
    simpa [hb] using h2
  have hpair : ∀ i j, j < i → i < ops.size → isBef B j i = true ∨ ∀ oi oj, ops[i]? = some oi → ops[j]? = some oj → Oper.apart ops oj oi = true := fun i j hji hi => by
    have := hf i (by rw [List.mem_range, hlen]; exact hi)
    simp only [Bool.and_eq_true] at this
    have h2 := List.all_eq_true.1 this.2 j (by simpa using hji)
    simp only [Bool.or_eq_true, Bool.and_eq_true] at h2
    rcases h2 with h2 | ⟨_, h3⟩
    · exact .inl h2
    · exact .inr fun oi oj hoi hoj => by simpa [Array.getD_eq_getD_getElem?, hoi, hoj] using h3
  have hbeflt : ∀ i j o, ops[i]? = some o → isBef B j i = true → j < i := fun i => by
    induction i using Nat.strongRecOn with
    | _ i ih =>
      intro j o ho hb
      rw [← hB] at hb
      obtain ⟨e, he, hbd, hor⟩ := (isBef_iff ho (hedge i o ho)).1 hb
      have hlt := hedge i o ho e he hbd
      have hi : i < ops.size := (Array.getElem?_eq_some_iff.1 ho).1
      rcases hor with rfl | hor
      · exact hlt
      · have hoe : ops[e.on]? = some (ops[e.on]'(by omega)) := Array.getElem?_eq_getElem _
        have := ih e.on hlt j _ hoe (by rw [← hB]; exact hor)
        omega
  have hbef : ∀ {listed : Array Bool}, (∀ i o, listed.getD i false = true → ops[i]? = some o → ∀ e ∈ o.after.toList, Region.binds .any e = true → listed.getD e.on false = true) →
      ∀ i j o, ops[i]? = some o → (∀ e ∈ o.after.toList, Region.binds .any e = true → listed.getD e.on false = true) → isBef B j i = true → listed.getD j false = true := fun {listed} hc i => by
    induction i using Nat.strongRecOn with
    | _ i ih =>
      intro j o ho hall hb
      rw [← hB] at hb
      obtain ⟨e, he, hbd, hor⟩ := (isBef_iff ho (hedge i o ho)).1 hb
      have hon := hall e he hbd
      rcases hor with rfl | hor
      · exact hon
      · have hlt := hedge i o ho e he hbd
        have hi : i < ops.size := (Array.getElem?_eq_some_iff.1 ho).1
        have hoe : ops[e.on]? = some (ops[e.on]'(by omega)) := Array.getElem?_eq_getElem _
        exact ih e.on hlt j _ hoe (hc e.on _ hon hoe) (by rw [← hB]; exact hor)
  -- the two blocks
  have he1s : e1 < ops.size := by omega
  have he2s : e2 < ops.size := by omega
  have hs1s : s1 < ops.size := by omega
  have hs2s : s2 < ops.size := by omega
  have hlt12 : e1 < e2 := by omega
  have tag0 : ∀ i, i < e1 → twinTag ops.size i = 0 := fun i hi => by
    unfold twinTag
    rw [if_neg (by omega), if_neg (by omega), if_pos (by simp only [Nat.blt_eq]; omega)]
  have tag1 : twinTag ops.size e1 = 1 := by unfold twinTag; rw [if_pos (by omega)]
  have tag2 : twinTag ops.size e2 = 2 := by unfold twinTag; rw [if_neg (by omega), if_pos (by omega)]
  have tag3 : twinTag ops.size s1 = 3 := by unfold twinTag; rw [if_neg (by omega), if_neg (by omega), if_neg (by simp only [Nat.blt_eq]; omega)]
  have tag4 : twinTag ops.size s2 = 3 := by unfold twinTag; rw [if_neg (by omega), if_neg (by omega), if_neg (by simp only [Nat.blt_eq]; omega)]
  have five : ∀ i, i < ops.size → i < e1 ∨ i = e1 ∨ i = e2 ∨ i = s1 ∨ i = s2 := fun i hi => by omega
  have ho1 : ops[e1]? = some ops[e1] := Array.getElem?_eq_getElem he1s
  have ho2 : ops[e2]? = some ops[e2] := Array.getElem?_eq_getElem he2s
  have ho3 : ops[s1]? = some ops[s1] := Array.getElem?_eq_getElem hs1s
  have ho4 : ops[s2]? = some ops[s2] := Array.getElem?_eq_getElem hs2s
  generalize hoe1 : ops[e1] = o1 at ho1
  generalize hoe2 : ops[e2] = o2 at ho2
  generalize hoe3 : ops[s1] = o3 at ho3
  generalize hoe4 : ops[s2] = o4 at ho4
  have hgd1 : ops.getD e1 default = o1 := by simp [Array.getD_eq_getD_getElem?, ho1]
  have hgd2 : ops.getD e2 default = o2 := by simp [Array.getD_eq_getD_getElem?, ho2]
  obtain ⟨t, hop1, hop2⟩ : ∃ t, o1.op = .alloc t ∧ o2.op = .alloc t := by
    have key : ∀ (op : Op) t, allocOf op = some t → op = .alloc t := fun op t h => by
      unfold allocOf at h
      split at h
      · simp only [Option.some.injEq] at h; subst h; rfl
      · cases h
    rw [hgd1] at hall1
    rw [hgd1, hgd2] at hall2
    obtain ⟨t1, ht1⟩ := Option.isSome_iff_exists.1 hall1
    rw [ht1] at hall2
    have ht2 : allocOf o2.op = some t1 := by
      have := of_decide_eq_true (p := some t1 = allocOf o2.op) (by simpa using hall2)
      exact this.symm
    exact ⟨t1, key _ _ ht1, key _ _ ht2⟩
  obtain ⟨c1, q1, q3, q4, q5, q6, q7, q8, _, _⟩ := hl'get e1 o1 ho1
  rw [tag1] at q1 q8
  obtain ⟨c2, r1, r3, r4, r5, r6, r7, r8, _, _⟩ := hl'get e2 o2 ho2
  rw [tag2] at r1 r8
  obtain ⟨c3, u1, u3, u4, u5, u6, u7, u8, u9, _⟩ := hl'get s1 o3 ho3
  rw [tag3] at u1 u8 u9
  obtain ⟨c4, w1, w3, w4, w5, w6, w7, w8, w9, _⟩ := hl'get s2 o4 ho4
  rw [tag4] at w1 w8 w9
  obtain ⟨z, hz1, hz2, hz0⟩ : ∃ z, c1.op = .alloc z ∧ c2.op = .alloc z ∧ z.top = 0 := by
    rw [hop1] at q4
    rw [hop2] at r4
    simp only [cOp] at q4 r4
    cases hc : zeroOf P t with
    | none => rw [hc] at q4; simp at q4; rw [q4] at q8; cases q8
    | some z =>
      rw [hc] at q4 r4
      simp only [Option.map_some, Option.getD_some] at q4 r4
      exact ⟨z, q4, r4, zeroOf_top hc⟩
  -- the run in the order of the text
  obtain ⟨vals, hs, t1, t2, t4, t5, t6⟩ := runTwin_trace l' st.fr st.H st' h
  obtain ⟨ls, hls⟩ : ∃ ls, ls = l'.map (·.2) := ⟨_, rfl⟩
  rw [← hls] at t5 t6
  have before : ∀ i, i ≤ e1 → hs[i]? = some st.H := fun i => by
    induction i with
    | zero => intro _; exact t2
    | succ i ih =>
      intro hi
      have hio : ops[i]? = some (ops[i]'(by omega)) := Array.getElem?_eq_getElem _
      obtain ⟨c, a1, _⟩ := hl'get i _ hio
      obtain ⟨v, Hi, Hi', tc, b1, b2, b4, b5, _⟩ := t6 i _ c a1
      rw [ih (by omega)] at b2
      simp only [Option.some.injEq] at b2; subst b2
      rw [b5, if_pos (tag0 i (by omega))]
  obtain ⟨v1, Hi1, H1, tc1, x1, x2, x4, x5, _, _⟩ := t6 e1 1 c1 q1
  rw [before e1 (Nat.le_refl _)] at x2
  simp only [Option.some.injEq] at x2; subst x2
  rw [if_neg (by decide)] at x4 x5
  rw [twin_nocall (by decide) q8, hz1] at x4
  obtain ⟨hv1, hH1, mk1⟩ := alloc_run x4
  obtain ⟨v2, Hi2, H2, tc2, y1, y2, y4, y5, _, _⟩ := t6 e2 2 c2 r1
  rw [e21, x5] at y2
  simp only [Option.some.injEq] at y2; subst y2
  rw [if_neg (by decide)] at y4 y5
  rw [twin_nocall (by decide) r8, hz2] at y4
  obtain ⟨hv2, hH2, mk2⟩ := alloc_run y4
  obtain ⟨BB, hBB⟩ : ∃ BB : Blk, BB = .row 0 z.cells 0 true := ⟨_, rfl⟩
  rw [← hBB] at hH1 hH2 mk1 mk2
  have hBtop : BB.top = 0 := by
    rw [hBB]
    exact Nat.eq_zero_of_le_zero (AV.le_tops fun c hc => AV.cells_top (Nat.le_of_eq hz0) c hc)
  have hH1l : H1.length = st.H.length + 1 := by rw [hH1]; simp
  rw [hH1l] at hv2
  have hH2' : H2 = st.H ++ [BB, BB] := by rw [hH2, hH1]; simp
  have hH2l : H2.length = st.H.length + 2 := by rw [hH2']; simp
  obtain ⟨v3, Hi3, H3, tc3, z1, z2, z4, z5, _, z7⟩ := t6 s1 3 c3 u1
  rw [s1e, y5] at z2
  simp only [Option.some.injEq] at z2; subst z2
  rw [if_neg (by decide)] at z4 z5
  obtain ⟨v4, Hi4, H4, tc4, p1, p2, p4, p5, _, p7⟩ := t6 s2 3 c4 w1
  rw [s2e, z5] at p2
  simp only [Option.some.injEq] at p2; subst p2
  rw [if_neg (by decide)] at p4 p5
  have low : ∀ {c : AOper} {fr : Frame} {Ha Hb : Heap} {v : AV} {tc : List Nat}, twinFits 3 c.op = true → aopC env ex true base bar c.op fr Ha = some (v, Hb, tc) → tc.all (fun i => Nat.ble st.H.length i) = true → (∃ X, Ha = st.H ++ X) → ∃ X, Hb = st.H ++ X := fun {c fr Ha Hb v tc} hf hr htc hX => by
    rw [twin_nocall (by decide) hf] at hr
    obtain ⟨X, rfl⟩ := hX
    have : ∃ size p x, c.op = .store size p x := by
      cases hc : c.op <;> rw [hc] at hf <;> simp only [twinFits, Bool.false_eq_true] at hf
      exact ⟨_, _, _, rfl⟩
    obtain ⟨size, p, x, hc⟩ := this
    rw [hc] at hr
    obtain ⟨s1, s2⟩ := store_run hr
    refine ⟨Hb.drop st.H.length, ?_⟩
    have : Hb.take st.H.length = st.H := List.ext_getElem? fun i => by
      by_cases hi : i < st.H.length
      · rw [List.getElem?_take_of_lt hi, s2 i (fun h => by
          have := Nat.le_of_ble_eq_true (List.all_eq_true.1 htc i h)
          omega), List.getElem?_append_left hi]
      · rw [List.getElem?_eq_none (by simp; omega), List.getElem?_eq_none (by omega)]
    conv => lhs; rw [← List.take_append_drop st.H.length Hb]
    rw [this]
  obtain ⟨X3, hX3⟩ := low u8 z4 (z7 rfl) ⟨_, hH2'⟩
  obtain ⟨X4, hX4⟩ := low w8 p4 (p7 rfl) ⟨_, hX3⟩
  have hst' : st'.H = H4 := by
    rw [hl'len, nse, p5] at t4
    simp only [Option.some.injEq] at t4
    exact t4.symm
  obtain ⟨HX, hHX⟩ : ∃ HX : Bool → Bool → Bool → Bool → Heap, HX = fun b1 b2 b3 b4 => if b4 then H4 else if b3 then H3 else st.H ++ twMk b1 b2 BB := ⟨_, rfl⟩
  have hxx : ∀ b1 b2 b3 b4, ∃ X, HX b1 b2 b3 b4 = st.H ++ X := fun b1 b2 b3 b4 => by
    rw [hHX]
    cases b4
    · cases b3
      · exact ⟨_, rfl⟩
      · exact ⟨X3, hX3⟩
    · exact ⟨X4, hX4⟩
  have hvl : vals.length = ops.size := by rw [t1, hl'len]
  have hlsl : ls.length = ops.size := by rw [hls]; simp [hl'len]
  have hlsget : ∀ (i k : Nat) (c : AOper), l'[i]? = some (k, c) → ls[i]? = some c := fun i k c hi => by rw [hls, List.getElem?_map, hi]; rfl
  have twF : ∀ {c1 c2 : Bool}, (c1 = true ∨ c2 = false) → twVals c1 c2 e2 v1 vals = vals := fun {c1 c2} h => twVals_same h
  have fin : ∀ (listed : Array Bool) (a : Act) (Γc : Ctx), TInv nt base bar ops ls st.fr vals e1 e2 s1 s2 v1 HX Γ st.H listed a Γc → (∀ j, j < ops.size → listed.getD j false = true) → Q .normal a Γc.w := fun listed a Γc I hall => by
    have g := I.good
    have f := I.fits
    rw [hall e1 he1s, hall e2 he2s] at g f
    rw [hall s1 hs1s, hall s2 hs2s] at g
    rw [twF (.inl rfl)] at f
    have hg : HX true true true true = st'.H := by rw [hst', hHX]; rfl
    rw [hg] at g
    refine hQ Γc a ⟨fun t v hv => f.fr t v ?_, f.size, f.defers, f.glob⟩ g
    rw [← hv, t5]
    refine frG_congr ls vals 0 _ _ rfl fun i o ho hne => ?_
    have : i < ls.length := (List.getElem?_eq_some_iff.1 ho).1
    exact absurd (by simp [hall i (by omega)]) hne
  have hready : ∀ (listed : Array Bool), listed.size = ops.size → ∀ i, i ∈ Region.ready .any ops listed ↔ i < ops.size ∧ listed.getD i false = false ∧ ∀ o, ops[i]? = some o → ∀ e ∈ o.after.toList, Region.binds .any e = true → listed.getD e.on false = true := fun listed hsz i => by
    simp only [Region.ready, List.mem_filter, List.mem_range, Bool.and_eq_true, Bool.not_eq_true']
    refine and_congr_right fun hi => ?_
    have hl : listed.getD i true = listed.getD i false := by simp [Array.getD_eq_getD_getElem?, Array.getElem?_eq_getElem (show i < listed.size by omega)]
    rw [hl, Array.getElem?_eq_getElem hi]
    refine and_congr_right fun _ => ?_
    simp only [Option.map_some, Option.getD_some, Option.some.injEq, forall_eq']
    rw [← Array.all_toList, List.all_eq_true]
    refine forall_congr' fun e => forall_congr' fun he => ?_
    cases Region.binds .any e <;> simp
  have hdone : ∀ (listed : Array Bool), listed.size = ops.size → Region.ready .any ops listed = [] → ∀ j, j < ops.size → listed.getD j false = true := fun listed hsz hr j => by
    induction j using Nat.strongRecOn with
    | _ j ih =>
      intro hj
      cases hl : listed.getD j false with
      | true => rfl
      | false =>
        have : j ∈ Region.ready .any ops listed := (hready listed hsz j).2 ⟨hj, hl, fun o ho e he hb => ih e.on (hedge j o ho e he hb) (by have := hedge j o ho e he hb; omega)⟩
        rw [hr] at this; cases this
  have key : ∀ (fuel : Nat) (listed : Array Bool) (a : Act) (Γc : Ctx), TInv nt base bar ops ls st.fr vals e1 e2 s1 s2 v1 HX Γ st.H listed a Γc → cnt ops.size (fun j => true && listed.getD j false) + fuel = ops.size → wpAny P .any ops Q fuel listed a Γc.w := by
    intro fuel
    induction fuel with
    | zero =>
      intro listed a Γc I hc
      have hall : ∀ j, j < ops.size → listed.getD j false = true := fun j hj => by
        cases hl : listed.getD j false with
        | true => rfl
        | false =>
          exfalso
          have h1 := cnt_insert (fun _ => true) j (S := fun j => listed.getD j false) (S' := fun i => if i = j then true else listed.getD i false) hl (by simp) (fun i hi => by simp [hi]) ops.size hj
          have h2 : cnt ops.size (fun i => true && (if i = j then true else listed.getD i false)) ≤ ops.size := by
            have := List.countP_le_length (p := fun i => true && (if i = j then true else listed.getD i false)) (l := List.range ops.size)
            simpa [cnt] using this
          simp only [if_true] at h1
          omega
      refine ⟨?_, fin listed a Γc I hall⟩
      apply List.eq_nil_iff_forall_not_mem.2
      intro i hi
      obtain ⟨h1, h2, _⟩ := (hready listed I.size i).1 hi
      rw [hall i h1] at h2; cases h2
    | succ fuel ih =>
      intro listed a Γc I hc
      refine ⟨fun hr => fin listed a Γc I (hdone listed I.size hr), fun i hi => ?_⟩
      obtain ⟨hin, hDi, hedges⟩ := (hready listed I.size i).1 hi
      have ho : ops[i]? = some ops[i] := Array.getElem?_eq_getElem hin
      generalize ops[i] = o at ho
      have hedg2 := hedges o ho
      obtain ⟨c, hc1, hc2, hc3, hc5, hc6, hc10, hc11, hcd, hcb⟩ := hl'get i o ho
      have hcl := hlsget i _ c hc1
      obtain ⟨v, Hi, Hi', tc, hv1', hv2', hrun, _, htop, _⟩ := t6 i _ c hc1
      have b1 : ∀ j, isBef B j i = true → listed.getD j false = true := fun j hb => hbef I.closed i j o ho hedg2 hb
      have b2 : ∀ j, listed.getD j false = true → j < ops.size → isBef B i j = false := fun j hj hjn => by
        cases hb : isBef B i j with
        | false => rfl
        | true =>
          have hoj : ops[j]? = some ops[j] := Array.getElem?_eq_getElem hjn
          rw [hbef I.closed j i _ hoj (I.closed j _ hj hoj) hb] at hDi; cases hDi
      -- while only the second is there, nothing looks at it
      have early : listed.getD e1 false = false → listed.getD e2 false = true → ∀ d, o2.dst = some d → d ∉ c.looks := fun h1 h2 d hd => by
        rw [hc10]
        have hne : i ≠ e2 := by rintro rfl; rw [hDi] at h2; cases h2
        have nob : isBef B e2 i = false := by
          cases hb : isBef B e2 i with
          | false => rfl
          | true =>
            rcases five i hin with hlt | h | h | h | h
            · have := hbeflt i e2 o ho hb; omega
            · rw [h] at hb
              have := hbeflt e1 e2 o1 ho1 hb; omega
            · exact absurd h hne
            · rw [b1 e1 (by rw [h]; exact hbs1)] at h1; cases h1
            · rw [b1 e1 (by rw [h]; exact List.all_eq_true.1 hbs3 e1 (List.mem_range.2 (by omega)))] at h1; cases h1
        have nob2 : isBef B i e2 = false := b2 e2 h2 he2s
        rcases Nat.lt_trichotomy i e2 with hlt | heq | hgt
        · rcases hpair e2 i hlt he2s with hb | hap
          · rw [nob2] at hb; cases hb
          · exact (Oper.apart_spec (hap o2 o ho2 ho)).2.2 d hd
        · exact absurd heq hne
        · rcases hpair i e2 hgt hin with hb | hap
          · rw [nob] at hb; cases hb
          · exact (Oper.apart_spec (hap o o2 ho ho2)).1 d hd
      have lenE : ∀ {c1 c2 : Bool}, vals.length = (twVals c1 c2 e2 v1 vals).length := fun {c1 c2} => by unfold twVals; split <;> simp
      have Fs : Fits nt Γc (fkeep c.looks (frG (fun j => decide (j < i)) 0 st.fr ls vals)) a := ⟨fun t x hx => by
        have htl := fkeep_mem hx
        have htl' := htl
        rw [hc10] at htl
        have hx1 := fget_fkeep _ _ _ _ hx
        refine I.fits.fr t x ?_
        have e1' : fget t (frG (fun i => listed.getD i false) 0 st.fr ls (twVals (listed.getD e1 false) (listed.getD e2 false) e2 v1 vals)) = fget t (frG (fun i => listed.getD i false) 0 st.fr ls vals) := by
          cases hq1 : listed.getD e1 false with
          | true => rw [twF (.inl rfl)]
          | false =>
            cases hq2 : listed.getD e2 false with
            | false => rw [twF (.inr rfl)]
            | true =>
              refine frG_vals ls _ _ 0 _ _ lenE.symm rfl fun j p hp hd _ => ?_
              by_cases hj : j = e2
              · subst hj
                rw [hlsget _ _ _ r1] at hp
                simp only [Option.some.injEq] at hp; subst hp
                exact absurd htl' (early hq1 hq2 t (by rw [← r3]; exact hd))
              · simp [twVals, List.getElem?_set_ne (Ne.symm hj)]
        rw [e1', ← hx1]
        refine frG_congr ls vals 0 _ _ rfl fun j p hp hne => ?_
        simp only [Nat.zero_add] at hne
        have hjn : j < ops.size := by rw [← hlsl]; exact (List.getElem?_eq_some_iff.1 hp).1
        have hoj : ops[j]? = some ops[j] := Array.getElem?_eq_getElem hjn
        obtain ⟨q, q1', q2', _⟩ := hl'get j _ hoj
        rw [hlsget _ _ _ q1'] at hp
        simp only [Option.some.injEq] at hp; subst hp
        rw [q2']
        by_cases hji : j < i
        · have hDj : listed.getD j false = false := by simpa [hji] using hne
          rcases hpair i j hji hin with hb | hap
          · rw [b1 j hb] at hDj; cases hDj
          · exact fun hd => (Oper.apart_spec (hap o _ ho hoj)).1 t hd htl
        · have hDj : listed.getD j false = true := by simpa [hji] using hne
          have hne' : j ≠ i := by rintro rfl; rw [hDi] at hDj; cases hDj
          rcases hpair j i (by omega) hjn with hb | hap
          · rw [b2 j hDj hjn] at hb; cases hb
          · exact fun hd => (Oper.apart_spec (hap _ o hoj ho)).2.2 t hd htl, I.fits.size, I.fits.defers, I.fits.glob⟩
      have hD' : ∀ j, (listed.setIfInBounds i true).getD j false = if j = i then true else listed.getD j false := fun j => by
        simp only [Array.getD_eq_getD_getElem?]
        by_cases hji : j = i
        · subst hji
          rw [if_pos rfl, Array.getElem?_setIfInBounds_self_of_lt (by rw [I.size]; exact hin)]; rfl
        · rw [if_neg hji, Array.getElem?_setIfInBounds_ne (Ne.symm hji)]
      have hfr : ∀ (vs : List AV) (w : AV), vs[i]? = some w → ∀ t, fget t (frG (fun j => (listed.setIfInBounds i true).getD j false) 0 st.fr ls vs) = fget t (fput o.dst w (frG (fun j => listed.getD j false) 0 st.fr ls vs)) := fun vs w hw t => by
        rw [fget_fput]
        by_cases hdt : o.dst = some t
        · rw [if_pos hdt]
          refine frG_last ls vs 0 st.fr i c w hcl hw (by simp [hD']) (by rw [hc2]; exact hdt) fun j p hj hp hS => ?_
          have hjn : j < ops.size := by rw [← hlsl]; exact (List.getElem?_eq_some_iff.1 hp).1
          have hoj : ops[j]? = some ops[j] := Array.getElem?_eq_getElem hjn
          obtain ⟨q, q1', q2', _⟩ := hl'get j _ hoj
          rw [hlsget _ _ _ q1'] at hp
          simp only [Option.some.injEq] at hp; subst hp
          rw [q2']
          have hDj : listed.getD j false = true := by
            rw [Nat.zero_add, hD', if_neg (by omega)] at hS; exact hS
          rcases hpair j i hj hjn with hb | hap
          · rw [b2 j hDj hjn] at hb; cases hb
          · exact (Oper.apart_spec (hap _ o hoj ho)).2.1 t hdt
        · rw [if_neg hdt]
          refine frG_congr ls vs 0 _ _ rfl fun j p hp hne => ?_
          by_cases hji : j = i
          · subst hji
            rw [hcl] at hp
            simp only [Option.some.injEq] at hp; subst hp
            rw [hc2]; exact hdt
          · exact absurd (by rw [Nat.zero_add, hD', if_neg hji]) hne
      have hcnt2 : cnt ops.size (fun j => true && (listed.setIfInBounds i true).getD j false) + fuel = ops.size := by
        have := cnt_insert (fun _ => true) i (S := fun j => listed.getD j false) (S' := fun j => (listed.setIfInBounds i true).getD j false) hDi (by simp [hD']) (fun j hj => by simp [hD', hj]) ops.size hin
        simp only [if_true] at this
        omega
      have hclosed : ∀ j p, (listed.setIfInBounds i true).getD j false = true → ops[j]? = some p → ∀ e ∈ p.after.toList, Region.binds .any e = true → (listed.setIfInBounds i true).getD e.on false = true := fun j p hj hp e he hb => by
        rw [hD'] at hj ⊢
        by_cases hji : j = i
        · subst hji
          rw [ho] at hp
          simp only [Option.some.injEq] at hp; subst hp
          split
          · rfl
          · exact hedg2 e he hb
        · rw [if_neg hji] at hj
          split
          · rfl
          · exact I.closed j p hj hp e he hb
      have hop : ∀ {k : Nat}, twinFits k c.op = true → cOp P o.op = some c.op := fun {k} h => by
        rw [hc3] at h ⊢
        cases hco : cOp P o.op with
        | none => rw [hco, Option.getD_none, fits_bad] at h; cases h
        | some x => rfl
      simp only [wpOp, ho]
      have hwant := want_sound Fs hc5 (b := true) rfl
      rw [if_pos hwant]
      left
      obtain ⟨XX, hXX⟩ := hxx (listed.getD e1 false) (listed.getD e2 false) (listed.getD s1 false) (listed.getD s2 false)
      have hHbase : base ≤ (HX (listed.getD e1 false) (listed.getD e2 false) (listed.getD s1 false) (listed.getD s2 false)).length := by rw [hXX]; simp; omega
      have hn0 := s.n
      have wpA : ∀ {v : AV} {H' : Heap} {tc : List Nat} {K : Act → World → Prop}, aopC env ex true base bar c.op (fkeep c.looks (frG (fun j => decide (j < i)) 0 st.fr ls vals)) (HX (listed.getD e1 false) (listed.getD e2 false) (listed.getD s1 false) (listed.getD s2 false)) = some (v, H', tc) →
          (∀ (Δ : Ctx) (v' : Value), VR Δ v v' → Good base bar (List.range st.H.length) Γ Δ st.H H' → Evo Γc Δ → K (a.put o.dst v') Δ.w) → o.wp P a Γc.w K Q := fun {v H' tc K} hr hk => by
        refine aopC_sound HF HK HE Fs I.good.sim hHbase hbar (hop hc11) hr fun Δ v' hvv hg => hk Δ v' hvv ((I.good.trans hg.all).any fun j hj hjl => by simpa using hjl) hg.evo
      have next : ∀ (Δ : Ctx) (v' : Value) (w : AV) (c1' c2' c3' c4' : Bool), (listed.setIfInBounds i true).getD e1 false = c1' → (listed.setIfInBounds i true).getD e2 false = c2' → (listed.setIfInBounds i true).getD s1 false = c3' → (listed.setIfInBounds i true).getD s2 false = c4' → VR Δ w v' → (twVals c1' c2' e2 v1 vals)[i]? = some w →
          Good base bar (List.range st.H.length) Γ Δ st.H (HX c1' c2' c3' c4') → Evo Γc Δ →
          (∀ t, fget t (frG (fun j => listed.getD j false) 0 st.fr ls (twVals c1' c2' e2 v1 vals)) = fget t (frG (fun j => listed.getD j false) 0 st.fr ls (twVals (listed.getD e1 false) (listed.getD e2 false) e2 v1 vals))) →
          wpAny P .any ops Q fuel (listed.setIfInBounds i true) (a.put o.dst v') Δ.w := fun Δ v' w c1' c2' c3' c4' h1 h2 h3 h4 hvv hw hg he hsame => by
        refine ih _ _ Δ ⟨by simp [I.size], hclosed, by rw [h1, h2, h3, h4]; exact hg, ?_⟩ hcnt2
        rw [h1, h2]
        have F1 := (I.fits.mono he).put hc6 hvv
        refine ⟨fun t x hx => F1.fr t x ?_, F1.size, F1.defers, F1.glob⟩
        rw [hfr _ w hw t, fget_fput] at hx
        rw [fget_fput]
        split
        · rename_i hd; rw [if_pos hd] at hx; exact hx
        · rename_i hd; rw [if_neg hd, hsame t] at hx; exact hx
      have hD1 : (listed.setIfInBounds i true).getD e1 false = if e1 = i then true else listed.getD e1 false := hD' e1
      have hD2 : (listed.setIfInBounds i true).getD e2 false = if e2 = i then true else listed.getD e2 false := hD' e2
      have hD3 : (listed.setIfInBounds i true).getD s1 false = if s1 = i then true else listed.getD s1 false := hD' s1
      have hD4 : (listed.setIfInBounds i true).getD s2 false = if s2 = i then true else listed.getD s2 false := hD' s2
      have lis1 : listed.getD s1 false = true → listed.getD e1 false = true ∧ listed.getD e2 false = true := fun h =>
        ⟨hbef I.closed s1 e1 o3 ho3 (I.closed s1 o3 h ho3) hbs1, hbef I.closed s1 e2 o3 ho3 (I.closed s1 o3 h ho3) hbs2⟩
      have lis2 : listed.getD s2 false = true → ∀ j, j < s2 → listed.getD j false = true := fun h j hj =>
        hbef I.closed s2 j o4 ho4 (I.closed s2 o4 h ho4) (List.all_eq_true.1 hbs3 j (List.mem_range.2 (by omega)))
      rcases five i hin with hlt | rfl | rfl | rfl | rfl
      · -- what does not see the new blocks
        have hk0 := tag0 i hlt
        rw [if_pos hk0] at hrun
        obtain ⟨htop1, htop2, htop3⟩ := htop hk0
        have tcnil : tc = [] := by simpa using htop2
        subst tcnil
        have hn4 : listed.getD s2 false = false := by
          cases h : listed.getD s2 false with
          | false => rfl
          | true => rw [lis2 h i (by omega)] at hDi; cases hDi
        have htp : ∀ (i : Nat) (b : Blk), st.H[i]? = some b → b.top ≤ st.H.length := fun i b hb => by
          have hi := (List.getElem?_eq_some_iff.1 hb).1
          cases b with
          | map es => exact Nat.zero_le _
          | row ver cs fz ex =>
            obtain ⟨_, c, t, _, _, _, _, h7, _⟩ := s.blk i _ hb
            simp only [Blk.top]
            refine AV.le_tops fun x hx => ?_
            obtain ⟨j, hj, rfl⟩ := List.getElem_of_mem hx
            obtain ⟨_, v, _, hv⟩ := h7 j _ (List.getElem?_eq_getElem hj)
            rw [← hn0]; exact hv.top_le
        have hg0 := I.good
        rw [hXX] at hg0
        have Fc : Fits nt (Γc.cut st.H.length) (fkeep c.looks (frG (fun j => decide (j < i)) 0 st.fr ls vals)) a := ⟨fun t x hx => (Fs.fr t x hx).cut (by
          have hlk := fkeep_mem hx
          have hx1 := fget_fkeep _ _ _ _ hx
          rcases frG_val ls vals 0 st.fr hx1 with h0 | ⟨j, p, hp, hpv, hpS, hpd⟩
          · have := (F.fr t x h0).top_le
            omega
          · have hjn : j < ops.size := by rw [← hlsl]; exact (List.getElem?_eq_some_iff.1 hp).1
            have hji : j < i := by simpa using hpS
            have hoj : ops[j]? = some ops[j] := Array.getElem?_eq_getElem hjn
            obtain ⟨cj, p1, _⟩ := hl'get j _ hoj
            obtain ⟨u, _, _, _, u1, _, _, _, u7, _⟩ := t6 j _ cj p1
            rw [u1] at hpv
            simp only [Option.some.injEq] at hpv; subst hpv
            exact (u7 (tag0 j (by omega))).1), Fs.size, Fs.defers, Fs.glob.cut⟩
        refine aopC_sound HF HK HE (Γ := Γc.cut st.H.length) (K := fun a w => wpAny P .any ops Q fuel (listed.setIfInBounds i true) a w) Fc (hg0.sim.low htp) hbase hbar (hop hc11) hrun fun Δ v' hvv hg => ?_
        have hw := hg.wide hg0.sim htop3
        have hkn : st.H.length ≤ Γc.n := by rw [hg0.sim.n]; simp
        have hΔn : Δ.n = st.H.length := by rw [hg.sim.n, htop3]
        refine next (Γc.wide Δ st.H.length) v' v _ _ _ _ (by rw [hD1, if_neg (by omega)]) (by rw [hD2, if_neg (by omega)]) (by rw [hD3, if_neg (by omega)]) (by rw [hD4, if_neg (by omega)]) (hvv.wide hkn hΔn) ?_ ?_ hw.evo (fun t => rfl)
        · unfold twVals
          split
          · rw [List.getElem?_set_ne (by omega)]; exact hv1'
          · exact hv1'
        · rw [hXX]
          exact (hg0.trans hw.all).any fun j hj hjl => by simpa using hjl
      · -- the first block
        rw [hc1, tag1] at q1
        simp only [Option.some.injEq, Prod.mk.injEq, true_and] at q1; subst q1
        rw [x1] at hv1'
        simp only [Option.some.injEq] at hv1'; subst hv1'
        rw [if_pos rfl] at hD1
        rw [if_neg (by omega)] at hD2
        rw [if_neg (by omega)] at hD3
        rw [if_neg (by omega)] at hD4
        have hn3 : listed.getD s1 false = false := by
          cases h : listed.getD s1 false with
          | false => rfl
          | true => rw [(lis1 h).1] at hDi; cases hDi
        have hn4 : listed.getD s2 false = false := by
          cases h : listed.getD s2 false with
          | false => rfl
          | true => rw [lis2 h i (by omega)] at hDi; cases hDi
        have eHX : ∀ b1 b2, HX b1 b2 false false = st.H ++ twMk b1 b2 BB := fun b1 b2 => by rw [hHX]; rfl
        rw [hn3, hn4, eHX] at wpA
        cases hq2 : listed.getD e2 false with
        | false =>
          rw [hDi, hq2] at wpA
          have hr := mk1 (st.H ++ twMk false false BB)
          rw [← hz1] at hr
          refine wpA (by rw [twin_nocall (by decide) q8]; exact hr) fun Δ v' hvv hg he => ?_
          refine next Δ v' v1 true false false false hD1 (by rw [hD2, hq2]) (by rw [hD3, hn3]) (by rw [hD4, hn4]) ?_ (by rw [twF (.inl rfl)]; exact x1) (by rw [eHX]; simpa [twMk] using hg) he (fun t => by rw [twF (.inl rfl), hDi, hq2, twF (.inr rfl)])
          rw [hv1]
          simpa [twMk] using hvv
        | true =>
          rw [hDi, hq2] at wpA
          have hr := mk1 (st.H ++ twMk false true BB)
          rw [← hz1] at hr
          refine wpA (by rw [twin_nocall (by decide) q8]; exact hr) fun Δ v' hvv hg he => ?_
          have hg' : Good base bar (List.range st.H.length) Γ Δ st.H (st.H ++ [BB, BB]) := by simpa [twMk] using hg
          have hvv' : VR Δ (.ptr (st.H.length + 1) 0 0) v' := by simpa [twMk] using hvv
          have hΔn : Δ.n = st.H.length + 2 := by rw [hg'.sim.n]; simp
          have gs := hg'.swap s hBtop
          have hfits := I.fits
          rw [hDi, hq2] at hfits
          have F1 := (hfits.mono he).put hc6 hvv'
          refine ih _ _ (Δ.swap st.H.length) ⟨by simp [I.size], hclosed, by rw [hD1, hD2, hD3, hD4, hq2, hn3, hn4, eHX]; exact gs, ?_⟩ hcnt2
          rw [hD1, hD2, hq2, twF (.inl rfl)]
          refine ⟨fun t x hx => ?_, F1.size, F1.defers, gs.sim.glob⟩
          rw [hfr vals v1 x1 t, fget_fput] at hx
          by_cases hd : o.dst = some t
          · rw [if_pos hd] at hx
            simp only [Option.some.injEq] at hx; subst hx
            have := F1.fr t _ (by rw [fget_fput, if_pos hd])
            rw [hv1]; exact this.swap_hi
          · rw [if_neg hd] at hx
            have later : ∀ j, listed.getD j false = true → j < ops.size → j ≤ e2 ∧ j ≠ i := fun j hj hjs => by
              have hne : j ≠ i := by rintro rfl; rw [hDi] at hj; cases hj
              refine ⟨?_, hne⟩
              rcases five j hjs with h | h | h | h | h
              · omega
              · omega
              · omega
              · rw [h, hn3] at hj; cases hj
              · rw [h, hn4] at hj; cases hj
            by_cases hd2 : o2.dst = some t
            · have last : ∀ (vs : List AV) (u : AV), vs[e2]? = some u → fget t (frG (fun j => listed.getD j false) 0 st.fr ls vs) = some u := fun vs u hu =>
                frG_last ls vs 0 st.fr e2 c2 u (hlsget _ _ _ r1) hu (by simpa using hq2) (by rw [r3]; exact hd2) fun j p hj hp hS => by
                  have hjn : j < ops.size := by rw [← hlsl]; exact (List.getElem?_eq_some_iff.1 hp).1
                  have := (later j (by simpa using hS) hjn).1
                  omega
              rw [last vals v2 y1] at hx
              simp only [Option.some.injEq] at hx; subst hx
              have := F1.fr t v1 (by
                rw [fget_fput, if_neg hd]
                exact last _ v1 (by simp only [twVals, Bool.not_false, Bool.and_self, if_true]; rw [List.getElem?_set_self (by omega)]))
              rw [hv1] at this
              rw [hv2]; exact this.swap_lo (by omega)
            · have hE : fget t (frG (fun j => listed.getD j false) 0 st.fr ls (twVals false true e2 v1 vals)) = some x := by
                rw [← hx]
                refine frG_vals ls _ _ 0 _ _ lenE.symm rfl fun j p hp hdp _ => ?_
                by_cases hj : j = e2
                · subst hj
                  rw [hlsget _ _ _ r1] at hp
                  simp only [Option.some.injEq] at hp; subst hp
                  rw [r3] at hdp; exact absurd hdp hd2
                · simp [twVals, List.getElem?_set_ne (Ne.symm hj)]
              have hvx := F1.fr t x (by rw [fget_fput, if_neg hd]; exact hE)
              refine hvx.swap ?_
              rcases frG_val ls vals 0 st.fr hx with h0 | ⟨j, p, hp, hpv, hpS, hpd⟩
              · have := (F.fr t x h0).top_le
                omega
              · have hjn : j < ops.size := by rw [← hlsl]; exact (List.getElem?_eq_some_iff.1 hp).1
                have hoj : ops[j]? = some ops[j] := Array.getElem?_eq_getElem hjn
                obtain ⟨cj, p1, p3, _⟩ := hl'get j _ hoj
                obtain ⟨l1, l2⟩ := later j (by simpa using hpS) hjn
                rw [hlsget _ _ _ p1] at hp
                simp only [Option.some.injEq] at hp; subst hp
                have hje : j ≠ e2 := by
                  rintro rfl
                  rw [p1] at r1
                  simp only [Option.some.injEq, Prod.mk.injEq] at r1
                  rw [r1.2, r3] at hpd
                  exact hd2 hpd
                have hk0 : twinTag ops.size j = 0 := tag0 j (by omega)
                obtain ⟨u, _, _, _, u1, _, _, _, u7, _⟩ := t6 j _ cj p1
                rw [u1] at hpv
                simp only [Option.some.injEq] at hpv; subst hpv
                exact (u7 hk0).1
      · -- the second block
        rw [hc1, tag2] at r1
        simp only [Option.some.injEq, Prod.mk.injEq, true_and] at r1; subst r1
        rw [if_neg (by omega)] at hD1
        rw [if_pos rfl] at hD2
        rw [if_neg (by omega)] at hD3
        rw [if_neg (by omega)] at hD4
        have hn3 : listed.getD s1 false = false := by
          cases h : listed.getD s1 false with
          | false => rfl
          | true => rw [(lis1 h).2] at hDi; cases hDi
        have hn4 : listed.getD s2 false = false := by
          cases h : listed.getD s2 false with
          | false => rfl
          | true => rw [lis2 h i (by omega)] at hDi; cases hDi
        have eHX : ∀ b1 b2, HX b1 b2 false false = st.H ++ twMk b1 b2 BB := fun b1 b2 => by rw [hHX]; rfl
        rw [hn3, hn4, eHX] at wpA
        cases hq1 : listed.getD e1 false with
        | true =>
          rw [hDi, hq1] at wpA
          have hr := mk2 (st.H ++ twMk true false BB)
          rw [← hz2] at hr
          refine wpA (by rw [twin_nocall (by decide) r8]; exact hr) fun Δ v' hvv hg he => ?_
          refine next Δ v' v2 true true false false (by rw [hD1, hq1]) hD2 (by rw [hD3, hn3]) (by rw [hD4, hn4]) ?_ (by rw [twF (.inl rfl)]; exact y1) (by rw [eHX]; simpa [twMk] using hg) he (fun t => by rw [twF (.inl rfl), hq1, hDi, twF (.inl rfl)])
          rw [hv2]
          simpa [twMk] using hvv
        | false =>
          rw [hDi, hq1] at wpA
          have hr := mk2 (st.H ++ twMk false false BB)
          rw [← hz2] at hr
          refine wpA (by rw [twin_nocall (by decide) r8]; exact hr) fun Δ v' hvv hg he => ?_
          refine next Δ v' v1 false true false false (by rw [hD1, hq1]) hD2 (by rw [hD3, hn3]) (by rw [hD4, hn4]) ?_ (by simp only [twVals, Bool.not_false, Bool.and_self, if_true]; rw [List.getElem?_set_self (by omega)]) (by rw [eHX]; simpa [twMk] using hg) he (fun t => ?_)
          · rw [hv1]
            simpa [twMk] using hvv
          · rw [hq1, hDi, twF (c1 := false) (c2 := false) (.inr rfl)]
            refine frG_vals ls _ _ 0 _ _ lenE.symm rfl fun j p hp hdp hS => ?_
            have hj : j ≠ i := by rintro rfl; rw [Nat.zero_add, hDi] at hS; cases hS
            simp [twVals, List.getElem?_set_ne (Ne.symm hj)]
      · -- the first store
        rw [if_neg (by omega)] at hD1
        rw [if_neg (by omega)] at hD2
        rw [if_pos rfl] at hD3
        rw [if_neg (by omega)] at hD4
        have l1 := b1 e1 hbs1
        have l2 := b1 e2 hbs2
        have hn4 : listed.getD s2 false = false := by
          cases h : listed.getD s2 false with
          | false => rfl
          | true => rw [lis2 h i (by omega)] at hDi; cases hDi
        have eH : HX true true false false = H2 := by rw [hHX, hH2']; rfl
        rw [l1, l2, hDi, hn4, eH] at wpA
        rw [hc1, tag3] at u1
        simp only [Option.some.injEq, Prod.mk.injEq, true_and] at u1; subst u1
        refine wpA z4 fun Δ v' hvv hg he => ?_
        refine next Δ v' v3 true true true false (by rw [hD1, l1]) (by rw [hD2, l2]) hD3 (by rw [hD4, hn4]) hvv (by rw [twF (.inl rfl)]; exact z1) (by rw [hHX]; exact hg) he (fun t => by rw [l1, l2])
      · -- the second store
        rw [if_neg (by omega)] at hD1
        rw [if_neg (by omega)] at hD2
        rw [if_neg (by omega)] at hD3
        rw [if_pos rfl] at hD4
        have lall : ∀ j, j < i → listed.getD j false = true := fun j hj => b1 j (List.all_eq_true.1 hbs3 j (List.mem_range.2 (by omega)))
        have l1 := lall e1 (by omega)
        have l2 := lall e2 (by omega)
        have l3 := lall s1 (by omega)
        have eH : HX true true true false = H3 := by rw [hHX]; rfl
        rw [l1, l2, l3, hDi, eH] at wpA
        rw [hc1, tag4] at w1
        simp only [Option.some.injEq, Prod.mk.injEq, true_and] at w1; subst w1
        refine wpA p4 fun Δ v' hvv hg he => ?_
        refine next Δ v' v4 true true true true (by rw [hD1, l1]) (by rw [hD2, l2]) (by rw [hD3, l3]) hD4 hvv (by rw [twF (.inl rfl)]; exact p1) (by rw [hHX]; exact hg) he (fun t => by rw [l1, l2])
  refine wp_region_any hmix ?_
  have g0 := Good.drew (base := base) (bar := bar) (w' := { Γ.w with drawn := Γ.w.drawn + 1 }) s rfl rfl rfl rfl
  have hz : ∀ j, (Array.replicate ops.size false).getD j false = false := fun j => by
    rw [Array.getD_eq_getD_getElem?, Array.getElem?_replicate]
    split <;> rfl
  have c0 : ∀ (n : Nat) (p : Nat → Bool), cnt n (fun j => p j && (Array.replicate ops.size false).getD j false) = 0 := fun n p => by
    have : cnt n (fun j => p j && (Array.replicate ops.size false).getD j false) = cnt n (fun _ => false) := cnt_congr fun j _ => by rw [hz]; simp
    rw [this]; simp [cnt]
  refine key ops.size (Array.replicate ops.size false) a { Γ with w := { Γ.w with drawn := Γ.w.drawn + 1 } } ⟨by simp, fun i o hi => (by rw [hz] at hi; cases hi), ?_, ?_⟩ (by rw [c0]; omega)
  · rw [hz, hz, hz, hz, hHX]
    simpa [twMk] using g0.all
  · rw [frG_none hz]
    exact F.mono g0.evo
end Go.Ab
