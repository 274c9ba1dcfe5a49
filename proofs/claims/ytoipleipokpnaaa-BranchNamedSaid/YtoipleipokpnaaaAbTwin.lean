/-
  Part of the proved evaluator.
-/
import Derived.Test.YtoipleipokpnaaaAbDraw
set_option linter.all false
namespace Go.Ab
variable {P : Program}

/-! ## two blocks change places -/
def Ctx.swap (Γ : Ctx) (k : Nat) : Ctx :=
  { Γ with
    ρ := fun i => if i = k then Γ.ρ (k + 1) else if i = k + 1 then Γ.ρ k else Γ.ρ i
    ver := fun i => if i = k then Γ.ver (k + 1) else if i = k + 1 then Γ.ver k else Γ.ver i
    bsz := fun i => if i = k then Γ.bsz (k + 1) else if i = k + 1 then Γ.bsz k else Γ.bsz i }

theorem VR.swap {Γ : Ctx} {k : Nat} {x : AV} {v : Value} (h : VR Γ x v) : x.top ≤ k → VR (Γ.swap k) x v := by
  induction h with
  | int k n => intro _; exact .int k n
  | bool b => intro _; exact .bool b
  | str s => intro _; exact .str s
  | nilp => intro _; exact .nilp
  | nils => intro _; exact .nils
  | nilm => intro _; exact .nilm
  | nilf => intro _; exact .nilf
  | nili => intro _; exact .nili
  | agg cs vs hl h1 _ ih => intro ht; simp only [AV.top] at ht; exact .agg cs vs hl h1 fun i c v hc hv => ih i c v hc hv (AV.tops_le ht c (List.mem_of_getElem? hc))
  | tup cs vs hl _ ih => intro ht; simp only [AV.top] at ht; exact .tup cs vs hl fun i c v hc hv => ih i c v hc hv (AV.tops_le ht c (List.mem_of_getElem? hc))
  | emp sz ex a cap hex => intro _; exact .emp sz ex a cap hex
  | lst sz ex xs b o cap f hlc hex hsz hcell _ ih =>
    intro ht; simp only [AV.top] at ht
    exact .lst sz ex xs b o cap f hlc hex hsz hcell fun i x j c hx hc => ih i x j c hx hc (AV.cells_top (AV.tops_le ht x (List.mem_of_getElem? hx)) c (List.mem_of_getElem? hc))
  | fp x b o f h1 hcell _ ih =>
    intro ht; simp only [AV.top] at ht
    exact .fp x b o f h1 hcell fun j c hc => ih j c hc (AV.cells_top ht c (List.mem_of_getElem? hc))
  | ptr i ver off a hn hle h =>
    intro ht; simp only [AV.top] at ht
    have h1 : i ≠ k := by omega
    have h2 : i ≠ k + 1 := by omega
    exact .ptr i ver off a hn (by simpa [Ctx.swap, h1, h2] using hle) (by simpa [Ctx.swap, Ctx.δ, h1, h2] using h)
  | vec i ver off len sz a cap hn hle h =>
    intro ht; simp only [AV.top] at ht
    have h1 : i ≠ k := by omega
    have h2 : i ≠ k + 1 := by omega
    exact .vec i ver off len sz a cap hn (by simpa [Ctx.swap, h1, h2] using hle) (by simpa [Ctx.swap, Ctx.δ, h1, h2] using h)
  | fn f xs ys us vs hl hl' _ _ ih ih' =>
    intro ht; simp only [AV.top] at ht
    exact .fn f xs ys us vs hl hl' (fun i c v hc hv => ih i c v hc hv (AV.tops_le (by omega) c (List.mem_of_getElem? hc)))
      (fun i c v hc hv => ih' i c v hc hv (AV.tops_le (by omega) c (List.mem_of_getElem? hc)))
  | ifc t x v _ ih => intro ht; simp only [AV.top] at ht; exact .ifc t x v (ih ht)
  | dead a n c => intro _; exact .dead a n c
  | mp i r hn h =>
    intro ht; simp only [AV.top] at ht
    have h1 : i ≠ k := by omega
    have h2 : i ≠ k + 1 := by omega
    exact .mp i r hn (by simpa [Ctx.swap, h1, h2] using h)

theorem VR.swap_lo {Γ : Ctx} {k ver off len sz : Nat} {v : Value} (h : VR Γ (.vec k ver off len sz) v) (hn : k + 1 < Γ.n) : VR (Γ.swap k) (.vec (k + 1) ver off len sz) v := by
  cases h with
  | vec _ _ _ _ _ a cap hn' hle h => exact .vec _ _ _ _ _ a cap hn (by simpa [Ctx.swap] using hle) (by simpa [Ctx.swap, Ctx.δ] using h)
theorem VR.swap_hi {Γ : Ctx} {k ver off len sz : Nat} {v : Value} (h : VR Γ (.vec (k + 1) ver off len sz) v) : VR (Γ.swap k) (.vec k ver off len sz) v := by
  cases h with
  | vec _ _ _ _ _ a cap hn' hle h => exact .vec _ _ _ _ _ a cap (show k < Γ.n by omega) (by simpa [Ctx.swap] using hle) (by simpa [Ctx.swap, Ctx.δ] using h)

theorem BlkOK.swap {Γ : Ctx} {i j k : Nat} {b : Blk} (h : BlkOK Γ i b) (ht : b.top ≤ k) (hρ : (Γ.swap k).ρ j = Γ.ρ i) (hv : (Γ.swap k).ver j = Γ.ver i) (hb : (Γ.swap k).bsz j = Γ.bsz i) : BlkOK (Γ.swap k) j b := by
  cases b with
  | row ver cs fz ex =>
    obtain ⟨h2, c, t, h3, h4, h5, h6, h7, h8⟩ := h
    have hd : (Γ.swap k).δ j = Γ.δ i := by unfold Ctx.δ; rw [hb]
    refine ⟨hv.trans h2, c, t, by rw [hρ]; exact h3, by rw [hb]; exact h4, by rw [hd]; exact h5, by rw [hd]; exact h6, fun i x hx => ?_, fun o ho hI => h8 o (by rw [← hd]; exact ho) (by rw [← hρ]; exact hI)⟩
    rw [hd]
    obtain ⟨h9, v, h10, h11⟩ := h7 i x hx
    exact ⟨h9, v, h10, h11.swap (AV.tops_le ht x (List.mem_of_getElem? hx))⟩
  | map es =>
    obtain ⟨h2, c, t, h3, h4, h5, h6⟩ := h
    refine ⟨hv.trans h2, c, t, by rw [hρ]; exact h3, h4, fun i p hp => ?_, fun o hI => h6 o (by rw [← hρ]; exact hI)⟩
    obtain ⟨h7, x, h8, h9, h10⟩ := h5 i p hp
    exact ⟨h7, x, h8, h9.swap (by omega), h10.swap (by omega)⟩

/-- the blocks behind those that were there change places: they are alike -/
theorem Good.swap {base bar : Nat} {tc : List Nat} {Γ Δ : Ctx} {H : Heap} {B : Blk} (s0 : Sim Γ H) (g : Good base bar tc Γ Δ H (H ++ [B, B])) (hB : B.top = 0) : Good base bar tc Γ (Δ.swap H.length) H (H ++ [B, B]) := by
  obtain ⟨s, e, wf, hb, ht, hl⟩ := g
  have hn := s.n
  have hn0 := s0.n
  have hlen : (H ++ [B, B]).length = H.length + 2 := by simp
  have htop : ∀ (i : Nat) (b : Blk), H[i]? = some b → b.top ≤ H.length := fun i b hb => by
    have hi := (List.getElem?_eq_some_iff.1 hb).1
    cases b with
    | map es => exact Nat.zero_le _
    | row ver cs fz ex =>
      obtain ⟨_, c, t, _, _, _, _, h7, _⟩ := s0.blk i _ hb
      simp only [Blk.top]
      refine AV.le_tops fun x hx => ?_
      obtain ⟨j, hj, rfl⟩ := List.getElem_of_mem hx
      obtain ⟨_, v, _, hv⟩ := h7 j _ (List.getElem?_eq_getElem hj)
      rw [← hn0]; exact hv.top_le
  have hk : (H ++ [B, B])[H.length]? = some B := by simp
  have hk1 : (H ++ [B, B])[H.length + 1]? = some B := by rw [List.getElem?_append_right (by omega)]; simp
  refine ⟨⟨hn, fun i b hbb => ?_, fun i j hi hj hij => ?_, s.imm, fun g x hx => ⟨(s.glob g x hx).1, (s.glob g x hx).2.swap (by simp only [AV.top]; rw [(s.glob g x hx).1]; exact Nat.zero_le _)⟩⟩,
    ⟨e.n, fun i hi => ?_, fun i hi h => ?_, fun i hi => ?_, e.I, e.newI, e.frame, e.size, e.os, e.tape, e.output⟩, wf, hb, ht, hl⟩
  · by_cases h1 : i = H.length
    · subst h1
      rw [hk] at hbb
      simp only [Option.some.injEq] at hbb; subst hbb
      exact (s.blk _ _ hk1).swap (by omega) (by simp [Ctx.swap]) (by simp [Ctx.swap]) (by simp [Ctx.swap])
    · by_cases h2 : i = H.length + 1
      · subst h2
        rw [hk1] at hbb
        simp only [Option.some.injEq] at hbb; subst hbb
        exact (s.blk _ _ hk).swap (by omega) (by simp [Ctx.swap]) (by simp [Ctx.swap]) (by simp [Ctx.swap])
      · have hi : i < H.length := by
          have := (List.getElem?_eq_some_iff.1 hbb).1
          omega
        have hbb' := hbb
        rw [List.getElem?_append_left hi] at hbb
        exact (s.blk _ _ hbb').swap (htop _ _ hbb) (by simp [Ctx.swap, h1, h2]) (by simp [Ctx.swap, h1, h2]) (by simp [Ctx.swap, h1, h2])
  · have inj := s.inj
    simp only [Ctx.swap] at hij
    rw [hlen] at hi hj
    rw [hlen] at inj
    have a1 : ∀ i, i < H.length + 2 → (if i = H.length then Δ.ρ (H.length + 1) else if i = H.length + 1 then Δ.ρ H.length else Δ.ρ i) = Δ.ρ (if i = H.length then H.length + 1 else if i = H.length + 1 then H.length else i) := fun i _ => by
      split
      · rfl
      · split <;> rfl
    rw [a1 i hi, a1 j hj] at hij
    have := inj _ _ (by split <;> (try split) <;> omega) (by split <;> (try split) <;> omega) hij
    revert this
    split <;> split <;> (try split) <;> (try split) <;> omega
  · have h1 : i ≠ H.length := by omega
    have h2 : i ≠ H.length + 1 := by omega
    simpa [Ctx.swap, h1, h2] using e.ver i hi
  · have h1 : i ≠ H.length := by omega
    have h2 : i ≠ H.length + 1 := by omega
    simp only [Ctx.swap, h1, h2, if_false] at h ⊢
    exact e.same i hi h
  · simp only [Ctx.swap] at hi ⊢
    by_cases h1 : i = H.length
    · subst h1
      rw [if_pos rfl]
      rcases e.ρ (H.length + 1) (by omega) with ⟨h3, _⟩ | h3
      · omega
      · exact .inr h3
    · rw [if_neg h1]
      by_cases h2 : i = H.length + 1
      · subst h2
        rw [if_pos rfl]
        rcases e.ρ H.length (by omega) with ⟨h3, _⟩ | h3
        · omega
        · exact .inr h3
      · rw [if_neg h2]
        exact e.ρ i hi

/-! ## the run in the order of the text -/
theorem frG_shift (S : Nat → Bool) : ∀ (l : List AOper) (m : Nat) (f : Frame) (vs : List AV), frG S (m + 1) f l vs = frG (fun j => S (j + 1)) m f l vs
  | [], m, f, vs => by simp [frG]
  | q :: s, m, f, [] => by simp [frG]
  | q :: s, m, f, w :: vs => by simp only [frG]; rw [frG_shift S s]

theorem frG_val {S : Nat → Bool} {t : Nat} {x : AV} : ∀ (l : List AOper) (vs : List AV) (m : Nat) (fr : Frame), fget t (frG S m fr l vs) = some x →
    fget t fr = some x ∨ ∃ i o, l[i]? = some o ∧ vs[i]? = some x ∧ S (m + i) = true ∧ o.dst = some t
  | [], vs, m, fr, h => .inl (by simpa [frG] using h)
  | o :: r, [], m, fr, h => .inl (by simpa [frG] using h)
  | o :: r, v :: vs, m, fr, h => by
    simp only [frG] at h
    rcases frG_val r vs (m + 1) _ h with h | ⟨i, p, h1, h2, h3, h4⟩
    · split at h
      · rename_i hS
        rw [fget_fput] at h
        split at h
        · rename_i hd
          exact .inr ⟨0, o, rfl, by simpa using h, by simpa using hS, hd⟩
        · exact .inl h
      · exact .inl h
    · exact .inr ⟨i + 1, p, by simpa using h1, by simpa using h2, by rw [← h3]; congr 1; omega, h4⟩

theorem frG_vals {S : Nat → Bool} {t : Nat} : ∀ (l : List AOper) (vs vs' : List AV) (m : Nat) (fr fr' : Frame), vs.length = vs'.length → fget t fr = fget t fr' →
    (∀ i o, l[i]? = some o → o.dst = some t → S (m + i) = true → vs[i]? = vs'[i]?) → fget t (frG S m fr l vs) = fget t (frG S m fr' l vs')
  | [], vs, vs', m, fr, fr', hl, h, _ => by simpa [frG] using h
  | o :: r, [], [], m, fr, fr', hl, h, _ => by simpa [frG] using h
  | o :: r, [], v' :: vs', m, fr, fr', hl, h, _ => by simp at hl
  | o :: r, v :: vs, [], m, fr, fr', hl, h, _ => by simp at hl
  | o :: r, v :: vs, v' :: vs', m, fr, fr', hl, h, hv => by
    simp only [frG]
    refine frG_vals r vs vs' (m + 1) _ _ (by simpa using hl) ?_ (fun i p hp hd hS => by
      have := hv (i + 1) p (by simpa using hp) hd (by rw [← hS]; congr 1; omega)
      simpa using this)
    cases hS : S m
    · simpa using h
    · simp only [if_true, fget_fput]
      by_cases hd : o.dst = some t
      · have := hv 0 o rfl hd (by simpa using hS)
        simp only [List.getElem?_cons_zero, Option.some.injEq] at this
        rw [if_pos hd, if_pos hd, this]
      · rw [if_neg hd, if_neg hd]; exact h

theorem runTwin_trace {base bar : Nat} {H0 : Heap} : ∀ (l : List (Nat × AOper)) (m : Nat) (fr : Frame) (H : Heap) (st' : St), runTwin base bar H0 m l fr H = some st' →
    ∃ (vals : List AV) (hs : List Heap) (ms : List Nat), vals.length = l.length ∧ hs[0]? = some H ∧ ms[0]? = some m ∧ hs[l.length]? = some st'.H ∧ st'.fr = frG (fun _ => true) 0 fr (l.map (·.2)) vals ∧
      ∀ (i k : Nat) (o : AOper), l[i]? = some (k, o) → ∃ v Hi Hi' tc mi, vals[i]? = some v ∧ hs[i]? = some Hi ∧ ms[i]? = some mi ∧
        aop base bar o.op (fkeep o.looks (frG (fun j => decide (j < i)) 0 fr (l.map (·.2)) vals)) (if k = 0 then H0 else Hi) = some (v, Hi', tc) ∧
        hs[i + 1]? = some (if k = 0 then Hi else Hi') ∧ ms[i + 1]? = some (if k = 1 then v.vlen else mi) ∧ (k = 0 → v.top ≤ H0.length) ∧ (k = 2 → v.vlen = mi)
  | [], m, fr, H, st', h => by
    simp [runTwin] at h; subst h
    exact ⟨[], [H], [m], rfl, rfl, rfl, rfl, rfl, by simp⟩
  | (k, o) :: r, m, fr, H, st', h => by
    simp only [runTwin] at h
    split at h <;> try (cases h; done)
    rename_i v H' tc hop
    split at h <;> try (cases h; done)
    rename_i hc
    obtain ⟨vals, hs, ms, e1, e2, e3, e4, e5, e6⟩ := runTwin_trace r _ _ _ st' h
    refine ⟨v :: vals, H :: hs, m :: ms, by simp [e1], rfl, rfl, by simpa using e4, ?_, fun i k' p hi => ?_⟩
    · rw [e5]; simp only [List.map_cons, frG, if_true]; rw [frG_shift]
    · cases i with
      | zero =>
        simp only [List.getElem?_cons_zero, Option.some.injEq, Prod.mk.injEq] at hi
        obtain ⟨rfl, rfl⟩ := hi
        refine ⟨v, H, H', tc, m, rfl, rfl, rfl, ?_, by simpa using e2, by simpa using e3, fun hk => ?_, fun hk => ?_⟩
        · rw [frG_none (by simp)]; exact hop
        · rcases Nat.lt_or_ge H0.length v.top with h1 | h1
          · exact absurd (.inl ⟨hk, h1⟩) hc
          · exact h1
        · apply Decidable.byContradiction
          intro hne
          exact hc (.inr ⟨hk, hne⟩)
      | succ i =>
        obtain ⟨w, Hi, Hi', tc', mi, f1, f2, f3, f4, f5, f6, f7, f8⟩ := e6 i k' p (by simpa using hi)
        refine ⟨w, Hi, Hi', tc', mi, by simpa using f1, by simpa using f2, by simpa using f3, ?_, by simpa using f5, by simpa using f6, f7, f8⟩
        have hf : frG (fun j => decide (j < i + 1)) 0 fr (((k, o) :: r).map (·.2)) (v :: vals) = frG (fun j => decide (j < i)) 0 (fput o.dst v fr) (r.map (·.2)) vals := by
          simp only [List.map_cons, frG, Nat.zero_lt_succ, decide_true, if_true]
          rw [frG_shift]
          simp only [Nat.add_lt_add_iff_right]
        rw [hf]; exact f4

/-- what does not see the heap's end -/
theorem aop_ext {base bar : Nat} {op : AOp} {fr : Frame} {H H' X : Heap} {v : AV} {tc : List Nat} (hf : twinFits 0 op = true) (h : aop base bar op fr H = some (v, H', tc)) : aop base bar op fr (H ++ X) = some (v, H ++ X, []) := by
  cases op <;> simp only [twinFits, heapFree, Bool.false_eq_true] at hf <;> simp only [aop] at h ⊢
  case load ti a =>
    split at h
    · rename_i p hp
      split at h
      · rename_i u hu
        have : aload (H ++ X) ti p = some u := by
          cases p <;> simp only [aload] at hu ⊢ <;> first | exact hu | skip
          split at hu
          · rename_i hb
            rw [List.getElem?_append_left (List.getElem?_eq_some_iff.1 hb).1, hb]
            exact hu
          · cases hu
        simp only [Option.some.injEq, Prod.mk.injEq] at h
        rw [this]
        simp [h.1]
      · cases h
    · cases h
  all_goals
    repeat' split at h
    all_goals first
      | (cases h; done)
      | (simp_all; done)

theorem cOp_mk {t : TypeId} {x y : Tmp} {z : List AV} {b : Nat} {l c : Opd} (h : cOp P (.makeSlice t (.tmp x) (.tmp x)) = some (.mkslice z b l c)) :
    (l = .t x ∧ c = .t x) ∧ cOp P (.makeSlice t (.tmp y) (.tmp y)) = some (.mkslice z b (.t y) (.t y)) ∧ AV.top.tops z = 0 := by
  simp only [cOp, cOpd] at h ⊢
  split at h <;> try (cases h; done)
  rename_i e hu
  split at h <;> try (cases h; done)
  rename_i i z' l' c' hi hz hl hc
  simp only [Option.some.injEq] at hl hc
  subst hl hc
  split at h <;> try (cases h; done)
  rename_i hcond
  simp only [Option.some.injEq, AOp.mkslice.injEq] at h
  obtain ⟨rfl, rfl, rfl, rfl⟩ := h
  refine ⟨⟨rfl, rfl⟩, by simp [hi, hz, hcond], ?_⟩
  have htop : z'.top = 0 := by
    unfold zeroOf at hz
    split at hz <;> try (cases hz; done)
    split at hz <;> try (cases hz; done)
    split at hz <;> try (cases hz; done)
    rename_i x hx
    split at hz <;> try (cases hz; done)
    simp only [Option.some.injEq] at hz; subst hz
    have flat : ∀ (vs : List Value) (xs : List AV), ofV.flats vs = some xs → AV.top.tops xs = 0 := by
      intro vs
      induction vs with
      | nil => intro xs h; simp [ofV.flats] at h; subst h; rfl
      | cons v vs ih =>
        intro xs h
        simp only [ofV.flats] at h
        split at h
        · rename_i a as ha has
          simp only [Option.some.injEq] at h; subst h
          simp only [AV.top.tops, ih _ has, Nat.max_zero]
          unfold ofV.flat1 at ha
          split at ha <;> first | (cases ha; done) | (simp only [Option.some.injEq] at ha; subst ha; rfl)
        · cases h
    unfold ofV at hx
    split at hx <;> first
      | (simp only [Option.some.injEq] at hx; subst hx; rfl)
      | skip
    · obtain ⟨a, ha, rfl⟩ := Option.map_eq_some_iff.1 hx
      exact flat _ _ ha
    · split at hx
      · simp only [Option.some.injEq] at hx; subst hx; rfl
      · cases hx
    · cases hx
  cases z' <;> first | (simp only [AV.cells, AV.top.tops, Nat.max_eq_zero_iff, and_true]; exact htop) | exact htop

theorem mk_run {base bar : Nat} {z : List AV} {b x : Nat} {fr : Frame} {H H' : Heap} {v : AV} {tc : List Nat} (h : aop base bar (.mkslice z b (.t x) (.t x)) fr H = some (v, H', tc)) :
    ∃ n, v = .vec H.length 0 0 n z.length ∧ H' = H ++ [.row 0 (List.flatten (List.replicate n z)) 0 true] ∧ ∀ H2 : Heap, aop base bar (.mkslice z b (.t x) (.t x)) fr H2 = some (.vec H2.length 0 0 n z.length, H2 ++ [.row 0 (List.flatten (List.replicate n z)) 0 true], []) := by
  simp only [aop] at h ⊢
  cases hl : (Opd.t x).ev fr with
  | none => rw [hl] at h; cases h
  | some l =>
    rw [hl] at h
    simp only at h ⊢
    cases hn : l.asNat with
    | none => rw [hn] at h; cases h
    | some ln =>
      rw [hn] at h
      simp only at h ⊢
      split at h <;> try (cases h; done)
      rename_i hcond
      simp only [Option.some.injEq, Prod.mk.injEq] at h
      obtain ⟨rfl, rfl, rfl⟩ := h
      exact ⟨ln, rfl, rfl, fun H2 => by rw [if_pos hcond]⟩

/-! ## any order -/
def twMk (c1 c2 : Bool) (B : Blk) : Heap := (if c1 then [B] else []) ++ (if c2 then [B] else [])
def twVals (c1 c2 : Bool) (e2 : Nat) (v1 : AV) (vals : List AV) : List AV := if !c1 && c2 then vals.set e2 v1 else vals

structure TInv (nt base bar : Nat) (ops : Array Oper) (ls : List AOper) (fr0 : Frame) (vals : List AV) (e1 e2 : Nat) (v1 : AV) (B : Blk) (Γ : Ctx) (H0 : Heap) (listed : Array Bool) (a : Act) (Γc : Ctx) : Prop where
  size : listed.size = ops.size
  closed : ∀ i o, listed.getD i false = true → ops[i]? = some o → ∀ e ∈ o.after.toList, Region.binds .any e = true → listed.getD e.on false = true
  good : Good base bar (List.range H0.length) Γ Γc H0 (H0 ++ twMk (listed.getD e1 false) (listed.getD e2 false) B)
  fits : Fits nt Γc (frG (fun i => listed.getD i false) 0 fr0 ls (twVals (listed.getD e1 false) (listed.getD e2 false) e2 v1 vals)) a

theorem twin_nocall {env : Env} {ex : Ex} {k base bar : Nat} {op : AOp} (h : twinFits k op = true) (fr : Frame) (H : Heap) : aopC env ex false base bar op fr H = aop base bar op fr H := by
  cases op <;> first | rfl | (exfalso; unfold twinFits at h; split at h <;> simp_all [heapFree])

set_option maxHeartbeats 4000000 in
theorem runTwin_sound {env : Env} {ex : Ex} (HF : FunsOK P env) (HK : KnownOK P env) (HE : ExOK P ex) (hmix : P.follows .mixedOrders = true) {nt base bar id : Nat} {ops : Array Oper} {l : List AOper} {l' : List (Nat × AOper)} (hl : cOpers P nt ops ops.toList = some l)
    (hct : cTwin ops l = some l') {st st' : St} (h : runTwin base bar st.H 0 l' st.fr st.H = some st') {Γ : Ctx} {a : Act} (F : Fits nt Γ st.fr a) (s : Sim Γ st.H) (hbase : base ≤ st.H.length) (hbar : bar ≤ base) {Q : Exit → Act → World → Prop}
    (hQ : ∀ (Δ : Ctx) (a' : Act), Fits nt Δ st'.fr a' → Good base bar (List.range st.H.length) Γ Δ st.H st'.H → Q .normal a' Δ.w) : (Code.region id ops true).wp P Q a Γ.w := by
  obtain ⟨hlen0, hget⟩ := cOpers_get hl
  have hlen : l.length = ops.size := by simpa using hlen0
  unfold cTwin at hct
  split at hct <;> try (cases hct; done)
  rename_i e1 e2 hms
  simp only at hct
  split at hct <;> try (cases hct; done)
  rename_i hok
  simp only [Option.some.injEq] at hct
  generalize hB : befs ops.toList [] = B at hct hok
  simp only [twinOK, Bool.and_eq_true] at hok
  obtain ⟨⟨⟨⟨⟨hfine, htype⟩, hlt12⟩, hmk1⟩, hmk2⟩, htags⟩ := hok
  simp only [Nat.blt_eq] at hlt12
  have hl'len : l'.length = ops.size := by rw [← hct]; simp [hlen]
  have htag : ∀ i, i < ops.size → ∃ k o, twinTag B e1 e2 i = some k ∧ l[i]? = some o ∧ twinFits k o.op = true ∧ o.guard = none := fun i hi => by
    have := List.all_eq_true.1 htags i (by rw [List.mem_range, hlen]; exact hi)
    split at this
    · rename_i k o hk ho
      simp only [Bool.and_eq_true, Option.isNone_iff_eq_none] at this
      exact ⟨k, o, hk, ho, this.1, this.2⟩
    · cases this
  have hl'get : ∀ i o, ops[i]? = some o → ∃ k c, l'[i]? = some (k, c) ∧ twinTag B e1 e2 i = some k ∧ c.dst = o.dst ∧ c.op = (cOp P o.op).getD .bad ∧ cGuard ops o.guard = some none ∧ o.dst.all (fun d => Nat.blt d nt) = true ∧ c.looks = Oper.looksAt ops o ∧ twinFits k c.op = true := fun i o ho => by
    have hi : i < ops.size := (Array.getElem?_eq_some_iff.1 ho).1
    obtain ⟨g, h1, h2, h3⟩ := hget i o (by simpa using ho)
    obtain ⟨k, c, t1, t2, t3, t4⟩ := htag i hi
    rw [h1] at t2
    simp only [Option.some.injEq] at t2; subst t2
    simp only at t3 t4; subst t4
    refine ⟨k, { dst := o.dst, op := (cOp P o.op).getD .bad, guard := none, looks := Oper.looksAt ops (ops.getD i default) }, ?_, t1, rfl, rfl, h2, h3, ?_, t3⟩
    · rw [← hct, List.getElem?_map, List.getElem?_zipIdx, h1]; simp [t1]
    · simp [Array.getD_eq_getD_getElem?, ho]
  -- edges and pairs
  have hf := List.all_eq_true.1 hfine
  have hedge : ∀ i o, ops[i]? = some o → ∀ e ∈ o.after.toList, Region.binds .any e = true → e.on < i := fun i o ho e he hb => by
    have hi : i < ops.size := (Array.getElem?_eq_some_iff.1 ho).1
    have := hf i (by rw [List.mem_range, hlen]; exact hi)
    simp only [Bool.and_eq_true] at this
    have h2 := List.all_eq_true.1 this.1 e (by simpa [Array.getD_eq_getD_getElem?, ho] using he)
    simpa [hb] using h2
  have hpair : ∀ i j, j < i → i < ops.size → isBef B j i = true ∨ ∀ oi oj, ops[i]? = some oi → ops[j]? = some oj → Oper.apart ops oj oi = true := fun i j hji hi => by
    have := hf i (by rw [List.mem_range, hlen]; exact hi)
    simp only [Bool.and_eq_true] at this
    have h2 := List.all_eq_true.1 this.2 j (by simpa using hji)
    simp only [Bool.or_eq_true, Bool.and_eq_true] at h2
    rcases h2 with h2 | ⟨_, h3⟩
    · exact .inl h2
    · exact .inr fun oi oj hoi hoj => by simpa [Array.getD_eq_getD_getElem?, hoi, hoj] using h3
  have hbeflt : ∀ i j o, ops[i]? = some o → isBef B j i = true → j < i := fun i => by
    induction i using Nat.strongRecOn with
    | _ i ih =>
      intro j o ho hb
      rw [← hB] at hb
      obtain ⟨e, he, hbd, hor⟩ := (isBef_iff ho (hedge i o ho)).1 hb
      have hlt := hedge i o ho e he hbd
      have hi : i < ops.size := (Array.getElem?_eq_some_iff.1 ho).1
      rcases hor with rfl | hor
      · exact hlt
      · have hoe : ops[e.on]? = some (ops[e.on]'(by omega)) := Array.getElem?_eq_getElem _
        have := ih e.on hlt j _ hoe (by rw [← hB]; exact hor)
        omega
  have hbef : ∀ {listed : Array Bool}, (∀ i o, listed.getD i false = true → ops[i]? = some o → ∀ e ∈ o.after.toList, Region.binds .any e = true → listed.getD e.on false = true) →
      ∀ i j o, ops[i]? = some o → (∀ e ∈ o.after.toList, Region.binds .any e = true → listed.getD e.on false = true) → isBef B j i = true → listed.getD j false = true := fun {listed} hc i => by
    induction i using Nat.strongRecOn with
    | _ i ih =>
      intro j o ho hall hb
      rw [← hB] at hb
      obtain ⟨e, he, hbd, hor⟩ := (isBef_iff ho (hedge i o ho)).1 hb
      have hon := hall e he hbd
      rcases hor with rfl | hor
      · exact hon
      · have hlt := hedge i o ho e he hbd
        have hi : i < ops.size := (Array.getElem?_eq_some_iff.1 ho).1
        have hoe : ops[e.on]? = some (ops[e.on]'(by omega)) := Array.getElem?_eq_getElem _
        exact ih e.on hlt j _ hoe (hc e.on _ hon hoe) (by rw [← hB]; exact hor)
  -- the two slices
  have he1s : e1 < ops.size ∧ e2 < ops.size := by
    have hm : ∀ x ∈ [e1, e2], x < ops.size := fun x hx => by
      rw [← hms] at hx
      exact List.mem_range.1 (List.mem_filter.1 hx).1
    exact ⟨hm e1 (by simp), hm e2 (by simp)⟩
  obtain ⟨he1s, he2s⟩ := he1s
  have tag1 : twinTag B e1 e2 e1 = some 1 := by simp [twinTag]
  have tag2 : twinTag B e1 e2 e2 = some 2 := by simp [twinTag]; omega
  have ho1 : ops[e1]? = some ops[e1] := Array.getElem?_eq_getElem he1s
  have ho2 : ops[e2]? = some ops[e2] := Array.getElem?_eq_getElem he2s
  generalize hoe1 : ops[e1] = o1 at ho1
  generalize hoe2 : ops[e2] = o2 at ho2
  obtain ⟨t, x, y, hop1, hop2⟩ : ∃ t x y, o1.op = .makeSlice t (.tmp x) (.tmp x) ∧ o2.op = .makeSlice t (.tmp y) (.tmp y) := by
    have key : ∀ (op : Op) t, mkOf op = some t → ∃ x, op = .makeSlice t (.tmp x) (.tmp x) := fun op t h => by
      unfold mkOf at h
      split at h
      · split at h
        · rename_i hab; subst hab
          simp only [Option.some.injEq] at h; subst h
          exact ⟨_, rfl⟩
        · cases h
      · cases h
    rw [ho1, ho2] at htype
    simp only [isMk, ho1, ho2, Option.bind_some] at hmk1 hmk2 htype
    obtain ⟨t1, ht1⟩ := Option.isSome_iff_exists.1 hmk1
    obtain ⟨t2, ht2⟩ := Option.isSome_iff_exists.1 hmk2
    rw [ht1, ht2] at htype
    have : t1 = t2 := by simpa using htype
    subst this
    obtain ⟨x, hx⟩ := key _ _ ht1
    obtain ⟨y, hy⟩ := key _ _ ht2
    exact ⟨t1, x, y, hx, hy⟩
  obtain ⟨k1, c1, q1, q2, q3, q4, q5, q6, q7, q8⟩ := hl'get e1 o1 ho1
  rw [tag1] at q2
  simp only [Option.some.injEq] at q2; subst q2
  obtain ⟨k2, c2, r1, r2, r3, r4, r5, r6, r7, r8⟩ := hl'get e2 o2 ho2
  rw [tag2] at r2
  simp only [Option.some.injEq] at r2; subst r2
  obtain ⟨z, by_, hz1, hz2, hz0⟩ : ∃ z b, c1.op = .mkslice z b (.t x) (.t x) ∧ c2.op = .mkslice z b (.t y) (.t y) ∧ AV.top.tops z = 0 := by
    rw [hop1] at q4
    rw [hop2] at r4
    cases hc : cOp P (.makeSlice t (.tmp x) (.tmp x)) with
    | none => rw [hc] at q4; rw [q4] at q8; cases q8
    | some op =>
      rw [hc, Option.getD_some] at q4
      rw [q4] at q8
      cases op <;> simp only [twinFits, Bool.false_eq_true] at q8
      rename_i z b u v
      obtain ⟨⟨rfl, rfl⟩, h2, h3⟩ := cOp_mk (y := y) hc
      exact ⟨z, b, q4, by rw [r4, h2]; rfl, h3⟩
  -- the run in the order of the text
  obtain ⟨vals, hs, ms, t1, t2, t3, t4, t5, t6⟩ := runTwin_trace l' 0 st.fr st.H st' h
  obtain ⟨ls, hls⟩ : ∃ ls, ls = l'.map (·.2) := ⟨_, rfl⟩
  rw [← hls] at t5 t6
  have tagc : ∀ i k o, ops[i]? = some o → twinTag B e1 e2 i = some k → (i = e1 ∧ k = 1) ∨ (i = e2 ∧ k = 2) ∨ (k = 3 ∧ e2 < i ∧ isBef B e1 i = true) ∨ (k = 0 ∧ i ≠ e1 ∧ i < e2 ∧ (isBef B i e1 = true ∨ isBef B i e2 = true)) := fun i k o ho hk => by
    unfold twinTag at hk
    split at hk
    · rename_i h1; simp only [Option.some.injEq] at hk; exact .inl ⟨h1, hk.symm⟩
    · rename_i h1
      split at hk
      · rename_i h2; simp only [Option.some.injEq] at hk; exact .inr (.inl ⟨h2, hk.symm⟩)
      · split at hk
        · rename_i h3
          simp only [Option.some.injEq] at hk
          simp only [Bool.and_eq_true, Nat.blt_eq] at h3
          exact .inr (.inr (.inl ⟨hk.symm, h3.2, h3.1⟩))
        · split at hk
          · rename_i h4
            simp only [Option.some.injEq] at hk
            simp only [Bool.or_eq_true] at h4
            refine .inr (.inr (.inr ⟨hk.symm, h1, ?_, h4⟩))
            rcases h4 with h4 | h4
            · have := hbeflt e1 i o1 ho1 h4; omega
            · exact hbeflt e2 i o2 ho2 h4
          · cases hk
  have mvrun : ∀ {fr : Frame} {H H' : Heap} {op : AOp} {v : AV} {tc : List Nat}, twinFits 3 op = true → aop base bar op fr H = some (v, H', tc) → H' = H ∧ ∀ H2 : Heap, aop base bar op fr H2 = some (v, H2, []) := fun {fr H H' op v tc} hf hr => by
    cases op <;> simp only [twinFits, Bool.false_eq_true] at hf
    rename_i x
    simp only [aop] at hr ⊢
    cases hx : x.ev fr with
    | none => rw [hx] at hr; cases hr
    | some u =>
      rw [hx] at hr
      simp only [Option.some.injEq, Prod.mk.injEq] at hr
      exact ⟨hr.2.1.symm, fun _ => by rw [hr.1]⟩
  have before : ∀ i, i ≤ e1 → hs[i]? = some st.H := fun i => by
    induction i with
    | zero => intro _; exact t2
    | succ i ih =>
      intro hi
      have hio : ops[i]? = some (ops[i]'(by omega)) := Array.getElem?_eq_getElem _
      obtain ⟨k, c, a1, a2, _⟩ := hl'get i _ hio
      obtain ⟨v, Hi, Hi', tc, mi, b1, b2, b3, b4, b5, _⟩ := t6 i k c a1
      have hk : k = 0 := by
        rcases tagc i k _ hio a2 with h | h | h | h <;> omega
      rw [ih (by omega)] at b2
      simp only [Option.some.injEq] at b2; subst b2
      rw [b5, if_pos hk]
  obtain ⟨v1, Hi1, H1, tc1, m1, x1, x2, x3, x4, x5, x6, _, _⟩ := t6 e1 1 c1 q1
  rw [before e1 (Nat.le_refl _)] at x2
  simp only [Option.some.injEq] at x2; subst x2
  rw [if_neg (by decide)] at x4 x5
  rw [if_pos rfl] at x6
  rw [hz1] at x4
  obtain ⟨n, hv1, hH1, mk1⟩ := mk_run x4
  have middle : ∀ i, e1 < i → i ≤ e2 → hs[i]? = some H1 ∧ ms[i]? = some v1.vlen := fun i => by
    induction i with
    | zero => intro h _; omega
    | succ i ih =>
      intro hi1 hi2
      by_cases he : i = e1
      · subst he; exact ⟨x5, x6⟩
      · have hio : ops[i]? = some (ops[i]'(by omega)) := Array.getElem?_eq_getElem _
        obtain ⟨k, c, a1, a2, _⟩ := hl'get i _ hio
        obtain ⟨v, Hi, Hi', tc, mi, b1, b2, b3, b4, b5, b6, _⟩ := t6 i k c a1
        have hk : k = 0 := by
          rcases tagc i k _ hio a2 with h | h | h | h <;> omega
        obtain ⟨d1, d2⟩ := ih (by omega) (by omega)
        rw [d1] at b2
        rw [d2] at b3
        simp only [Option.some.injEq] at b2 b3
        subst b2 b3
        rw [b5, if_pos hk, b6, if_neg (by omega)]
        exact ⟨rfl, rfl⟩
  obtain ⟨v2, Hi2, H2, tc2, m2, y1, y2, y3, y4, y5, _, _, y8⟩ := t6 e2 2 c2 r1
  obtain ⟨d1, d2⟩ := middle e2 hlt12 (Nat.le_refl _)
  rw [d1] at y2
  rw [d2] at y3
  simp only [Option.some.injEq] at y2 y3
  subst y2 y3
  rw [if_neg (by decide)] at y4 y5
  rw [hz2] at y4
  obtain ⟨n', hv2, hH2, mk2⟩ := mk_run y4
  have hnn : n' = n := by
    have := y8 rfl
    rw [hv1, hv2] at this
    exact this
  subst hnn
  obtain ⟨BB, hBB⟩ : ∃ BB : Blk, BB = .row 0 (List.flatten (List.replicate n' z)) 0 true := ⟨_, rfl⟩
  rw [← hBB] at hH1 hH2 mk1 mk2
  have hBtop : BB.top = 0 := by
    rw [hBB]
    refine Nat.eq_zero_of_le_zero (AV.le_tops fun c hc => ?_)
    obtain ⟨l, hl, hcl⟩ := List.mem_flatten.1 hc
    rw [(List.mem_replicate.1 hl).2] at hcl
    exact AV.tops_le (Nat.le_of_eq hz0) c hcl
  have hH1l : H1.length = st.H.length + 1 := by rw [hH1]; simp
  rw [hH1l] at hv2
  have hH2' : H2 = st.H ++ [BB, BB] := by rw [hH2, hH1]; simp
  have behind : ∀ i, e2 < i → i ≤ ops.size → hs[i]? = some H2 := fun i => by
    induction i with
    | zero => intro h _; omega
    | succ i ih =>
      intro hi1 hi2
      by_cases he : i = e2
      · subst he; exact y5
      · have hio : ops[i]? = some (ops[i]'(by omega)) := Array.getElem?_eq_getElem _
        obtain ⟨k, c, a1, a2, _, _, _, _, _, a8⟩ := hl'get i _ hio
        obtain ⟨v, Hi, Hi', tc, mi, b1, b2, b3, b4, b5, b6, _⟩ := t6 i k c a1
        have hk : k = 3 := by
          rcases tagc i k _ hio a2 with h | h | h | h <;> omega
        subst hk
        rw [ih (by omega) (by omega)] at b2
        simp only [Option.some.injEq] at b2; subst b2
        rw [if_neg (by decide)] at b4 b5
        rw [b5, (mvrun a8 b4).1]
  have hst' : st'.H = st.H ++ [BB, BB] := by
    have := behind ops.size (by omega) (Nat.le_refl _)
    rw [hl'len, this] at t4
    simp only [Option.some.injEq] at t4
    rw [← t4]; exact hH2'
  have hvl : vals.length = ops.size := by rw [t1, hl'len]
  have hlsl : ls.length = ops.size := by rw [hls]; simp [hl'len]
  have hlsget : ∀ i k c, l'[i]? = some (k, c) → ls[i]? = some c := fun i k c hi => by rw [hls, List.getElem?_map, hi]; rfl
  have twF : ∀ {c1 c2 : Bool}, (c1 = true ∨ c2 = false) → twVals c1 c2 e2 v1 vals = vals := fun {c1 c2} h => by
    unfold twVals; cases c1 <;> cases c2 <;> simp_all
  have fin : ∀ (listed : Array Bool) (a : Act) (Γc : Ctx), TInv nt base bar ops ls st.fr vals e1 e2 v1 BB Γ st.H listed a Γc → (∀ j, j < ops.size → listed.getD j false = true) → Q .normal a Γc.w := fun listed a Γc I hall => by
    have g := I.good
    have f := I.fits
    rw [hall e1 he1s, hall e2 he2s] at g f
    rw [twF (.inl rfl)] at f
    have hg : st.H ++ twMk true true BB = st'.H := by rw [hst']; rfl
    rw [hg] at g
    refine hQ Γc a ⟨fun t v hv => f.fr t v ?_, f.size, f.defers, f.glob⟩ g
    rw [← hv, t5]
    refine frG_congr ls vals 0 _ _ rfl fun i o ho hne => ?_
    have : i < ls.length := (List.getElem?_eq_some_iff.1 ho).1
    exact absurd (by simp [hall i (by omega)]) hne
  have hready : ∀ (listed : Array Bool), listed.size = ops.size → ∀ i, i ∈ Region.ready .any ops listed ↔ i < ops.size ∧ listed.getD i false = false ∧ ∀ o, ops[i]? = some o → ∀ e ∈ o.after.toList, Region.binds .any e = true → listed.getD e.on false = true := fun listed hsz i => by
    simp only [Region.ready, List.mem_filter, List.mem_range, Bool.and_eq_true, Bool.not_eq_true']
    refine and_congr_right fun hi => ?_
    have hl : listed.getD i true = listed.getD i false := by simp [Array.getD_eq_getD_getElem?, Array.getElem?_eq_getElem (show i < listed.size by omega)]
    rw [hl, Array.getElem?_eq_getElem hi]
    refine and_congr_right fun _ => ?_
    simp only [Option.map_some, Option.getD_some, Option.some.injEq, forall_eq']
    rw [← Array.all_toList, List.all_eq_true]
    refine forall_congr' fun e => forall_congr' fun he => ?_
    cases Region.binds .any e <;> simp
  have hdone : ∀ (listed : Array Bool), listed.size = ops.size → Region.ready .any ops listed = [] → ∀ j, j < ops.size → listed.getD j false = true := fun listed hsz hr j => by
    induction j using Nat.strongRecOn with
    | _ j ih =>
      intro hj
      cases hl : listed.getD j false with
      | true => rfl
      | false =>
        have : j ∈ Region.ready .any ops listed := (hready listed hsz j).2 ⟨hj, hl, fun o ho e he hb => ih e.on (hedge j o ho e he hb) (by have := hedge j o ho e he hb; omega)⟩
        rw [hr] at this; cases this
  have key : ∀ (fuel : Nat) (listed : Array Bool) (a : Act) (Γc : Ctx), TInv nt base bar ops ls st.fr vals e1 e2 v1 BB Γ st.H listed a Γc → cnt ops.size (fun j => true && listed.getD j false) + fuel = ops.size → wpAny P .any ops Q fuel listed a Γc.w := by
    intro fuel
    induction fuel with
    | zero =>
      intro listed a Γc I hc
      have hall : ∀ j, j < ops.size → listed.getD j false = true := fun j hj => by
        cases hl : listed.getD j false with
        | true => rfl
        | false =>
          exfalso
          have h1 := cnt_insert (fun _ => true) j (S := fun j => listed.getD j false) (S' := fun i => if i = j then true else listed.getD i false) hl (by simp) (fun i hi => by simp [hi]) ops.size hj
          have h2 : cnt ops.size (fun i => true && (if i = j then true else listed.getD i false)) ≤ ops.size := by
            have := List.countP_le_length (p := fun i => true && (if i = j then true else listed.getD i false)) (l := List.range ops.size)
            simpa [cnt] using this
          simp only [if_true] at h1
          omega
      refine ⟨?_, fin listed a Γc I hall⟩
      apply List.eq_nil_iff_forall_not_mem.2
      intro i hi
      obtain ⟨h1, h2, _⟩ := (hready listed I.size i).1 hi
      rw [hall i h1] at h2; cases h2
    | succ fuel ih =>
      intro listed a Γc I hc
      refine ⟨fun hr => fin listed a Γc I (hdone listed I.size hr), fun i hi => ?_⟩
      obtain ⟨hin, hDi, hedges⟩ := (hready listed I.size i).1 hi
      have ho : ops[i]? = some ops[i] := Array.getElem?_eq_getElem hin
      generalize ops[i] = o at ho
      have hedg2 := hedges o ho
      obtain ⟨k, c, hc1, hck, hc2, hc3, hc5, hc6, hc10, hc11⟩ := hl'get i o ho
      have hcl := hlsget i k c hc1
      obtain ⟨v, Hi, Hi', tc, mi, hv1', hv2', _, hrun, _, _, htop, _⟩ := t6 i k c hc1
      have b1 : ∀ j, isBef B j i = true → listed.getD j false = true := fun j hb => hbef I.closed i j o ho hedg2 hb
      have b2 : ∀ j, listed.getD j false = true → j < ops.size → isBef B i j = false := fun j hj hjn => by
        cases hb : isBef B i j with
        | false => rfl
        | true =>
          have hoj : ops[j]? = some ops[j] := Array.getElem?_eq_getElem hjn
          rw [hbef I.closed j i _ hoj (I.closed j _ hj hoj) hb] at hDi; cases hDi
      -- while only the second is there, nothing looks at it
      have early : listed.getD e1 false = false → listed.getD e2 false = true → ∀ d, o2.dst = some d → d ∉ c.looks := fun h1 h2 d hd => by
        rw [hc10]
        have hne : i ≠ e2 := by rintro rfl; rw [hDi] at h2; cases h2
        have nob : isBef B e2 i = false := by
          cases hb : isBef B e2 i with
          | false => rfl
          | true =>
            rcases tagc i k o ho hck with ⟨h, _⟩ | ⟨h, _⟩ | ⟨_, _, hb1⟩ | ⟨_, _, hlt, _⟩
            · rw [h] at hb
              have := hbeflt e1 e2 o1 ho1 hb; omega
            · exact absurd h hne
            · rw [b1 e1 hb1] at h1; cases h1
            · have := hbeflt i e2 o ho hb; omega
        have nob2 : isBef B i e2 = false := b2 e2 h2 he2s
        rcases Nat.lt_trichotomy i e2 with hlt | heq | hgt
        · rcases hpair e2 i hlt he2s with hb | hap
          · rw [nob2] at hb; cases hb
          · exact (Oper.apart_spec (hap o2 o ho2 ho)).2.2 d hd
        · exact absurd heq hne
        · rcases hpair i e2 hgt hin with hb | hap
          · rw [nob] at hb; cases hb
          · exact (Oper.apart_spec (hap o o2 ho ho2)).1 d hd
      have lenE : ∀ {c1 c2 : Bool}, vals.length = (twVals c1 c2 e2 v1 vals).length := fun {c1 c2} => by unfold twVals; split <;> simp
      have Fs : Fits nt Γc (fkeep c.looks (frG (fun j => decide (j < i)) 0 st.fr ls vals)) a := ⟨fun t x hx => by
        have htl := fkeep_mem hx
        have htl' := htl
        rw [hc10] at htl
        have hx1 := fget_fkeep _ _ _ _ hx
        refine I.fits.fr t x ?_
        have e1' : fget t (frG (fun i => listed.getD i false) 0 st.fr ls (twVals (listed.getD e1 false) (listed.getD e2 false) e2 v1 vals)) = fget t (frG (fun i => listed.getD i false) 0 st.fr ls vals) := by
          cases hq1 : listed.getD e1 false with
          | true => rw [twF (.inl rfl)]
          | false =>
            cases hq2 : listed.getD e2 false with
            | false => rw [twF (.inr rfl)]
            | true =>
              refine frG_vals ls _ _ 0 _ _ lenE.symm rfl fun j p hp hd _ => ?_
              by_cases hj : j = e2
              · subst hj
                rw [hlsget _ _ _ r1] at hp
                simp only [Option.some.injEq] at hp; subst hp
                exact absurd htl' (early hq1 hq2 t (by rw [← r3]; exact hd))
              · simp [twVals, List.getElem?_set_ne (Ne.symm hj)]
        rw [e1', ← hx1]
        refine frG_congr ls vals 0 _ _ rfl fun j p hp hne => ?_
        simp only [Nat.zero_add] at hne
        have hjn : j < ops.size := by rw [← hlsl]; exact (List.getElem?_eq_some_iff.1 hp).1
        have hoj : ops[j]? = some ops[j] := Array.getElem?_eq_getElem hjn
        obtain ⟨kj, q, q1', _, q2', _⟩ := hl'get j _ hoj
        rw [hlsget _ _ _ q1'] at hp
        simp only [Option.some.injEq] at hp; subst hp
        rw [q2']
        by_cases hji : j < i
        · have hDj : listed.getD j false = false := by simpa [hji] using hne
          rcases hpair i j hji hin with hb | hap
          · rw [b1 j hb] at hDj; cases hDj
          · exact fun hd => (Oper.apart_spec (hap o _ ho hoj)).1 t hd htl
        · have hDj : listed.getD j false = true := by simpa [hji] using hne
          have hne' : j ≠ i := by rintro rfl; rw [hDi] at hDj; cases hDj
          rcases hpair j i (by omega) hjn with hb | hap
          · rw [b2 j hDj hjn] at hb; cases hb
          · exact fun hd => (Oper.apart_spec (hap _ o hoj ho)).2.2 t hd htl, I.fits.size, I.fits.defers, I.fits.glob⟩
      have hD' : ∀ j, (listed.setIfInBounds i true).getD j false = if j = i then true else listed.getD j false := fun j => by
        simp only [Array.getD_eq_getD_getElem?]
        by_cases hji : j = i
        · subst hji
          rw [if_pos rfl, Array.getElem?_setIfInBounds_self_of_lt (by rw [I.size]; exact hin)]; rfl
        · rw [if_neg hji, Array.getElem?_setIfInBounds_ne (Ne.symm hji)]
      have hfr : ∀ (vs : List AV) (w : AV), vs[i]? = some w → ∀ t, fget t (frG (fun j => (listed.setIfInBounds i true).getD j false) 0 st.fr ls vs) = fget t (fput o.dst w (frG (fun j => listed.getD j false) 0 st.fr ls vs)) := fun vs w hw t => by
        rw [fget_fput]
        by_cases hdt : o.dst = some t
        · rw [if_pos hdt]
          refine frG_last ls vs 0 st.fr i c w hcl hw (by simp [hD']) (by rw [hc2]; exact hdt) fun j p hj hp hS => ?_
          have hjn : j < ops.size := by rw [← hlsl]; exact (List.getElem?_eq_some_iff.1 hp).1
          have hoj : ops[j]? = some ops[j] := Array.getElem?_eq_getElem hjn
          obtain ⟨kj, q, q1', _, q2', _⟩ := hl'get j _ hoj
          rw [hlsget _ _ _ q1'] at hp
          simp only [Option.some.injEq] at hp; subst hp
          rw [q2']
          have hDj : listed.getD j false = true := by
            rw [Nat.zero_add, hD', if_neg (by omega)] at hS; exact hS
          rcases hpair j i hj hjn with hb | hap
          · rw [b2 j hDj hjn] at hb; cases hb
          · exact (Oper.apart_spec (hap _ o hoj ho)).2.1 t hdt
        · rw [if_neg hdt]
          refine frG_congr ls vs 0 _ _ rfl fun j p hp hne => ?_
          by_cases hji : j = i
          · subst hji
            rw [hcl] at hp
            simp only [Option.some.injEq] at hp; subst hp
            rw [hc2]; exact hdt
          · exact absurd (by rw [Nat.zero_add, hD', if_neg hji]) hne
      have hcnt2 : cnt ops.size (fun j => true && (listed.setIfInBounds i true).getD j false) + fuel = ops.size := by
        have := cnt_insert (fun _ => true) i (S := fun j => listed.getD j false) (S' := fun j => (listed.setIfInBounds i true).getD j false) hDi (by simp [hD']) (fun j hj => by simp [hD', hj]) ops.size hin
        simp only [if_true] at this
        omega
      have hclosed : ∀ j p, (listed.setIfInBounds i true).getD j false = true → ops[j]? = some p → ∀ e ∈ p.after.toList, Region.binds .any e = true → (listed.setIfInBounds i true).getD e.on false = true := fun j p hj hp e he hb => by
        rw [hD'] at hj ⊢
        by_cases hji : j = i
        · subst hji
          rw [ho] at hp
          simp only [Option.some.injEq] at hp; subst hp
          split
          · rfl
          · exact hedg2 e he hb
        · rw [if_neg hji] at hj
          split
          · rfl
          · exact I.closed j p hj hp e he hb
      have hop : ∀ {H H' : Heap} {v : AV} {tc : List Nat}, aop base bar c.op (fkeep c.looks (frG (fun j => decide (j < i)) 0 st.fr ls vals)) H = some (v, H', tc) → cOp P o.op = some c.op := fun {H H' v tc} h => by
        rw [hc3] at h ⊢
        cases hco : cOp P o.op with
        | none => rw [hco] at h; simp [aop] at h
        | some x => rfl
      simp only [wpOp, ho]
      have hwant := want_sound Fs hc5 (b := true) rfl
      rw [if_pos hwant]
      left
      have hHbase : base ≤ (st.H ++ twMk (listed.getD e1 false) (listed.getD e2 false) BB).length := by simp; omega
      have hn0 := s.n
      have wpA : ∀ {v : AV} {H' : Heap} {tc : List Nat} {K : Act → World → Prop}, aop base bar c.op (fkeep c.looks (frG (fun j => decide (j < i)) 0 st.fr ls vals)) (st.H ++ twMk (listed.getD e1 false) (listed.getD e2 false) BB) = some (v, H', tc) →
          (∀ (Δ : Ctx) (v' : Value), VR Δ v v' → Good base bar (List.range st.H.length) Γ Δ st.H H' → Evo Γc Δ → K (a.put o.dst v') Δ.w) → o.wp P a Γc.w K Q := fun {v H' tc K} hr hk => by
        have hr' := hr
        rw [← twin_nocall (env := env) (ex := ex) hc11] at hr'
        refine aopC_sound HF HK HE Fs I.good.sim hHbase hbar (hop hr) hr' fun Δ v' hvv hg => hk Δ v' hvv ((I.good.trans hg.all).any fun j hj hjl => by simpa using hjl) hg.evo
      have next : ∀ (Δ : Ctx) (v' : Value) (w : AV) (c1' c2' : Bool), (listed.setIfInBounds i true).getD e1 false = c1' → (listed.setIfInBounds i true).getD e2 false = c2' → VR Δ w v' → (twVals c1' c2' e2 v1 vals)[i]? = some w →
          Good base bar (List.range st.H.length) Γ Δ st.H (st.H ++ twMk c1' c2' BB) → Evo Γc Δ →
          (∀ t, fget t (frG (fun j => listed.getD j false) 0 st.fr ls (twVals c1' c2' e2 v1 vals)) = fget t (frG (fun j => listed.getD j false) 0 st.fr ls (twVals (listed.getD e1 false) (listed.getD e2 false) e2 v1 vals))) →
          wpAny P .any ops Q fuel (listed.setIfInBounds i true) (a.put o.dst v') Δ.w := fun Δ v' w c1' c2' h1 h2 hvv hw hg he hsame => by
        refine ih _ _ Δ ⟨by simp [I.size], hclosed, by rw [h1, h2]; exact hg, ?_⟩ hcnt2
        rw [h1, h2]
        have F1 := (I.fits.mono he).put hc6 hvv
        refine ⟨fun t x hx => F1.fr t x ?_, F1.size, F1.defers, F1.glob⟩
        rw [hfr _ w hw t, fget_fput] at hx
        rw [fget_fput]
        split
        · rename_i hd; rw [if_pos hd] at hx; exact hx
        · rename_i hd; rw [if_neg hd, hsame t] at hx; exact hx
      rcases tagc i k o ho hck with ⟨rfl, rfl⟩ | ⟨rfl, rfl⟩ | ⟨rfl, hlt, hbb1⟩ | ⟨rfl, hne1, hlt, _⟩
      · -- the first slice
        rw [hc1] at q1
        simp only [Option.some.injEq, Prod.mk.injEq, true_and] at q1; subst q1
        rw [x1] at hv1'
        simp only [Option.some.injEq] at hv1'; subst hv1'
        have hD1 : (listed.setIfInBounds i true).getD i false = true := by rw [hD', if_pos rfl]
        have hD2 : (listed.setIfInBounds i true).getD e2 false = listed.getD e2 false := by rw [hD', if_neg (by omega)]
        cases hq2 : listed.getD e2 false with
        | false =>
          rw [hDi, hq2] at wpA
          have hr := mk1 (st.H ++ twMk false false BB)
          rw [← hz1] at hr
          refine wpA hr fun Δ v' hvv hg he => ?_
          refine next Δ v' v1 true false hD1 (by rw [hD2, hq2]) ?_ (by rw [twF (.inl rfl)]; exact x1) (by simpa [twMk] using hg) he (fun t => by rw [twF (.inl rfl), hDi, hq2, twF (.inr rfl)])
          rw [hv1]
          simpa [twMk] using hvv
        | true =>
          rw [hDi, hq2] at wpA
          have hr := mk1 (st.H ++ twMk false true BB)
          rw [← hz1] at hr
          refine wpA hr fun Δ v' hvv hg he => ?_
          have hg' : Good base bar (List.range st.H.length) Γ Δ st.H (st.H ++ [BB, BB]) := by simpa [twMk] using hg
          have hvv' : VR Δ (.vec (st.H.length + 1) 0 0 n' z.length) v' := by simpa [twMk] using hvv
          have hΔn : Δ.n = st.H.length + 2 := by rw [hg'.sim.n]; simp
          have gs := hg'.swap s hBtop
          have hfits := I.fits
          rw [hDi, hq2] at hfits
          have F1 := (hfits.mono he).put hc6 hvv'
          refine ih _ _ (Δ.swap st.H.length) ⟨by simp [I.size], hclosed, by rw [hD1, hD2, hq2]; exact gs, ?_⟩ hcnt2
          rw [hD1, hD2, hq2, twF (.inl rfl)]
          refine ⟨fun t x hx => ?_, F1.size, F1.defers, gs.sim.glob⟩
          rw [hfr vals v1 x1 t, fget_fput] at hx
          by_cases hd : o.dst = some t
          · rw [if_pos hd] at hx
            simp only [Option.some.injEq] at hx; subst hx
            have := F1.fr t _ (by rw [fget_fput, if_pos hd])
            rw [hv1]; exact this.swap_hi
          · rw [if_neg hd] at hx
            have later : ∀ j, listed.getD j false = true → j < ops.size → j ≤ e2 ∧ j ≠ i := fun j hj hjs => by
              have hne : j ≠ i := by rintro rfl; rw [hDi] at hj; cases hj
              refine ⟨?_, hne⟩
              have hoj : ops[j]? = some ops[j] := Array.getElem?_eq_getElem hjs
              obtain ⟨kj, cj, _, p2, _⟩ := hl'get j _ hoj
              rcases tagc j kj _ hoj p2 with h | h | ⟨_, _, hb⟩ | h
              · omega
              · omega
              · have := hbef I.closed j i _ hoj (I.closed j _ hj hoj) hb
                rw [hDi] at this; cases this
              · omega
            by_cases hd2 : o2.dst = some t
            · have last : ∀ (vs : List AV) (u : AV), vs[e2]? = some u → fget t (frG (fun j => listed.getD j false) 0 st.fr ls vs) = some u := fun vs u hu =>
                frG_last ls vs 0 st.fr e2 c2 u (hlsget _ _ _ r1) hu (by simpa using hq2) (by rw [r3]; exact hd2) fun j p hj hp hS => by
                  have hjn : j < ops.size := by rw [← hlsl]; exact (List.getElem?_eq_some_iff.1 hp).1
                  have := (later j (by simpa using hS) hjn).1
                  omega
              rw [last vals v2 y1] at hx
              simp only [Option.some.injEq] at hx; subst hx
              have := F1.fr t v1 (by
                rw [fget_fput, if_neg hd]
                exact last _ v1 (by simp only [twVals, Bool.not_false, Bool.and_self, if_true]; rw [List.getElem?_set_self (by omega)]))
              rw [hv1] at this
              rw [hv2]; exact this.swap_lo (by omega)
            · have hE : fget t (frG (fun j => listed.getD j false) 0 st.fr ls (twVals false true e2 v1 vals)) = some x := by
                rw [← hx]
                refine frG_vals ls _ _ 0 _ _ lenE.symm rfl fun j p hp hdp _ => ?_
                by_cases hj : j = e2
                · subst hj
                  rw [hlsget _ _ _ r1] at hp
                  simp only [Option.some.injEq] at hp; subst hp
                  rw [r3] at hdp; exact absurd hdp hd2
                · simp [twVals, List.getElem?_set_ne (Ne.symm hj)]
              have hvx := F1.fr t x (by rw [fget_fput, if_neg hd]; exact hE)
              refine hvx.swap ?_
              rcases frG_val ls vals 0 st.fr hx with h0 | ⟨j, p, hp, hpv, hpS, hpd⟩
              · have := (F.fr t x h0).top_le
                omega
              · have hjn : j < ops.size := by rw [← hlsl]; exact (List.getElem?_eq_some_iff.1 hp).1
                have hoj : ops[j]? = some ops[j] := Array.getElem?_eq_getElem hjn
                obtain ⟨kj, cj, p1, p2, p3, _⟩ := hl'get j _ hoj
                obtain ⟨l1, l2⟩ := later j (by simpa using hpS) hjn
                rw [hlsget _ _ _ p1] at hp
                simp only [Option.some.injEq] at hp; subst hp
                have hje : j ≠ e2 := by
                  rintro rfl
                  rw [p1] at r1
                  simp only [Option.some.injEq, Prod.mk.injEq] at r1
                  rw [r1.2, r3] at hpd
                  exact hd2 hpd
                have hk0 : kj = 0 := by
                  rcases tagc j kj _ hoj p2 with h | h | h | h <;> omega
                obtain ⟨u, _, _, _, _, u1, _, _, _, _, _, u7, _⟩ := t6 j kj cj p1
                rw [u1] at hpv
                simp only [Option.some.injEq] at hpv; subst hpv
                exact u7 hk0
      · -- the second slice
        rw [hc1] at r1
        simp only [Option.some.injEq, Prod.mk.injEq, true_and] at r1; subst r1
        have hD1 : (listed.setIfInBounds i true).getD e1 false = listed.getD e1 false := by rw [hD', if_neg (by omega)]
        have hD2 : (listed.setIfInBounds i true).getD i false = true := by rw [hD', if_pos rfl]
        cases hq1 : listed.getD e1 false with
        | true =>
          rw [hDi, hq1] at wpA
          have hr := mk2 (st.H ++ twMk true false BB)
          rw [← hz2] at hr
          refine wpA hr fun Δ v' hvv hg he => ?_
          refine next Δ v' v2 true true (by rw [hD1, hq1]) hD2 ?_ (by rw [twF (.inl rfl)]; exact y1) (by simpa [twMk] using hg) he (fun t => by rw [twF (.inl rfl), hq1, hDi, twF (.inl rfl)])
          rw [hv2]
          simpa [twMk] using hvv
        | false =>
          rw [hDi, hq1] at wpA
          have hr := mk2 (st.H ++ twMk false false BB)
          rw [← hz2] at hr
          refine wpA hr fun Δ v' hvv hg he => ?_
          refine next Δ v' v1 false true (by rw [hD1, hq1]) hD2 ?_ (by simp only [twVals, Bool.not_false, Bool.and_self, if_true]; rw [List.getElem?_set_self (by omega)]) (by simpa [twMk] using hg) he (fun t => ?_)
          · rw [hv1]
            simpa [twMk] using hvv
          · rw [hq1, hDi, twF (c1 := false) (c2 := false) (.inr rfl)]
            refine frG_vals ls _ _ 0 _ _ lenE.symm rfl fun j p hp hdp hS => ?_
            have hj : j ≠ i := by rintro rfl; rw [Nat.zero_add, hDi] at hS; cases hS
            simp [twVals, List.getElem?_set_ne (Ne.symm hj)]
      · have hne1 : i ≠ e1 := by omega
        have hne2 : i ≠ e2 := by omega
        rw [if_neg (by decide)] at hrun
        refine wpA ((mvrun hc11 hrun).2 _) fun Δ v' hvv hg he => ?_
        refine next Δ v' v _ _ (by rw [hD', if_neg (Ne.symm hne1)]) (by rw [hD', if_neg (Ne.symm hne2)]) hvv ?_ hg he (fun t => rfl)
        unfold twVals
        split
        · rw [List.getElem?_set_ne (Ne.symm hne2)]; exact hv1'
        · exact hv1'
      · have hne2 : i ≠ e2 := by omega
        rw [if_pos rfl] at hrun
        refine wpA (aop_ext hc11 hrun) fun Δ v' hvv hg he => ?_
        refine next Δ v' v _ _ (by rw [hD', if_neg (Ne.symm hne1)]) (by rw [hD', if_neg (Ne.symm hne2)]) hvv ?_ hg he (fun t => rfl)
        unfold twVals
        split
        · rw [List.getElem?_set_ne (Ne.symm hne2)]; exact hv1'
        · exact hv1'
  refine wp_region_any hmix ?_
  have g0 := Good.drew (base := base) (bar := bar) (w' := { Γ.w with drawn := Γ.w.drawn + 1 }) s rfl rfl rfl rfl
  have hz : ∀ j, (Array.replicate ops.size false).getD j false = false := fun j => by
    rw [Array.getD_eq_getD_getElem?, Array.getElem?_replicate]
    split <;> rfl
  have c0 : ∀ (n : Nat) (p : Nat → Bool), cnt n (fun j => p j && (Array.replicate ops.size false).getD j false) = 0 := fun n p => by
    have : cnt n (fun j => p j && (Array.replicate ops.size false).getD j false) = cnt n (fun _ => false) := cnt_congr fun j _ => by rw [hz]; simp
    rw [this]; simp [cnt]
  refine key ops.size (Array.replicate ops.size false) a { Γ with w := { Γ.w with drawn := Γ.w.drawn + 1 } } ⟨by simp, fun i o hi => (by rw [hz] at hi; cases hi), ?_, ?_⟩ (by rw [c0]; omega)
  · rw [hz, hz]
    simpa [twMk] using g0.all
  · rw [frG_none hz]
    exact F.mono g0.evo
end Go.Ab
