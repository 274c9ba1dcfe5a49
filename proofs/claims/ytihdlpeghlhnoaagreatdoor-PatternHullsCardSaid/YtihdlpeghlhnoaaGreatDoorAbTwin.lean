/-
  Part of the proved evaluator, or answers that it computed.
-/
import Derived.Test.YtihdlpeghlhnoaaGreatDoorAbDraw
set_option linter.all false
namespace Go.Ab
variable {P : Program}

/-! ## blocks change places -/
def sgm (n : Nat) (p : Nat → Nat) (i : Nat) : Nat := if i < n then i else n + p (i - n)
theorem sgm_lo {n : Nat} {p : Nat → Nat} {i : Nat} (h : i < n) : sgm n p i = i := if_pos h
theorem sgm_hi {n : Nat} {p : Nat → Nat} (j : Nat) : sgm n p (n + j) = n + p j := by
  unfold sgm; rw [if_neg (by omega)]; congr 2; omega

def Ctx.perm (Γ : Ctx) (n : Nat) (p : Nat → Nat) : Ctx :=
  { Γ with
    ρ := fun i => Γ.ρ (sgm n p i)
    ver := fun i => Γ.ver (sgm n p i)
    bsz := fun i => Γ.bsz (sgm n p i) }

theorem VR.perm {Γ : Ctx} {k : Nat} {p : Nat → Nat} {x : AV} {v : Value} (h : VR Γ x v) : x.top ≤ k → VR (Γ.perm k p) x v := by
  induction h with
  | int k n => intro _; exact .int k n
  | bool b => intro _; exact .bool b
  | str s => intro _; exact .str s
  | nilp => intro _; exact .nilp
  | nils => intro _; exact .nils
  | nilm => intro _; exact .nilm
  | nilf => intro _; exact .nilf
  | nili => intro _; exact .nili
  | agg cs vs hl h1 _ ih => intro ht; simp only [AV.top] at ht; exact .agg cs vs hl h1 fun i c v hc hv => ih i c v hc hv (AV.tops_le ht c (List.mem_of_getElem? hc))
  | tup cs vs hl _ ih => intro ht; simp only [AV.top] at ht; exact .tup cs vs hl fun i c v hc hv => ih i c v hc hv (AV.tops_le ht c (List.mem_of_getElem? hc))
  | emp sz ex a cap hex => intro _; exact .emp sz ex a cap hex
  | lst sz ex xs b o cap f hlc hex hsz hcell _ ih =>
    intro ht; simp only [AV.top] at ht
    exact .lst sz ex xs b o cap f hlc hex hsz hcell fun i x j c hx hc => ih i x j c hx hc (AV.cells_top (AV.tops_le ht x (List.mem_of_getElem? hx)) c (List.mem_of_getElem? hc))
  | fp x b o f h1 hcell _ ih =>
    intro ht; simp only [AV.top] at ht
    exact .fp x b o f h1 hcell fun j c hc => ih j c hc (AV.cells_top ht c (List.mem_of_getElem? hc))
  | ptr i ver off a hn hle h =>
    intro ht; simp only [AV.top] at ht
    have h1 : sgm k p i = i := sgm_lo (by omega)
    exact .ptr i ver off a hn (by simpa [Ctx.perm, h1] using hle) (by simpa [Ctx.perm, Ctx.δ, h1] using h)
  | vec i ver off len sz a cap hn hle h =>
    intro ht; simp only [AV.top] at ht
    have h1 : sgm k p i = i := sgm_lo (by omega)
    exact .vec i ver off len sz a cap hn (by simpa [Ctx.perm, h1] using hle) (by simpa [Ctx.perm, Ctx.δ, h1] using h)
  | fn f xs ys us vs hl hl' _ _ ih ih' =>
    intro ht; simp only [AV.top] at ht
    exact .fn f xs ys us vs hl hl' (fun i c v hc hv => ih i c v hc hv (AV.tops_le (by omega) c (List.mem_of_getElem? hc)))
      (fun i c v hc hv => ih' i c v hc hv (AV.tops_le (by omega) c (List.mem_of_getElem? hc)))
  | ifc t x v _ ih => intro ht; simp only [AV.top] at ht; exact .ifc t x v (ih ht)
  | dead a n c => intro _; exact .dead a n c
  | mp i r hn h =>
    intro ht; simp only [AV.top] at ht
    have h1 : sgm k p i = i := sgm_lo (by omega)
    exact .mp i r hn (by simpa [Ctx.perm, h1] using h)

theorem VR.perm_ptr {Γ : Ctx} {n j ver off : Nat} {p : Nat → Nat} {v : Value} (h : VR Γ (.ptr (n + p j) ver off) v) (hn : n + j < Γ.n) : VR (Γ.perm n p) (.ptr (n + j) ver off) v := by
  have h1 : sgm n p (n + j) = n + p j := sgm_hi j
  cases h with
  | ptr _ _ _ a hn' hle h => exact .ptr _ _ _ a hn (by simpa [Ctx.perm, h1] using hle) (by simpa [Ctx.perm, Ctx.δ, h1] using h)

theorem BlkOK.perm {Γ : Ctx} {i j n : Nat} {p : Nat → Nat} {b : Blk} (h : BlkOK Γ i b) (ht : b.top ≤ n) (hs : sgm n p j = i) : BlkOK (Γ.perm n p) j b := by
  have hρ : (Γ.perm n p).ρ j = Γ.ρ i := by simp [Ctx.perm, hs]
  have hv : (Γ.perm n p).ver j = Γ.ver i := by simp [Ctx.perm, hs]
  have hb : (Γ.perm n p).bsz j = Γ.bsz i := by simp [Ctx.perm, hs]
  cases b with
  | row ver cs fz ex =>
    obtain ⟨h2, c, t, h3, h4, h5, h6, h7, h8⟩ := h
    have hd : (Γ.perm n p).δ j = Γ.δ i := by unfold Ctx.δ; rw [hb]
    refine ⟨hv.trans h2, c, t, by rw [hρ]; exact h3, by rw [hb]; exact h4, by rw [hd]; exact h5, by rw [hd]; exact h6, fun i x hx => ?_, fun o ho hI => h8 o (by rw [← hd]; exact ho) (by rw [← hρ]; exact hI)⟩
    rw [hd]
    obtain ⟨h9, v, h10, h11⟩ := h7 i x hx
    exact ⟨h9, v, h10, h11.perm (AV.tops_le ht x (List.mem_of_getElem? hx))⟩
  | map es =>
    obtain ⟨h2, c, t, h3, h4, h5, h6⟩ := h
    refine ⟨hv.trans h2, c, t, by rw [hρ]; exact h3, h4, fun i p hp => ?_, fun o hI => h6 o (by rw [← hρ]; exact hI)⟩
    obtain ⟨h7, x, h8, h9, h10⟩ := h5 i p hp
    exact ⟨h7, x, h8, h9.perm (by omega), h10.perm (by omega)⟩

/-- what a heap's block looks at lies in it -/
theorem Sim.tops {Γ : Ctx} {H : Heap} (s0 : Sim Γ H) : ∀ (i : Nat) (b : Blk), H[i]? = some b → b.top ≤ H.length := fun i b hb => by
  have hn0 := s0.n
  cases b with
  | map es => exact Nat.zero_le _
  | row ver cs fz ex =>
    obtain ⟨_, c, t, _, _, _, _, h7, _⟩ := s0.blk i _ hb
    simp only [Blk.top]
    refine AV.le_tops fun x hx => ?_
    obtain ⟨j, hj, rfl⟩ := List.getElem_of_mem hx
    obtain ⟨_, v, _, hv⟩ := h7 j _ (List.getElem?_eq_getElem hj)
    rw [← hn0]; exact hv.top_le

/-- the blocks behind those that were there change places: they are alike -/
theorem Good.perm {base bar k : Nat} {tc : List Nat} {Γ Δ : Ctx} {H : Heap} {B : Blk} {p : Nat → Nat} (s0 : Sim Γ H) (g : Good base bar tc Γ Δ H (H ++ List.replicate k B)) (hB : B.top = 0) (hp : ∀ j, j < k → p j < k) (hi : ∀ i j, i < k → j < k → p i = p j → i = j) : Good base bar tc Γ (Δ.perm H.length p) H (H ++ List.replicate k B) := by
  obtain ⟨s, e, wf, hb, ht, hl⟩ := g
  have hn := s.n
  have hn0 := s0.n
  have hlen : (H ++ List.replicate k B).length = H.length + k := by simp
  have hk : ∀ j, j < k → (H ++ List.replicate k B)[H.length + j]? = some B := fun j hj => by
    rw [List.getElem?_append_right (by omega), List.getElem?_replicate, if_pos (by omega)]
  have two : ∀ i, i < H.length + k → i < H.length ∨ ∃ j, j < k ∧ i = H.length + j := fun i hi => by
    by_cases h : i < H.length
    · exact .inl h
    · exact .inr ⟨i - H.length, by omega, by omega⟩
  have slo : ∀ i, i < H.length → sgm H.length p i = i := fun i h => sgm_lo h
  refine ⟨⟨hn, fun i b hbb => ?_, fun i j hi' hj' hij => ?_, s.imm, fun g x hx => ⟨(s.glob g x hx).1, (s.glob g x hx).2.perm (by simp only [AV.top]; rw [(s.glob g x hx).1]; exact Nat.zero_le _)⟩⟩,
    ⟨e.n, fun i hi => ?_, fun i hi h => ?_, fun i hi' => ?_, e.I, e.newI, e.frame, e.size, e.os, e.tape, e.output⟩, wf, hb, ht, hl⟩
  · have hil := (List.getElem?_eq_some_iff.1 hbb).1
    rw [hlen] at hil
    rcases two i hil with h | ⟨j, hj, rfl⟩
    · have hbb' := hbb
      rw [List.getElem?_append_left h] at hbb
      exact (s.blk i b hbb').perm (s0.tops i b hbb) (slo i h)
    · rw [hk j hj] at hbb
      simp only [Option.some.injEq] at hbb; subst hbb
      exact (s.blk _ _ (hk _ (hp j hj))).perm (by omega) (sgm_hi j)
  · have inj := s.inj
    simp only [Ctx.perm] at hij
    rw [hlen] at hi' hj' inj
    rcases two i hi' with h | ⟨i, h, rfl⟩ <;> rcases two j hj' with h' | ⟨j, h', rfl⟩
    · rw [slo i h, slo j h'] at hij
      exact inj _ _ hi' hj' hij
    · rw [slo i h, sgm_hi] at hij
      have := inj _ _ hi' (by have := hp j h'; omega) hij
      omega
    · rw [slo j h', sgm_hi] at hij
      have := inj _ _ (by have := hp i h; omega) hj' hij
      omega
    · rw [sgm_hi, sgm_hi] at hij
      have := inj _ _ (by have := hp i h; omega) (by have := hp j h'; omega) hij
      have := hi i j h h' (by omega)
      omega
  · have h1 := slo i (by omega)
    have := e.ver i hi
    simp only [Ctx.perm, h1]; exact this
  · have h1 := slo i (by omega)
    simp only [Ctx.perm, h1] at h ⊢
    exact e.same i hi h
  · simp only [Ctx.perm] at hi' ⊢
    rcases two i (by rw [← hlen, ← hn]; exact hi') with h | ⟨j, hj, rfl⟩
    · rw [slo i h]; exact e.ρ i hi'
    · rw [sgm_hi]
      rcases e.ρ (H.length + p j) (by have := hp j hj; omega) with ⟨h3, _⟩ | h3
      · omega
      · exact .inr h3

/-! ## the run in the order of the text -/
theorem frG_shift (S : Nat → Bool) : ∀ (l : List AOper) (m : Nat) (f : Frame) (vs : List AV), frG S (m + 1) f l vs = frG (fun j => S (j + 1)) m f l vs
  | [], m, f, vs => by simp [frG]
  | q :: s, m, f, [] => by simp [frG]
  | q :: s, m, f, w :: vs => by simp only [frG]; rw [frG_shift S s]

theorem frG_val {S : Nat → Bool} {t : Nat} {x : AV} : ∀ (l : List AOper) (vs : List AV) (m : Nat) (fr : Frame), fget t (frG S m fr l vs) = some x →
    fget t fr = some x ∨ ∃ i o, l[i]? = some o ∧ vs[i]? = some x ∧ S (m + i) = true ∧ o.dst = some t
  | [], vs, m, fr, h => .inl (by simpa [frG] using h)
  | o :: r, [], m, fr, h => .inl (by simpa [frG] using h)
  | o :: r, v :: vs, m, fr, h => by
    simp only [frG] at h
    rcases frG_val r vs (m + 1) _ h with h | ⟨i, p, h1, h2, h3, h4⟩
    · split at h
      · rename_i hS
        rw [fget_fput] at h
        split at h
        · rename_i hd
          exact .inr ⟨0, o, rfl, by simpa using h, by simpa using hS, hd⟩
        · exact .inl h
      · exact .inl h
    · exact .inr ⟨i + 1, p, by simpa using h1, by simpa using h2, by rw [← h3]; congr 1; omega, h4⟩

theorem frG_vals {S : Nat → Bool} {t : Nat} : ∀ (l : List AOper) (vs vs' : List AV) (m : Nat) (fr fr' : Frame), vs.length = vs'.length → fget t fr = fget t fr' →
    (∀ i o, l[i]? = some o → o.dst = some t → S (m + i) = true → vs[i]? = vs'[i]?) → fget t (frG S m fr l vs) = fget t (frG S m fr' l vs')
  | [], vs, vs', m, fr, fr', hl, h, _ => by simpa [frG] using h
  | o :: r, [], [], m, fr, fr', hl, h, _ => by simpa [frG] using h
  | o :: r, [], v' :: vs', m, fr, fr', hl, h, _ => by simp at hl
  | o :: r, v :: vs, [], m, fr, fr', hl, h, _ => by simp at hl
  | o :: r, v :: vs, v' :: vs', m, fr, fr', hl, h, hv => by
    simp only [frG]
    refine frG_vals r vs vs' (m + 1) _ _ (by simpa using hl) ?_ (fun i p hp hd hS => by
      have := hv (i + 1) p (by simpa using hp) hd (by rw [← hS]; congr 1; omega)
      simpa using this)
    cases hS : S m
    · simpa using h
    · simp only [if_true, fget_fput]
      by_cases hd : o.dst = some t
      · have := hv 0 o rfl hd (by simpa using hS)
        simp only [List.getElem?_cons_zero, Option.some.injEq] at this
        rw [if_pos hd, if_pos hd, this]
      · rw [if_neg hd, if_neg hd]; exact h

theorem runTwin_trace {env : Env} {ex : Ex} {base bar : Nat} {H0 : Heap} : ∀ (l : List (Nat × AOper)) (fr : Frame) (H : Heap) (st' : St), runTwin env ex base bar H0 l fr H = some st' →
    ∃ (vals : List AV) (hs : List Heap), vals.length = l.length ∧ hs[0]? = some H ∧ hs[l.length]? = some st'.H ∧ st'.fr = frG (fun _ => true) 0 fr (l.map (·.2)) vals ∧
      ∀ (i k : Nat) (o : AOper), l[i]? = some (k, o) → ∃ v Hi Hi' tc, vals[i]? = some v ∧ hs[i]? = some Hi ∧
        aopC env ex true base bar o.op (fkeep o.looks (frG (fun j => decide (j < i)) 0 fr (l.map (·.2)) vals)) (if k = 0 then H0 else Hi) = some (v, Hi', tc) ∧
        hs[i + 1]? = some (if k = 0 then Hi else Hi') ∧ (k = 0 → v.top ≤ H0.length ∧ tc.isEmpty = true ∧ Hi'.length = H0.length) ∧ (k = 3 → tc.all (fun i => Nat.ble H0.length i) = true)
  | [], fr, H, st', h => by
    simp [runTwin] at h; subst h
    exact ⟨[], [H], rfl, rfl, rfl, rfl, by simp⟩
  | (k, o) :: r, fr, H, st', h => by
    simp only [runTwin] at h
    split at h <;> try (cases h; done)
    rename_i v H' tc hop
    split at h <;> try (cases h; done)
    rename_i hc
    obtain ⟨vals, hs, e1, e2, e4, e5, e6⟩ := runTwin_trace r _ _ st' h
    refine ⟨v :: vals, H :: hs, by simp [e1], rfl, by simpa using e4, ?_, fun i k' p hi => ?_⟩
    · rw [e5]; simp only [List.map_cons, frG, if_true]; rw [frG_shift]
    · cases i with
      | zero =>
        simp only [List.getElem?_cons_zero, Option.some.injEq, Prod.mk.injEq] at hi
        obtain ⟨rfl, rfl⟩ := hi
        refine ⟨v, H, H', tc, rfl, rfl, ?_, by simpa using e2, fun hk => ?_, fun hk => ?_⟩
        · rw [frG_none (by simp)]; exact hop
        · exact Decidable.byContradiction fun hne => hc (.inl ⟨hk, hne⟩)
        · exact Decidable.byContradiction fun hne => hc (.inr ⟨hk, hne⟩)
      | succ i =>
        obtain ⟨w, Hi, Hi', tc', f1, f2, f4, f5, f7, f8⟩ := e6 i k' p (by simpa using hi)
        refine ⟨w, Hi, Hi', tc', by simpa using f1, by simpa using f2, ?_, by simpa using f5, f7, f8⟩
        have hf : frG (fun j => decide (j < i + 1)) 0 fr (((k, o) :: r).map (·.2)) (v :: vals) = frG (fun j => decide (j < i)) 0 (fput o.dst v fr) (r.map (·.2)) vals := by
          simp only [List.map_cons, frG, Nat.zero_lt_succ, decide_true, if_true]
          rw [frG_shift]
          simp only [Nat.add_lt_add_iff_right]
        rw [hf]; exact f4

theorem zeroOf_top {t : TypeId} {z : AV} (hz : zeroOf P t = some z) : z.top = 0 := by
  unfold zeroOf at hz
  split at hz <;> try (cases hz; done)
  split at hz <;> try (cases hz; done)
  split at hz <;> try (cases hz; done)
  rename_i x hx
  split at hz <;> try (cases hz; done)
  simp only [Option.some.injEq] at hz; subst hz
  have flat : ∀ (vs : List Value) (xs : List AV), ofV.flats vs = some xs → AV.top.tops xs = 0 := by
    intro vs
    induction vs with
    | nil => intro xs h; simp [ofV.flats] at h; subst h; rfl
    | cons v vs ih =>
      intro xs h
      simp only [ofV.flats] at h
      split at h
      · rename_i a as ha has
        simp only [Option.some.injEq] at h; subst h
        simp only [AV.top.tops, ih _ has, Nat.max_zero]
        unfold ofV.flat1 at ha
        split at ha <;> first | (cases ha; done) | (simp only [Option.some.injEq] at ha; subst ha; rfl)
      · cases h
  unfold ofV at hx
  split at hx <;> first
    | (simp only [Option.some.injEq] at hx; subst hx; rfl)
    | skip
  · obtain ⟨a, ha, rfl⟩ := Option.map_eq_some_iff.1 hx
    exact flat _ _ ha
  · split at hx
    · simp only [Option.some.injEq] at hx; subst hx; rfl
    · cases hx
  · cases hx

/-! ## a run that sees the first blocks alone -/
def Ctx.wide (Γ Δ : Ctx) (k : Nat) : Ctx :=
  { Δ with
    n := Γ.n
    ρ := fun i => if i < k then Δ.ρ i else Γ.ρ i
    ver := fun i => if i < k then Δ.ver i else Γ.ver i
    bsz := fun i => if i < k then Δ.bsz i else Γ.bsz i }

theorem VR.wide {Γ Δ : Ctx} {k : Nat} (hk : k ≤ Γ.n) (hn : Δ.n = k) {x : AV} {v : Value} (h : VR Δ x v) : VR (Γ.wide Δ k) x v := by
  induction h with
  | int k n => exact .int k n
  | bool b => exact .bool b
  | str s => exact .str s
  | nilp => exact .nilp
  | nils => exact .nils
  | nilm => exact .nilm
  | nilf => exact .nilf
  | nili => exact .nili
  | agg cs vs hl h1 _ ih => exact .agg cs vs hl h1 fun i c v hc hv => ih i c v hc hv
  | tup cs vs hl _ ih => exact .tup cs vs hl fun i c v hc hv => ih i c v hc hv
  | emp sz ex a cap hex => exact .emp sz ex a cap hex
  | lst sz ex xs b o cap f hlc hex hsz hcell _ ih => exact .lst sz ex xs b o cap f hlc hex hsz hcell fun i x j c hx hc => ih i x j c hx hc
  | fp x b o f h1 hcell _ ih => exact .fp x b o f h1 hcell fun j c hc => ih j c hc
  | ptr i ver off a hni hle h =>
    have h1 : i < k := by omega
    exact .ptr i ver off a (Nat.lt_of_lt_of_le h1 hk) (by simpa [Ctx.wide, h1] using hle) (by simpa [Ctx.wide, Ctx.δ, h1] using h)
  | vec i ver off len sz a cap hni hle h =>
    have h1 : i < k := by omega
    exact .vec i ver off len sz a cap (Nat.lt_of_lt_of_le h1 hk) (by simpa [Ctx.wide, h1] using hle) (by simpa [Ctx.wide, Ctx.δ, h1] using h)
  | fn f xs ys us vs hl hl' _ _ ih ih' => exact .fn f xs ys us vs hl hl' (fun i c v hc hv => ih i c v hc hv) (fun i c v hc hv => ih' i c v hc hv)
  | ifc t x v _ ih => exact .ifc t x v ih
  | dead a n c => exact .dead a n c
  | mp i r hni h =>
    have h1 : i < k := by omega
    exact .mp i r (Nat.lt_of_lt_of_le h1 hk) (by simpa [Ctx.wide, h1] using h)

theorem BlkOK.wide {Γ Δ : Ctx} {i k : Nat} {b : Blk} (hk : k ≤ Γ.n) (hn : Δ.n = k) (hi : i < k) (h : BlkOK Δ i b) : BlkOK (Γ.wide Δ k) i b := by
  have hρ : (Γ.wide Δ k).ρ i = Δ.ρ i := by simp [Ctx.wide, hi]
  have hv : (Γ.wide Δ k).ver i = Δ.ver i := by simp [Ctx.wide, hi]
  have hb : (Γ.wide Δ k).bsz i = Δ.bsz i := by simp [Ctx.wide, hi]
  have hd : (Γ.wide Δ k).δ i = Δ.δ i := by unfold Ctx.δ; rw [hb]
  cases b with
  | row ver cs fz ex =>
    obtain ⟨h2, c, t, h3, h4, h5, h6, h7, h8⟩ := h
    refine ⟨hv.trans h2, c, t, by rw [hρ]; exact h3, by rw [hb]; exact h4, by rw [hd]; exact h5, by rw [hd]; exact h6, fun i x hx => ?_, fun o ho hI => h8 o (by rw [← hd]; exact ho) (by rw [← hρ]; exact hI)⟩
    rw [hd]
    obtain ⟨h9, v, h10, h11⟩ := h7 i x hx
    exact ⟨h9, v, h10, h11.wide hk hn⟩
  | map es =>
    obtain ⟨h2, c, t, h3, h4, h5, h6⟩ := h
    refine ⟨hv.trans h2, c, t, by rw [hρ]; exact h3, h4, fun i p hp => ?_, fun o hI => h6 o (by rw [← hρ]; exact hI)⟩
    obtain ⟨h7, x, h8, h9, h10⟩ := h5 i p hp
    exact ⟨h7, x, h8, h9.wide hk hn, h10.wide hk hn⟩

theorem Sim.low {Γ : Ctx} {H X : Heap} (s : Sim Γ (H ++ X)) (ht : ∀ (i : Nat) (b : Blk), H[i]? = some b → b.top ≤ H.length) : Sim (Γ.cut H.length) H := by
  refine ⟨rfl, fun i b hb => ?_, fun i j hi hj hij => s.inj i j (by simp; omega) (by simp; omega) hij, s.imm, s.glob.cut⟩
  exact (s.blk i b (by rw [List.getElem?_append_left (List.getElem?_eq_some_iff.1 hb).1]; exact hb)).cut (ht i b hb)

theorem BlkOK.in {Γ : Ctx} {i : Nat} {b : Blk} (h : BlkOK Γ i b) : Γ.ρ i < Γ.w.heap.size ∧ (∀ o, Γ.I (Γ.ρ i) o → True) := by
  refine ⟨?_, fun _ _ => trivial⟩
  cases b with
  | row ver cs fz ex =>
    obtain ⟨h2, c, t, h3, _⟩ := h
    exact (Array.getElem?_eq_some_iff.1 h3).1
  | map es =>
    obtain ⟨h2, c, t, h3, _⟩ := h
    exact (Array.getElem?_eq_some_iff.1 h3).1

/-- what was not seen is as it was -/
theorem Good.wide {base bar : Nat} {Γ Δ : Ctx} {H H' X : Heap} (s : Sim Γ (H ++ X)) (g : Good base bar [] (Γ.cut H.length) Δ H H') (hl : H'.length = H.length) : Good base bar [] Γ (Γ.wide Δ H.length) (H ++ X) (H ++ X) := by
  have hHH : H' = H := List.ext_getElem? fun i => by
    by_cases hi : i < H.length
    · exact g.tc i hi (by simp)
    · rw [List.getElem?_eq_none (by omega), List.getElem?_eq_none (by omega)]
  subst hHH
  obtain ⟨s2, e, wf, hb, ht, _⟩ := g
  have n2 : Δ.n = H'.length := s2.n
  have nΓ : Γ.n = H'.length + X.length := by rw [s.n]; simp
  have hk : H'.length ≤ Γ.n := by omega
  have hn0 : (Γ.cut H'.length).n = H'.length := rfl
  have hev : Evo Γ (Γ.wide Δ H'.length) := by
    refine ⟨Nat.le_refl _, fun i hi => ?_, fun i hi h => ?_, fun i hi => ?_, e.I, fun b o h => ?_, fun b hb hne => ?_, e.size, e.os, e.tape, e.output⟩
    · by_cases h : i < H'.length
      · have := e.ver i h
        simpa [Ctx.wide, h, Ctx.cut] using this
      · simp [Ctx.wide, h]
    · by_cases h1 : i < H'.length
      · simp only [Ctx.wide, h1, if_true] at h ⊢
        exact e.same i h1 h
      · simp [Ctx.wide, h1]
    · by_cases h1 : i < H'.length
      · simp only [Ctx.wide, h1, if_true]
        rcases e.ρ i (by omega) with ⟨_, h2⟩ | h2
        · exact .inl ⟨hi, h2⟩
        · exact .inr h2
      · simp only [Ctx.wide, h1, if_false]
        exact .inl ⟨hi, trivial⟩
    · rcases e.newI b o h with h | h | ⟨i, hi, h⟩
      · exact .inl h
      · exact .inr (.inl h)
      · exact .inr (.inr ⟨i, Nat.lt_of_lt_of_le hi hk, h⟩)
    · exact e.frame b hb fun i hi => hne i (Nat.lt_of_lt_of_le hi hk)
  refine ⟨⟨s.n, fun i b hbb => ?_, fun i j hi hj hij => ?_, s2.imm, fun gl x hx => ⟨(s2.glob gl x hx).1, (s2.glob gl x hx).2.wide hk n2⟩⟩, hev, fun _ _ h => h, fun _ _ => rfl, fun _ _ _ => rfl, Nat.le_refl _⟩
  · by_cases h1 : i < H'.length
    · exact (s2.blk i b (by rwa [List.getElem?_append_left h1] at hbb)).wide hk n2 h1
    · have hB := s.blk i b hbb
      have hin := hB.in.1
      have hil := (List.getElem?_eq_some_iff.1 hbb).1
      have hρ : (Γ.wide Δ H'.length).ρ i = Γ.ρ i := by simp [Ctx.wide, h1]
      have hfar : ∀ j, j < H'.length → Γ.ρ j ≠ Γ.ρ i := fun j hj h => by
        have := s.inj j i (by simp; omega) hil h
        omega
      refine hB.mono hev (by simp [Ctx.wide, h1]) (by simp [Ctx.wide, h1]) ?_ fun o h => ?_
      · rw [hρ]; exact e.frame _ hin hfar
      · rw [hρ] at h
        rcases e.newI _ o h with h | h | ⟨j, hj, h⟩
        · exact h
        · exact absurd hin (Nat.not_lt.2 h)
        · exact absurd h (hfar j hj)
  · have mixed : ∀ i j, i < H'.length → ¬ j < H'.length → j < (H' ++ X).length → Δ.ρ i ≠ Γ.ρ j := fun i j hi hj hjl h => by
      have hbj : (H' ++ X)[j]? = some ((H' ++ X)[j]) := List.getElem?_eq_getElem hjl
      have hin := (s.blk j _ hbj).in.1
      rcases e.ρ i (by omega) with ⟨_, h2⟩ | h2
      · have := s.inj i j (by simp; omega) hjl (h2.symm.trans h)
        omega
      · rw [h] at h2
        exact absurd hin (Nat.not_lt.2 h2)
    by_cases h1 : i < H'.length <;> by_cases h2 : j < H'.length
    · simp only [Ctx.wide, h1, h2, if_true] at hij
      exact s2.inj i j h1 h2 hij
    · simp only [Ctx.wide, h1, h2, if_true, if_false] at hij
      exact absurd hij (mixed i j h1 h2 hj)
    · simp only [Ctx.wide, h1, h2, if_true, if_false] at hij
      exact absurd hij.symm (mixed j i h2 h1 hi)
    · simp only [Ctx.wide, h1, h2, if_false] at hij
      exact s.inj i j hi hj hij

theorem twin_nocall {env : Env} {ex : Ex} {k base bar : Nat} {op : AOp} (hk : k ≠ 0) (h : twinFits k op = true) (fr : Frame) (H : Heap) : aopC env ex true base bar op fr H = aop base bar op fr H := by
  cases op <;> first | rfl | (exfalso; unfold twinFits at h; split at h <;> simp_all [heapFree])

theorem fits_bad {k : Nat} : twinFits k .bad = false := by
  unfold twinFits
  split <;> first | rfl | (rename_i h; cases h) | simp_all [heapFree]

theorem alloc_run {base bar : Nat} {z : AV} {fr : Frame} {H H' : Heap} {v : AV} {tc : List Nat} (h : aop base bar (.alloc z) fr H = some (v, H', tc)) :
    v = .ptr H.length 0 0 ∧ H' = H ++ [.row 0 z.cells 0 true] ∧ ∀ H2 : Heap, aop base bar (.alloc z) fr H2 = some (.ptr H2.length 0 0, H2 ++ [.row 0 z.cells 0 true], []) := by
  simp only [aop] at h ⊢
  split at h <;> try (cases h; done)
  rename_i hz
  simp only [Option.some.injEq, Prod.mk.injEq] at h
  obtain ⟨rfl, rfl, rfl⟩ := h
  exact ⟨rfl, rfl, fun H2 => by rw [if_neg hz]⟩

theorem astore_run {base bar size id : Nat} {H H' : Heap} {p v : AV} (h : astore base bar H size p v = some (H', id)) : H'.length = H.length ∧ ∀ i, i ≠ id → H'[i]? = H[i]? := by
  cases p with
  | ptr id0 ver off =>
    simp only [astore] at h
    split at h
    · rename_i ver' cs fz ex hrow
      by_cases hc : ver' = ver ∧ v.cells.length = size ∧ fz ≤ off ∧ off + size ≤ cs.length ∧ bar ≤ id0 ∧ (base ≤ id0 ∨ AV.top.tops v.cells ≤ id0 + 1)
      · rw [if_pos hc] at h
        simp only [Option.some.injEq, Prod.mk.injEq] at h
        obtain ⟨rfl, rfl⟩ := h
        exact ⟨by simp, fun i hi => List.getElem?_set_ne (fun e => hi e.symm)⟩
      · rw [if_neg hc] at h; cases h
    · cases h
  | _ => simp [astore] at h
theorem store_run {base bar size : Nat} {p x : Opd} {fr : Frame} {H H' : Heap} {v : AV} {tc : List Nat} (h : aop base bar (.store size p x) fr H = some (v, H', tc)) : H'.length = H.length ∧ ∀ i, i ∉ tc → H'[i]? = H[i]? := by
  simp only [aop] at h
  split at h <;> try (cases h; done)
  split at h <;> try (cases h; done)
  split at h <;> try (cases h; done)
  rename_i H2 id hst
  simp only [Option.some.injEq, Prod.mk.injEq] at h
  obtain ⟨_, rfl, rfl⟩ := h
  obtain ⟨h1, h2⟩ := astore_run hst
  exact ⟨h1, fun i hi => h2 i (fun e => hi (by simp [e]))⟩

/-! ## any order -/
theorem frG_rel {S : Nat → Bool} {t : Nat} {R : AV → AV → Prop} : ∀ (l : List AOper) (vs vs' : List AV) (m : Nat) (fr fr' : Frame), vs.length = vs'.length → (∀ x, fget t fr = some x → ∃ x', fget t fr' = some x' ∧ R x x') →
    (∀ i x o, vs[i]? = some x → l[i]? = some o → S (m + i) = true → ∃ x', vs'[i]? = some x' ∧ R x x') → ∀ x, fget t (frG S m fr l vs) = some x → ∃ x', fget t (frG S m fr' l vs') = some x' ∧ R x x'
  | [], vs, vs', m, fr, fr', hl, h, _, x, hx => by simp only [frG] at hx ⊢; exact h x hx
  | o :: r, [], [], m, fr, fr', hl, h, _, x, hx => by simp only [frG] at hx ⊢; exact h x hx
  | o :: r, [], v' :: vs', m, fr, fr', hl, h, _, x, hx => by simp at hl
  | o :: r, v :: vs, [], m, fr, fr', hl, h, _, x, hx => by simp at hl
  | o :: r, v :: vs, v' :: vs', m, fr, fr', hl, h, hv, x, hx => by
    simp only [frG] at hx ⊢
    refine frG_rel r vs vs' (m + 1) _ _ (by simpa using hl) (fun y hy => ?_) (fun i y p hy hp hS => by
      have := hv (i + 1) y p (by simpa using hy) (by simpa using hp) (by rw [← hS]; congr 1; omega)
      simpa using this) x hx
    cases hS : S m
    · rw [hS] at hy
      simp only [Bool.false_eq_true, if_false] at hy ⊢
      exact h y hy
    · rw [hS] at hy
      simp only [if_true, fget_fput] at hy ⊢
      by_cases hd : o.dst = some t
      · rw [if_pos hd] at hy ⊢
        simp only [Option.some.injEq] at hy; subst hy
        obtain ⟨x', h1, h2⟩ := hv 0 v o rfl rfl (by simpa using hS)
        simp only [List.getElem?_cons_zero, Option.some.injEq] at h1; subst h1
        exact ⟨_, rfl, h2⟩
      · rw [if_neg hd] at hy ⊢
        exact h y hy

def permVals (e s L : Nat) (p : Nat → Nat) (vals : List AV) : List AV := vals.mapIdx fun i v => if e ≤ i ∧ i < s then .ptr (L + p (i - e)) 0 0 else v
theorem permVals_len {e s L : Nat} {p : Nat → Nat} {vals : List AV} : (permVals e s L p vals).length = vals.length := by simp [permVals]
theorem permVals_in {e s L j : Nat} {p : Nat → Nat} {vals : List AV} (h : e + j < s) (hv : e + j < vals.length) : (permVals e s L p vals)[e + j]? = some (.ptr (L + p j) 0 0) := by
  simp only [permVals, List.getElem?_mapIdx, List.getElem?_eq_getElem hv, Option.map_some]
  rw [if_pos ⟨by omega, h⟩]; congr 3; simp
theorem permVals_out {e s L i : Nat} {p : Nat → Nat} {vals : List AV} (h : ¬ (e ≤ i ∧ i < s)) : (permVals e s L p vals)[i]? = vals[i]? := by
  simp only [permVals, List.getElem?_mapIdx, if_neg h, Option.map_id']
theorem permVals_id {e s L : Nat} {vals : List AV} (h : ∀ j, e + j < s → vals[e + j]? = some (.ptr (L + j) 0 0)) : permVals e s L id vals = vals := by
  refine List.ext_getElem? fun i => ?_
  by_cases hi : e ≤ i ∧ i < s
  · have he : i = e + (i - e) := by omega
    have := h (i - e) (by omega)
    rw [he, this, permVals_in (by omega) (List.getElem?_eq_some_iff.1 this).1]; rfl
  · rw [permVals_out hi]

theorem cnt_ins {k j : Nat} {S S' : Nat → Bool} (h0 : S j = false) (h1 : S' j = true) (hS : ∀ i, i ≠ j → S' i = S i) (hj : j < k) : cnt k S' = cnt k S + 1 := by
  have := cnt_insert (fun _ => true) j h0 h1 hS k hj
  simpa using this
theorem cnt_bound (k : Nat) (S : Nat → Bool) : cnt k S ≤ k := by
  have := List.countP_le_length (p := S) (l := List.range k)
  simpa [cnt] using this
theorem cnt_full {k : Nat} {S : Nat → Bool} (h : cnt k S = k) : ∀ j, j < k → S j = true := fun j hj => by
  cases hl : S j with
  | true => rfl
  | false =>
    have h1 := cnt_ins (S := S) (S' := fun i => if i = j then true else S i) hl (by simp) (fun i hi => by simp [hi]) hj
    have := cnt_bound k (fun i => if i = j then true else S i)
    omega
theorem cnt_all {k : Nat} {S : Nat → Bool} (h : ∀ j, j < k → S j = true) : cnt k S = k := by
  have : cnt k S = cnt k (fun _ => true) := cnt_congr h
  rw [this]; simp [cnt]

def TStage (hs : List Heap) (e s k : Nat) (B : Blk) (H0 : Heap) (listed : Array Bool) (p : Nat → Nat) (X : Heap) : Prop :=
  (∃ c, c = cnt k (fun j => listed.getD (e + j) false) ∧ c < k ∧ X = List.replicate c B ∧ (∀ j, j < k → listed.getD (e + j) false = true → p j < c) ∧
      ∀ i j, i < k → j < k → listed.getD (e + i) false = true → listed.getD (e + j) false = true → p i = p j → i = j) ∨
  ((∀ j, j < k → listed.getD (e + j) false = true) ∧ p = id ∧ ∃ m, m ≤ k ∧ hs[s + m]? = some (H0 ++ X) ∧ ∀ j, j < k → (listed.getD (s + j) false = true ↔ j < m))

structure TInv (nt base bar : Nat) (ops : Array Oper) (ls : List AOper) (fr0 : Frame) (vals : List AV) (hs : List Heap) (e s k : Nat) (B : Blk) (Γ : Ctx) (H0 : Heap) (listed : Array Bool) (a : Act) (Γc : Ctx) (p : Nat → Nat) (X : Heap) : Prop where
  size : listed.size = ops.size
  closed : ∀ i o, listed.getD i false = true → ops[i]? = some o → ∀ e ∈ o.after.toList, Region.binds .any e = true → listed.getD e.on false = true
  good : Good base bar (List.range H0.length) Γ Γc H0 (H0 ++ X)
  fits : Fits nt Γc (frG (fun i => listed.getD i false) 0 fr0 ls (permVals e s H0.length p vals)) a
  stage : TStage hs e s k B H0 listed p X

set_option maxHeartbeats 200000 in
theorem runTwin_sound {env : Env} {ex : Ex} (HF : FunsOK P env) (HK : KnownOK P env) (HE : ExOK P ex) (hmix : P.follows .mixedOrders = true) {nt base bar id : Nat} {ops : Array Oper} {l : List AOper} {l' : List (Nat × AOper)} (hl : cOpers P nt ops ops.toList = some l)
    (hct : cTwin ops l = some l') {st st' : St} (h : runTwin env ex base bar st.H l' st.fr st.H = some st') {Γ : Ctx} {a : Act} (F : Fits nt Γ st.fr a) (s : Sim Γ st.H) (hbase : base ≤ st.H.length) (hbar : bar ≤ base) {Q : Exit → Act → World → Prop}
    (hQ : ∀ (Δ : Ctx) (a' : Act), Fits nt Δ st'.fr a' → Good base bar (List.range st.H.length) Γ Δ st.H st'.H → Q .normal a' Δ.w) : (Code.region id ops true).wp P Q a Γ.w := by
  obtain ⟨hlen0, hget⟩ := cOpers_get hl
  have hlen : l.length = ops.size := by simpa using hlen0
  obtain ⟨k, hk0⟩ : ∃ k, k = storesAt ops.toList.reverse := ⟨_, rfl⟩
  unfold cTwin at hct
  simp only [← hk0] at hct
  split at hct <;> try (cases hct; done)
  rename_i t ht0
  split at hct <;> try (cases hct; done)
  rename_i hok
  simp only [Option.some.injEq] at hct
  generalize hB : befs ops.toList [] = B at hct hok
  simp only [twinOK, Bool.and_eq_true] at hok
  obtain ⟨⟨⟨⟨⟨hkp, h2k⟩, hfine⟩, hallocs⟩, hstores⟩, htags⟩ := hok
  have h2k := Nat.le_of_ble_eq_true h2k
  have hkp : 0 < k := by simpa using hkp
  obtain ⟨e, he⟩ : ∃ e, e = ops.size - 2 * k := ⟨_, rfl⟩
  obtain ⟨ss, hss⟩ : ∃ ss, ss = ops.size - k := ⟨_, rfl⟩
  have hsse : ss = e + k := by omega
  have hns : ops.size = ss + k := by omega
  rw [← he] at hallocs htags ht0
  rw [← hss] at hallocs hstores
  have hal : ∀ j, j < k → allocOf (ops.getD (e + j) default).op = some t ∧ ∀ j', j' < k → isBef B (e + j) (ss + j') = true := fun j hj => by
    have := List.all_eq_true.1 hallocs j (List.mem_range.2 hj)
    simp only [Bool.and_eq_true] at this
    refine ⟨?_, fun j' hj' => List.all_eq_true.1 this.2 j' (List.mem_range.2 hj')⟩
    have h2 := this.1
    exact of_decide_eq_true (by simpa using h2)
  have hst : ∀ j, j < k → ∀ j', j' < j → isBef B (ss + j') (ss + j) = true := fun j hj j' hj' =>
    List.all_eq_true.1 (List.all_eq_true.1 hstores j (List.mem_range.2 hj)) j' (List.mem_range.2 hj')
  clear hallocs hstores
  have hl'len : l'.length = ops.size := by rw [← hct]; simp [hlen]
  have htag : ∀ i, i < ops.size → ∃ o, l[i]? = some o ∧ twinFits (twinTag ops.size k i) o.op = true ∧ o.guard = none ∧ (twinTag ops.size k i ≠ 3 → ∀ j, j < k → blindTo ops i (e + j) = true) ∧ (twinTag ops.size k i = 3 → (ops.getD i default).dst = none) := fun i hi => by
    have := List.all_eq_true.1 htags i (by rw [List.mem_range, hlen]; exact hi)
    split at this
    · rename_i o ho
      simp only [Bool.and_eq_true, Option.isNone_iff_eq_none, Bool.or_eq_true, bne_iff_ne, beq_iff_eq, ne_eq] at this
      obtain ⟨⟨⟨p1, p2⟩, p3⟩, p4⟩ := this
      exact ⟨o, ho, p1, p2, fun h j hj => List.all_eq_true.1 (p3.resolve_left h) j (List.mem_range.2 hj), fun h => p4.resolve_left (fun e => e h)⟩
    · cases this
  have hl'get : ∀ i o, ops[i]? = some o → ∃ c, l'[i]? = some (twinTag ops.size k i, c) ∧ c.dst = o.dst ∧ c.op = (cOp P o.op).getD .bad ∧ cGuard ops o.guard = some none ∧ o.dst.all (fun d => Nat.blt d nt) = true ∧ c.looks = Oper.looksAt ops o ∧ twinFits (twinTag ops.size k i) c.op = true ∧ (twinTag ops.size k i = 3 → o.dst = none) ∧
      (twinTag ops.size k i ≠ 3 → ∀ j oj d, j < k → ops[e + j]? = some oj → oj.dst = some d → d ∉ c.looks) := fun i o ho => by
    have hi : i < ops.size := (Array.getElem?_eq_some_iff.1 ho).1
    obtain ⟨g, h1, h2, h3⟩ := hget i o (by simpa using ho)
    obtain ⟨c, t2, t3, t4, t5, t6⟩ := htag i hi
    rw [h1] at t2
    simp only [Option.some.injEq] at t2; subst t2
    simp only at t3 t4; subst t4
    have hgo : ops.getD i default = o := by simp [Array.getD_eq_getD_getElem?, ho]
    refine ⟨{ dst := o.dst, op := (cOp P o.op).getD .bad, guard := none, looks := Oper.looksAt ops (ops.getD i default) }, ?_, rfl, rfl, h2, h3, by simp only [hgo], t3, fun h => by have := t6 h; rwa [hgo] at this, fun h j oj d hj hoj hd => ?_⟩
    · rw [← hct, List.getElem?_map, List.getElem?_zipIdx, h1]; simp
    · have hb : blindTo ops i (e + j) = true := t5 h j hj
      unfold blindTo at hb
      rw [show (ops.getD (e + j) default).dst = some d by simp [Array.getD_eq_getD_getElem?, hoj, hd]] at hb
      simpa using hb
  -- edges and pairs
  have hf := List.all_eq_true.1 hfine
  have hedge : ∀ i o, ops[i]? = some o → ∀ e ∈ o.after.toList, Region.binds .any e = true → e.on < i := fun i o ho e he hb => by
    have hi : i < ops.size := (Array.getElem?_eq_some_iff.1 ho).1
    have := hf i (by rw [List.mem_range, hlen]; exact hi)
    simp only [Bool.and_eq_true] at this
    have h2 := List.all_eq_true.1 this.1 e (by simpa [Array.getD_eq_getD_getElem?, ho] using he)
    simpa [hb] using h2
  have hpair : ∀ i j, j < i → i < ops.size → isBef B j i = true ∨ ∀ oi oj, ops[i]? = some oi → ops[j]? = some oj → Oper.apart ops oj oi = true := fun i j hji hi => by
    have := hf i (by rw [List.mem_range, hlen]; exact hi)
    simp only [Bool.and_eq_true] at this
    have h2 := List.all_eq_true.1 this.2 j (by simpa using hji)
    simp only [Bool.or_eq_true, Bool.and_eq_true] at h2
    rcases h2 with h2 | ⟨_, h3⟩
    · exact .inl h2
    · exact .inr fun oi oj hoi hoj => by simpa [Array.getD_eq_getD_getElem?, hoi, hoj] using h3
  have hbeflt : ∀ i j o, ops[i]? = some o → isBef B j i = true → j < i := fun i => by
    induction i using Nat.strongRecOn with
    | _ i ih =>
      intro j o ho hb
      rw [← hB] at hb
      obtain ⟨e, he, hbd, hor⟩ := (isBef_iff ho (hedge i o ho)).1 hb
      have hlt := hedge i o ho e he hbd
      have hi : i < ops.size := (Array.getElem?_eq_some_iff.1 ho).1
      rcases hor with rfl | hor
      · exact hlt
      · have hoe : ops[e.on]? = some (ops[e.on]'(by omega)) := Array.getElem?_eq_getElem _
        have := ih e.on hlt j _ hoe (by rw [← hB]; exact hor)
        omega
  have hbef : ∀ {listed : Array Bool}, (∀ i o, listed.getD i false = true → ops[i]? = some o → ∀ e ∈ o.after.toList, Region.binds .any e = true → listed.getD e.on false = true) →
      ∀ i j o, ops[i]? = some o → (∀ e ∈ o.after.toList, Region.binds .any e = true → listed.getD e.on false = true) → isBef B j i = true → listed.getD j false = true := fun {listed} hc i => by
    induction i using Nat.strongRecOn with
    | _ i ih =>
      intro j o ho hall hb
      rw [← hB] at hb
      obtain ⟨e, he, hbd, hor⟩ := (isBef_iff ho (hedge i o ho)).1 hb
      have hon := hall e he hbd
      rcases hor with rfl | hor
      · exact hon
      · have hlt := hedge i o ho e he hbd
        have hi : i < ops.size := (Array.getElem?_eq_some_iff.1 ho).1
        have hoe : ops[e.on]? = some (ops[e.on]'(by omega)) := Array.getElem?_eq_getElem _
        exact ih e.on hlt j _ hoe (hc e.on _ hon hoe) (by rw [← hB]; exact hor)
  -- the blocks
  have tag0 : ∀ i, i < e → twinTag ops.size k i = 0 := fun i hi => by
    unfold twinTag
    rw [if_pos (by simp only [Nat.blt_eq]; omega)]
  have tag1 : ∀ j, j < k → twinTag ops.size k (e + j) = 1 := fun j hj => by
    unfold twinTag
    rw [if_neg (by simp only [Nat.blt_eq]; omega), if_pos (by simp only [Nat.blt_eq]; omega)]
  have tag3 : ∀ j, j < k → twinTag ops.size k (ss + j) = 3 := fun j hj => by
    unfold twinTag
    rw [if_neg (by simp only [Nat.blt_eq]; omega), if_neg (by simp only [Nat.blt_eq]; omega)]
  have three : ∀ i, i < ops.size → i < e ∨ (∃ j, j < k ∧ i = e + j) ∨ ∃ j, j < k ∧ i = ss + j := fun i hi => by
    by_cases h1 : i < e
    · exact .inl h1
    · by_cases h2 : i < ss
      · exact .inr (.inl ⟨i - e, by omega, by omega⟩)
      · exact .inr (.inr ⟨i - ss, by omega, by omega⟩)
  have hopA : ∀ j, j < k → ∀ o, ops[e + j]? = some o → o.op = .alloc t := fun j hj o ho => by
    have key : ∀ (op : Op) t, allocOf op = some t → op = .alloc t := fun op t h => by
      unfold allocOf at h
      split at h
      · simp only [Option.some.injEq] at h; subst h; rfl
      · cases h
    have := (hal j hj).1
    rw [show ops.getD (e + j) default = o by simp [Array.getD_eq_getD_getElem?, ho]] at this
    exact key _ _ this
  obtain ⟨z, hz, hz0⟩ : ∃ z, zeroOf P t = some z ∧ z.top = 0 := by
    have ho : ops[e + 0]? = some (ops[e + 0]'(by omega)) := Array.getElem?_eq_getElem _
    obtain ⟨c, q1, q3, q4, q5, q6, q7, q8, _, _⟩ := hl'get _ _ ho
    rw [tag1 0 hkp] at q8
    rw [hopA 0 hkp _ ho] at q4
    simp only [cOp] at q4
    cases hc : zeroOf P t with
    | none => rw [hc] at q4; simp at q4; rw [q4] at q8; cases q8
    | some z => exact ⟨z, rfl, zeroOf_top hc⟩
  have hcA : ∀ j, j < k → ∀ c n, l'[e + j]? = some (n, c) → c.op = .alloc z := fun j hj c n hc => by
    have ho : ops[e + j]? = some (ops[e + j]'(by omega)) := Array.getElem?_eq_getElem _
    obtain ⟨c', q1, q3, q4, q5, q6, q7, q8, _, _⟩ := hl'get _ _ ho
    rw [hc] at q1
    simp only [Option.some.injEq, Prod.mk.injEq] at q1
    rw [q1.2, q4, hopA j hj _ ho]
    simp only [cOp, hz, Option.map_some, Option.getD_some]
  -- the run in the order of the text
  obtain ⟨vals, hs, t1, t2, t4, t5, t6⟩ := runTwin_trace l' st.fr st.H st' h
  obtain ⟨ls, hls⟩ : ∃ ls, ls = l'.map (·.2) := ⟨_, rfl⟩
  rw [← hls] at t5 t6
  have before : ∀ i, i ≤ e → hs[i]? = some st.H := fun i => by
    induction i with
    | zero => intro _; exact t2
    | succ i ih =>
      intro hi
      have hio : ops[i]? = some (ops[i]'(by omega)) := Array.getElem?_eq_getElem _
      obtain ⟨c, a1, _⟩ := hl'get i _ hio
      obtain ⟨v, Hi, Hi', tc, b1, b2, b4, b5, _⟩ := t6 i _ c a1
      rw [ih (by omega)] at b2
      simp only [Option.some.injEq] at b2; subst b2
      rw [b5, if_pos (tag0 i (by omega))]
  obtain ⟨BB, hBB⟩ : ∃ BB : Blk, BB = .row 0 z.cells 0 true := ⟨_, rfl⟩
  have hBtop : BB.top = 0 := by
    rw [hBB]
    exact Nat.eq_zero_of_le_zero (AV.le_tops fun c hc => AV.cells_top (Nat.le_of_eq hz0) c hc)
  have made : ∀ j, j ≤ k → hs[e + j]? = some (st.H ++ List.replicate j BB) ∧ ∀ j', j' < j → vals[e + j']? = some (.ptr (st.H.length + j') 0 0) := fun j => by
    induction j with
    | zero => intro _; exact ⟨by simpa using before e (Nat.le_refl _), fun j' h => absurd h (Nat.not_lt_zero _)⟩
    | succ j ih =>
      intro hj
      obtain ⟨i1, i2⟩ := ih (by omega)
      have hio : ops[e + j]? = some (ops[e + j]'(by omega)) := Array.getElem?_eq_getElem _
      obtain ⟨c, a1, _, _, _, _, _, a8, _⟩ := hl'get _ _ hio
      rw [tag1 j (by omega)] at a1 a8
      obtain ⟨v, Hi, Hi', tc, b1, b2, b4, b5, _⟩ := t6 _ _ c a1
      rw [i1] at b2
      simp only [Option.some.injEq] at b2; subst b2
      rw [if_neg (by decide)] at b4 b5
      rw [twin_nocall (by decide) a8, hcA j (by omega) c _ a1] at b4
      obtain ⟨hv, hH, _⟩ := alloc_run b4
      rw [← hBB] at hH
      refine ⟨by rw [show e + (j + 1) = e + j + 1 from rfl, b5, hH, List.append_assoc, ← List.replicate_succ'], fun j' h => ?_⟩
      by_cases hjj : j' = j
      · subst hjj
        rw [b1, hv]; simp
      · exact i2 j' (by omega)
  have lowS : ∀ j, j ≤ k → ∃ X, hs[ss + j]? = some (st.H ++ X) := fun j => by
    induction j with
    | zero => intro _; exact ⟨_, by rw [Nat.add_zero, hsse]; exact (made k (Nat.le_refl _)).1⟩
    | succ j ih =>
      intro hj
      obtain ⟨X, hX⟩ := ih (by omega)
      have hio : ops[ss + j]? = some (ops[ss + j]'(by omega)) := Array.getElem?_eq_getElem _
      obtain ⟨c, a1, _, _, _, _, _, a8, _⟩ := hl'get _ _ hio
      rw [tag3 j (by omega)] at a1 a8
      obtain ⟨v, Hi, Hb, tc, b1, b2, b4, b5, _, b7⟩ := t6 _ _ c a1
      rw [hX] at b2
      simp only [Option.some.injEq] at b2; subst b2
      rw [if_neg (by decide)] at b4 b5
      rw [show ss + (j + 1) = ss + j + 1 from rfl, b5]
      rw [twin_nocall (by decide) a8] at b4
      obtain ⟨size, p, x, hc⟩ : ∃ size p x, c.op = .store size p x := by
        cases hc : c.op <;> rw [hc] at a8 <;> simp only [twinFits, Bool.false_eq_true] at a8
        exact ⟨_, _, _, rfl⟩
      rw [hc] at b4
      obtain ⟨s1, s2⟩ := store_run b4
      refine ⟨Hb.drop st.H.length, ?_⟩
      have : Hb.take st.H.length = st.H := List.ext_getElem? fun i => by
        by_cases hi : i < st.H.length
        · rw [List.getElem?_take_of_lt hi, s2 i (fun h => by
            have := Nat.le_of_ble_eq_true (List.all_eq_true.1 (b7 rfl) i h)
            omega), List.getElem?_append_left hi]
        · rw [List.getElem?_eq_none (by simp; omega), List.getElem?_eq_none (by omega)]
      conv => lhs; rw [← List.take_append_drop st.H.length Hb]
      rw [this]
  have hvl : vals.length = ops.size := by rw [t1, hl'len]
  have hlsl : ls.length = ops.size := by rw [hls]; simp [hl'len]
  have hlsget : ∀ (i k : Nat) (c : AOper), l'[i]? = some (k, c) → ls[i]? = some c := fun i k c hi => by rw [hls, List.getElem?_map, hi]; rfl
  have valsid : permVals e ss st.H.length _root_.id vals = vals := permVals_id fun j hj => (made k (Nat.le_refl _)).2 j (by omega)
  have fin : ∀ (listed : Array Bool) (a : Act) (Γc : Ctx) (p : Nat → Nat) (X : Heap), TInv nt base bar ops ls st.fr vals hs e ss k BB Γ st.H listed a Γc p X → (∀ j, j < ops.size → listed.getD j false = true) → Q .normal a Γc.w := fun listed a Γc p X I hall => by
    have g := I.good
    have f := I.fits
    rcases I.stage with ⟨c, hc, hck, _⟩ | ⟨_, hp, m, hm, hh, hlm⟩
    · have := cnt_all (k := k) (S := fun j => listed.getD (e + j) false) fun j hj => hall _ (by omega)
      omega
    · have hmk : m = k := by
        have := (hlm (k - 1) (by omega)).1 (hall _ (by omega))
        omega
      subst hmk
      rw [← hns, ← hl'len, t4] at hh
      simp only [Option.some.injEq] at hh
      rw [← hh] at g
      rw [hp, valsid] at f
      refine hQ Γc a ⟨fun t v hv => f.fr t v ?_, f.size, f.defers, f.glob⟩ g
      rw [← hv, t5]
      refine frG_congr ls vals 0 _ _ rfl fun i o ho hne => ?_
      have : i < ls.length := (List.getElem?_eq_some_iff.1 ho).1
      exact absurd (by simp [hall i (by omega)]) hne
  have hready : ∀ (listed : Array Bool), listed.size = ops.size → ∀ i, i ∈ Region.ready .any ops listed ↔ i < ops.size ∧ listed.getD i false = false ∧ ∀ o, ops[i]? = some o → ∀ e ∈ o.after.toList, Region.binds .any e = true → listed.getD e.on false = true := fun listed hsz i => by
    simp only [Region.ready, List.mem_filter, List.mem_range, Bool.and_eq_true, Bool.not_eq_true']
    refine and_congr_right fun hi => ?_
    have hl : listed.getD i true = listed.getD i false := by simp [Array.getD_eq_getD_getElem?, Array.getElem?_eq_getElem (show i < listed.size by omega)]
    rw [hl, Array.getElem?_eq_getElem hi]
    refine and_congr_right fun _ => ?_
    simp only [Option.map_some, Option.getD_some, Option.some.injEq, forall_eq']
    rw [← Array.all_toList, List.all_eq_true]
    refine forall_congr' fun e => forall_congr' fun he => ?_
    cases Region.binds .any e <;> simp
  have hdone : ∀ (listed : Array Bool), listed.size = ops.size → Region.ready .any ops listed = [] → ∀ j, j < ops.size → listed.getD j false = true := fun listed hsz hr j => by
    induction j using Nat.strongRecOn with
    | _ j ih =>
      intro hj
      cases hl : listed.getD j false with
      | true => rfl
      | false =>
        have : j ∈ Region.ready .any ops listed := (hready listed hsz j).2 ⟨hj, hl, fun o ho e he hb => ih e.on (hedge j o ho e he hb) (by have := hedge j o ho e he hb; omega)⟩
        rw [hr] at this; cases this
  have key : ∀ (fuel : Nat) (listed : Array Bool) (a : Act) (Γc : Ctx) (p : Nat → Nat) (X : Heap), TInv nt base bar ops ls st.fr vals hs e ss k BB Γ st.H listed a Γc p X → cnt ops.size (fun j => true && listed.getD j false) + fuel = ops.size → wpAny P .any ops Q fuel listed a Γc.w := by
    intro fuel
    induction fuel with
    | zero =>
      intro listed a Γc p X I hc
      have hall : ∀ j, j < ops.size → listed.getD j false = true := cnt_full (S := fun j => listed.getD j false) (by simpa using hc)
      refine ⟨?_, fin listed a Γc p X I hall⟩
      apply List.eq_nil_iff_forall_not_mem.2
      intro i hi
      obtain ⟨h1, h2, _⟩ := (hready listed I.size i).1 hi
      rw [hall i h1] at h2; cases h2
    | succ fuel ih =>
      intro listed a Γc p X I hc
      refine ⟨fun hr => fin listed a Γc p X I (hdone listed I.size hr), fun i hi => ?_⟩
      obtain ⟨hin, hDi, hedges⟩ := (hready listed I.size i).1 hi
      have ho : ops[i]? = some ops[i] := Array.getElem?_eq_getElem hin
      generalize ops[i] = o at ho
      have hedg2 := hedges o ho
      obtain ⟨c, hc1, hc2, hc3, hc5, hc6, hc10, hc11, hcd, hcb⟩ := hl'get i o ho
      have hcl := hlsget i _ c hc1
      obtain ⟨v, Hi, Hi', tc, hv1', hv2', hrun, hv5', htop, _⟩ := t6 i _ c hc1
      have b1 : ∀ j, isBef B j i = true → listed.getD j false = true := fun j hb => hbef I.closed i j o ho hedg2 hb
      have b2 : ∀ j, listed.getD j false = true → j < ops.size → isBef B i j = false := fun j hj hjn => by
        cases hb : isBef B i j with
        | false => rfl
        | true =>
          have hoj : ops[j]? = some ops[j] := Array.getElem?_eq_getElem hjn
          rw [hbef I.closed j i _ hoj (I.closed j _ hj hoj) hb] at hDi; cases hDi
      -- a store comes when all blocks are there
      have third : twinTag ops.size k i = 3 → permVals e ss st.H.length p vals = vals := fun h3 => by
        rcases I.stage with ⟨c, hc, hck, _⟩ | ⟨_, hp, _⟩
        · exfalso
          rcases three i hin with h | ⟨j, hj, rfl⟩ | ⟨j, hj, rfl⟩
          · rw [tag0 i h] at h3; cases h3
          · rw [tag1 j hj] at h3; cases h3
          · have := cnt_all (k := k) (S := fun j => listed.getD (e + j) false) fun j' hj' => b1 _ ((hal j' hj').2 j hj)
            omega
        · rw [hp]; exact valsid
      have Fs : Fits nt Γc (fkeep c.looks (frG (fun j => decide (j < i)) 0 st.fr ls vals)) a := ⟨fun t x hx => by
        have htl := fkeep_mem hx
        have htl' := htl
        rw [hc10] at htl
        have hx1 := fget_fkeep _ _ _ _ hx
        refine I.fits.fr t x ?_
        have e1' : fget t (frG (fun i => listed.getD i false) 0 st.fr ls (permVals e ss st.H.length p vals)) = fget t (frG (fun i => listed.getD i false) 0 st.fr ls vals) := by
          by_cases h3 : twinTag ops.size k i = 3
          · rw [third h3]
          · refine frG_vals ls _ _ 0 _ _ permVals_len rfl fun j q hq hd _ => ?_
            by_cases hj : e ≤ j ∧ j < ss
            · obtain ⟨j', hj', rfl⟩ : ∃ j', j' < k ∧ j = e + j' := ⟨j - e, by omega, by omega⟩
              have hjs : e + j' < ops.size := by omega
              have hoj : ops[e + j']? = some ops[e + j'] := Array.getElem?_eq_getElem hjs
              obtain ⟨q', q1', q2', _⟩ := hl'get _ _ hoj
              rw [hlsget _ _ _ q1'] at hq
              simp only [Option.some.injEq] at hq; subst hq
              exact absurd htl' (hcb h3 j' _ t hj' hoj (by rw [← q2']; exact hd))
            · exact permVals_out hj
        rw [e1', ← hx1]
        refine frG_congr ls vals 0 _ _ rfl fun j p hp hne => ?_
        simp only [Nat.zero_add] at hne
        have hjn : j < ops.size := by rw [← hlsl]; exact (List.getElem?_eq_some_iff.1 hp).1
        have hoj : ops[j]? = some ops[j] := Array.getElem?_eq_getElem hjn
        obtain ⟨q, q1', q2', _⟩ := hl'get j _ hoj
        rw [hlsget _ _ _ q1'] at hp
        simp only [Option.some.injEq] at hp; subst hp
        rw [q2']
        by_cases hji : j < i
        · have hDj : listed.getD j false = false := by simpa [hji] using hne
          rcases hpair i j hji hin with hb | hap
          · rw [b1 j hb] at hDj; cases hDj
          · exact fun hd => (Oper.apart_spec (hap o _ ho hoj)).1 t hd htl
        · have hDj : listed.getD j false = true := by simpa [hji] using hne
          have hne' : j ≠ i := by rintro rfl; rw [hDi] at hDj; cases hDj
          rcases hpair j i (by omega) hjn with hb | hap
          · rw [b2 j hDj hjn] at hb; cases hb
          · exact fun hd => (Oper.apart_spec (hap _ o hoj ho)).2.2 t hd htl, I.fits.size, I.fits.defers, I.fits.glob⟩
      have hD' : ∀ j, (listed.setIfInBounds i true).getD j false = if j = i then true else listed.getD j false := fun j => by
        simp only [Array.getD_eq_getD_getElem?]
        by_cases hji : j = i
        · subst hji
          rw [if_pos rfl, Array.getElem?_setIfInBounds_self_of_lt (by rw [I.size]; exact hin)]; rfl
        · rw [if_neg hji, Array.getElem?_setIfInBounds_ne (Ne.symm hji)]
      have hfr : ∀ (vs : List AV) (w : AV), vs[i]? = some w → ∀ t, fget t (frG (fun j => (listed.setIfInBounds i true).getD j false) 0 st.fr ls vs) = fget t (fput o.dst w (frG (fun j => listed.getD j false) 0 st.fr ls vs)) := fun vs w hw t => by
        rw [fget_fput]
        by_cases hdt : o.dst = some t
        · rw [if_pos hdt]
          refine frG_last ls vs 0 st.fr i c w hcl hw (by simp [hD']) (by rw [hc2]; exact hdt) fun j p hj hp hS => ?_
          have hjn : j < ops.size := by rw [← hlsl]; exact (List.getElem?_eq_some_iff.1 hp).1
          have hoj : ops[j]? = some ops[j] := Array.getElem?_eq_getElem hjn
          obtain ⟨q, q1', q2', _⟩ := hl'get j _ hoj
          rw [hlsget _ _ _ q1'] at hp
          simp only [Option.some.injEq] at hp; subst hp
          rw [q2']
          have hDj : listed.getD j false = true := by
            rw [Nat.zero_add, hD', if_neg (by omega)] at hS; exact hS
          rcases hpair j i hj hjn with hb | hap
          · rw [b2 j hDj hjn] at hb; cases hb
          · exact (Oper.apart_spec (hap _ o hoj ho)).2.1 t hdt
        · rw [if_neg hdt]
          refine frG_congr ls vs 0 _ _ rfl fun j p hp hne => ?_
          by_cases hji : j = i
          · subst hji
            rw [hcl] at hp
            simp only [Option.some.injEq] at hp; subst hp
            rw [hc2]; exact hdt
          · exact absurd (by rw [Nat.zero_add, hD', if_neg hji]) hne
      have hcnt2 : cnt ops.size (fun j => true && (listed.setIfInBounds i true).getD j false) + fuel = ops.size := by
        have := cnt_insert (fun _ => true) i (S := fun j => listed.getD j false) (S' := fun j => (listed.setIfInBounds i true).getD j false) hDi (by simp [hD']) (fun j hj => by simp [hD', hj]) ops.size hin
        simp only [if_true] at this
        omega
      have hclosed : ∀ j p, (listed.setIfInBounds i true).getD j false = true → ops[j]? = some p → ∀ e ∈ p.after.toList, Region.binds .any e = true → (listed.setIfInBounds i true).getD e.on false = true := fun j p hj hp e he hb => by
        rw [hD'] at hj ⊢
        by_cases hji : j = i
        · subst hji
          rw [ho] at hp
          simp only [Option.some.injEq] at hp; subst hp
          split
          · rfl
          · exact hedg2 e he hb
        · rw [if_neg hji] at hj
          split
          · rfl
          · exact I.closed j p hj hp e he hb
      have hop : ∀ {k : Nat}, twinFits k c.op = true → cOp P o.op = some c.op := fun {k} h => by
        rw [hc3] at h ⊢
        cases hco : cOp P o.op with
        | none => rw [hco, Option.getD_none, fits_bad] at h; cases h
        | some x => rfl
      simp only [wpOp, ho]
      have hwant := want_sound Fs hc5 (b := true) rfl
      rw [if_pos hwant]
      left
      have hHbase : base ≤ (st.H ++ X).length := by simp; omega
      have hn0 := s.n
      have wpA : ∀ {v : AV} {H' : Heap} {tc : List Nat} {K : Act → World → Prop}, aopC env ex true base bar c.op (fkeep c.looks (frG (fun j => decide (j < i)) 0 st.fr ls vals)) (st.H ++ X) = some (v, H', tc) →
          (∀ (Δ : Ctx) (v' : Value), VR Δ v v' → Good base bar (List.range st.H.length) Γ Δ st.H H' → Evo Γc Δ → K (a.put o.dst v') Δ.w) → o.wp P a Γc.w K Q := fun {v H' tc K} hr hk => by
        refine aopC_sound HF HK HE Fs I.good.sim hHbase hbar (hop hc11) hr fun Δ v' hvv hg => hk Δ v' hvv ((I.good.trans hg.all).any fun j hj hjl => by simpa using hjl) hg.evo
      have next : ∀ (Δ : Ctx) (v' : Value) (w : AV) (p' : Nat → Nat) (X' : Heap), TStage hs e ss k BB st.H (listed.setIfInBounds i true) p' X' → VR Δ w v' → (permVals e ss st.H.length p' vals)[i]? = some w →
          Good base bar (List.range st.H.length) Γ Δ st.H (st.H ++ X') → Evo Γc Δ →
          (∀ t, fget t (frG (fun j => listed.getD j false) 0 st.fr ls (permVals e ss st.H.length p' vals)) = fget t (frG (fun j => listed.getD j false) 0 st.fr ls (permVals e ss st.H.length p vals))) →
          wpAny P .any ops Q fuel (listed.setIfInBounds i true) (a.put o.dst v') Δ.w := fun Δ v' w p' X' hstg hvv hw hg he hsame => by
        refine ih _ _ Δ p' X' ⟨by simp [I.size], hclosed, hg, ?_, hstg⟩ hcnt2
        have F1 := (I.fits.mono he).put hc6 hvv
        refine ⟨fun t x hx => F1.fr t x ?_, F1.size, F1.defers, F1.glob⟩
        rw [hfr _ w hw t, fget_fput] at hx
        rw [fget_fput]
        split
        · rename_i hd; rw [if_pos hd] at hx; exact hx
        · rename_i hd; rw [if_neg hd, hsame t] at hx; exact hx
      rcases three i hin with hlt | ⟨j, hj, hij⟩ | ⟨j, hj, hij⟩
      · -- what does not see the new blocks
        have hk0 := tag0 i hlt
        rw [if_pos hk0] at hrun
        obtain ⟨htop1, htop2, htop3⟩ := htop hk0
        have tcnil : tc = [] := by simpa using htop2
        subst tcnil
        have hg0 := I.good
        have Fc : Fits nt (Γc.cut st.H.length) (fkeep c.looks (frG (fun j => decide (j < i)) 0 st.fr ls vals)) a := ⟨fun t x hx => (Fs.fr t x hx).cut (by
          have hlk := fkeep_mem hx
          have hx1 := fget_fkeep _ _ _ _ hx
          rcases frG_val ls vals 0 st.fr hx1 with h0 | ⟨j, p, hp, hpv, hpS, hpd⟩
          · have := (F.fr t x h0).top_le
            omega
          · have hjn : j < ops.size := by rw [← hlsl]; exact (List.getElem?_eq_some_iff.1 hp).1
            have hji : j < i := by simpa using hpS
            have hoj : ops[j]? = some ops[j] := Array.getElem?_eq_getElem hjn
            obtain ⟨cj, p1, _⟩ := hl'get j _ hoj
            obtain ⟨u, _, _, _, u1, _, _, _, u7, _⟩ := t6 j _ cj p1
            rw [u1] at hpv
            simp only [Option.some.injEq] at hpv; subst hpv
            exact (u7 (tag0 j (by omega))).1), Fs.size, Fs.defers, Fs.glob.cut⟩
        refine aopC_sound HF HK HE (Γ := Γc.cut st.H.length) (K := fun a w => wpAny P .any ops Q fuel (listed.setIfInBounds i true) a w) Fc (hg0.sim.low s.tops) hbase hbar (hop hc11) hrun fun Δ v' hvv hg => ?_
        have hw := hg.wide hg0.sim htop3
        have hkn : st.H.length ≤ Γc.n := by rw [hg0.sim.n]; simp
        have hΔn : Δ.n = st.H.length := by rw [hg.sim.n, htop3]
        have hsm : ∀ j, ¬ j < e → (listed.setIfInBounds i true).getD j false = listed.getD j false := fun j hj => by rw [hD', if_neg (by omega)]
        refine next (Γc.wide Δ st.H.length) v' v p X ?_ (hvv.wide hkn hΔn) ?_ ?_ hw.evo (fun t => rfl)
        · have h1 : ∀ j, (listed.setIfInBounds i true).getD (e + j) false = listed.getD (e + j) false := fun j => hsm _ (by omega)
          have h2 : ∀ j, (listed.setIfInBounds i true).getD (ss + j) false = listed.getD (ss + j) false := fun j => hsm _ (by omega)
          unfold TStage
          simp only [h1, h2]
          exact I.stage
        · rw [permVals_out (by omega)]; exact hv1'
        · exact (hg0.trans hw.all).any fun j hj hjl => by simpa using hjl
      · -- a block is made
        subst hij
        rcases I.stage with ⟨cc, hcc, hck, hX, hlt, hinj⟩ | ⟨hall, _⟩
        case inr => rw [hall j hj] at hDi; cases hDi
        have hcop := hcA j hj c _ hc1
        have hvj := (made k (Nat.le_refl _)).2 j hj
        have hr : aopC env ex true base bar c.op (fkeep c.looks (frG (fun i => decide (i < e + j)) 0 st.fr ls vals)) (st.H ++ X) = some (.ptr (st.H.length + cc) 0 0, st.H ++ List.replicate (cc + 1) BB, []) := by
          have h0 := hcop
          rw [tag1 j hj] at hc11 hrun
          rw [if_neg (by decide)] at hrun
          rw [twin_nocall (by decide) hc11, h0] at hrun ⊢
          obtain ⟨_, _, mk⟩ := alloc_run hrun
          rw [mk, ← hBB, hX, List.append_assoc, ← List.replicate_succ']
          simp
        refine wpA hr fun Δ v' hvv hg he => ?_
        obtain ⟨p', hp'⟩ : ∃ p' : Nat → Nat, p' = fun i => if i = j then cc else p i := ⟨_, rfl⟩
        have hpj : p' j = cc := by rw [hp']; simp
        have hpo : ∀ i, i ≠ j → p' i = p i := fun i h => by rw [hp']; simp [h]
        have hA : ∀ j', (listed.setIfInBounds (e + j) true).getD (e + j') false = if j' = j then true else listed.getD (e + j') false := fun j' => by
          rw [hD']
          by_cases h : j' = j
          · rw [if_pos (by omega), if_pos h]
          · rw [if_neg (by omega), if_neg h]
        have hcnt : cnt k (fun j' => (listed.setIfInBounds (e + j) true).getD (e + j') false) = cc + 1 := by
          rw [hcc]
          exact cnt_ins (S := fun j' => listed.getD (e + j') false) hDi (by rw [hA, if_pos rfl]) (fun i hi => by rw [hA, if_neg hi]) hj
        have hlt' : ∀ j', j' < k → (listed.setIfInBounds (e + j) true).getD (e + j') false = true → p' j' < cc + 1 := fun j' hj' h => by
          rw [hA] at h
          by_cases hjj : j' = j
          · subst hjj; omega
          · rw [if_neg hjj] at h
            rw [hpo _ hjj]
            have := hlt j' hj' h
            omega
        have hinj' : ∀ i i', i < k → i' < k → (listed.setIfInBounds (e + j) true).getD (e + i) false = true → (listed.setIfInBounds (e + j) true).getD (e + i') false = true → p' i = p' i' → i = i' := fun i i' gi gi' h1 h2 h => by
          rw [hA] at h1 h2
          by_cases hij : i = j
          · subst hij
            by_cases hij' : i' = i
            · exact hij'.symm
            · rw [if_neg hij'] at h2
              rw [hpj, hpo _ hij'] at h
              have := hlt i' gi' h2
              omega
          · rw [if_neg hij] at h1
            by_cases hij' : i' = j
            · subst hij'
              rw [hpj, hpo _ hij] at h
              have := hlt i gi h1
              omega
            · rw [if_neg hij'] at h2
              rw [hpo _ hij, hpo _ hij'] at h
              exact hinj i i' gi gi' h1 h2 h
        have hsame : ∀ t, fget t (frG (fun j => listed.getD j false) 0 st.fr ls (permVals e ss st.H.length p' vals)) = fget t (frG (fun j => listed.getD j false) 0 st.fr ls (permVals e ss st.H.length p vals)) := fun t => by
          refine frG_vals ls _ _ 0 _ _ (by rw [permVals_len, permVals_len]) rfl fun i q hq hdq hS => ?_
          have hij : i ≠ e + j := by rintro rfl; rw [Nat.zero_add, hDi] at hS; cases hS
          by_cases hie : e ≤ i ∧ i < ss
          · obtain ⟨i', hi', rfl⟩ : ∃ i', i' < k ∧ i = e + i' := ⟨i - e, by omega, by omega⟩
            rw [permVals_in hie.2 (by omega), permVals_in hie.2 (by omega), hpo i' (by omega)]
          · rw [permVals_out hie, permVals_out hie]
        have hval : (permVals e ss st.H.length p' vals)[e + j]? = some (.ptr (st.H.length + cc) 0 0) := by
          rw [permVals_in (by omega) (by omega), hpj]
        by_cases hlast : cc + 1 < k
        · exact next Δ v' _ p' (List.replicate (cc + 1) BB) (.inl ⟨cc + 1, hcnt.symm, hlast, rfl, hlt', hinj'⟩) hvv hval hg he hsame
        · -- the last one
          have hce : cc + 1 = k := by omega
          have hallA := cnt_full (k := k) (by rw [hcnt, hce])
          have hgk : Good base bar (List.range st.H.length) Γ Δ st.H (st.H ++ List.replicate k BB) := by rw [← hce]; exact hg
          have gs := hgk.perm s hBtop (p := p') (fun j' hj' => by have := hlt' j' hj' (hallA j' hj'); omega) (fun i i' hi hi' h => hinj' i i' hi hi' (hallA i hi) (hallA i' hi') h)
          have hΔn : Δ.n = st.H.length + k := by rw [hgk.sim.n]; simp
          have nost : ∀ j', j' < k → listed.getD (ss + j') false = false := fun j' hj' => by
            cases hl : listed.getD (ss + j') false with
            | false => rfl
            | true =>
              have hjs : ss + j' < ops.size := by omega
              have hoj : ops[ss + j']? = some ops[ss + j'] := Array.getElem?_eq_getElem hjs
              have := hbef I.closed _ _ _ hoj (I.closed _ _ hl hoj) ((hal j hj).2 j' hj')
              rw [this] at hDi; cases hDi
          refine ih _ _ (Δ.perm st.H.length p') _root_.id (List.replicate k BB) ⟨by simp [I.size], hclosed, gs, ?_, .inr ⟨hallA, rfl, 0, Nat.zero_le _, by rw [Nat.add_zero, hsse]; exact (made k (Nat.le_refl _)).1, fun j' hj' => ?_⟩⟩ hcnt2
          · rw [valsid]
            have F1 := (I.fits.mono he).put hc6 hvv
            refine ⟨fun t x hx => ?_, F1.size, F1.defers, gs.sim.glob⟩
            obtain ⟨x', h1, h2⟩ := frG_rel (R := fun x x' => ∀ v, VR Δ x' v → VR (Δ.perm st.H.length p') x v) ls vals (permVals e ss st.H.length p' vals) 0 st.fr st.fr permVals_len.symm
              (fun x hx => ⟨x, hx, fun v hv => hv.perm (by have := (F.fr t x hx).top_le; omega)⟩)
              (fun i x q hxi hq hS => by
                rw [Nat.zero_add] at hS
                have hin' : i < ops.size := by rw [← hvl]; exact (List.getElem?_eq_some_iff.1 hxi).1
                rcases three i hin' with h | ⟨i', hi', rfl⟩ | ⟨i', hi', rfl⟩
                · refine ⟨x, by rw [permVals_out (by omega)]; exact hxi, fun v hv => hv.perm ?_⟩
                  have hoi : ops[i]? = some ops[i] := Array.getElem?_eq_getElem hin'
                  obtain ⟨ci, p1, _⟩ := hl'get i _ hoi
                  obtain ⟨u, _, _, _, u1, _, _, _, u7, _⟩ := t6 i _ ci p1
                  rw [u1] at hxi
                  simp only [Option.some.injEq] at hxi; subst hxi
                  exact (u7 (tag0 i h)).1
                · have := (made k (Nat.le_refl _)).2 i' hi'
                  rw [this] at hxi
                  simp only [Option.some.injEq] at hxi; subst hxi
                  exact ⟨_, permVals_in (by omega) (by omega), fun v hv => hv.perm_ptr (by omega)⟩
                · rw [hD', if_neg (by omega), nost i' hi'] at hS; cases hS) x hx
            exact h2 _ (F1.fr t x' (by
              rw [hfr _ _ hval t, fget_fput] at h1
              rw [fget_fput]
              split
              · rename_i hd; rw [if_pos hd] at h1; exact h1
              · rename_i hd; rw [if_neg hd, hsame t] at h1; exact h1))
          · rw [hD', if_neg (by omega), nost j' hj']
            simp
      · -- a store
        subst hij
        rcases I.stage with ⟨cc, hcc, hck, _⟩ | ⟨hall, hp, m, hm, hh, hlm⟩
        case inl =>
          exfalso
          have := cnt_all (k := k) (S := fun j => listed.getD (e + j) false) fun j' hj' => b1 _ ((hal j' hj').2 j hj)
          omega
        have hmj : j = m := by
          have h1 : ¬ j < m := fun h => by rw [(hlm j hj).2 h] at hDi; cases hDi
          have h2 : ∀ j', j' < j → j' < m := fun j' hj' => (hlm j' (by omega)).1 (b1 _ (hst j hj j' hj'))
          rcases Nat.eq_zero_or_pos j with h0 | h0
          · omega
          · have := h2 (j - 1) (by omega)
            omega
        subst hmj
        rw [hh] at hv2'
        simp only [Option.some.injEq] at hv2'
        rw [← hv2', tag3 j hj, if_neg (by decide)] at hrun
        rw [tag3 j hj, if_neg (by decide)] at hv5'
        obtain ⟨X', hX'⟩ := lowS (j + 1) (by omega)
        have hHi' : Hi' = st.H ++ X' := by
          rw [show ss + (j + 1) = ss + j + 1 from rfl, hv5'] at hX'
          simpa using hX'
        rw [hHi'] at hrun
        refine wpA hrun fun Δ v' hvv hg he => ?_
        refine next Δ v' v p X' (.inr ⟨fun j' hj' => by rw [hD', if_neg (by omega)]; exact hall j' hj', hp, j + 1, by omega, hX', fun j' hj' => ?_⟩) hvv (by rw [permVals_out (by omega)]; exact hv1') hg he (fun t => rfl)
        rw [hD']
        by_cases h : j' = j
        · subst h; simp
        · rw [if_neg (by omega), hlm j' hj']; omega
  refine wp_region_any hmix ?_
  have g0 := Good.drew (base := base) (bar := bar) (w' := { Γ.w with drawn := Γ.w.drawn + 1 }) s rfl rfl rfl rfl
  have hz : ∀ j, (Array.replicate ops.size false).getD j false = false := fun j => by
    rw [Array.getD_eq_getD_getElem?, Array.getElem?_replicate]
    split <;> rfl
  have c0 : ∀ (n : Nat) (p : Nat → Bool), cnt n (fun j => p j && (Array.replicate ops.size false).getD j false) = 0 := fun n p => by
    have : cnt n (fun j => p j && (Array.replicate ops.size false).getD j false) = cnt n (fun _ => false) := cnt_congr fun j _ => by rw [hz]; simp
    rw [this]; simp [cnt]
  refine key ops.size (Array.replicate ops.size false) a { Γ with w := { Γ.w with drawn := Γ.w.drawn + 1 } } _root_.id [] ⟨by simp, fun i o hi => (by rw [hz] at hi; cases hi), ?_, ?_, .inl ⟨0, ?_, hkp, rfl, fun j _ h => (by rw [hz] at h; cases h), fun i j _ _ h => (by rw [hz] at h; cases h)⟩⟩ (by rw [c0]; omega)
  · simpa using g0.all
  · rw [valsid, frG_none hz]
    exact F.mono g0.evo
  · have := c0 k (fun _ => true)
    have h2 : cnt k (fun j => (Array.replicate ops.size false).getD (e + j) false) = cnt k (fun _ => false) := cnt_congr fun j _ => by rw [hz]
    rw [h2]; simp [cnt]
end Go.Ab
