/-
  Part of the proved evaluator, or answers that it computed.
-/
import Derived.Test.YtihdlpeghlhnoaaGreatDoorAbReg
set_option linter.all false
namespace Go.Ab
variable {P : Program}

/-! ## what is surely before what -/
theorem maskOf_bit (acc : List Nat) (j : Nat) : ∀ (es : List Edge) (s : Nat), (maskOf acc es s).testBit j = (s.testBit j || es.any fun e => Region.binds .any e && (e.on == j || (acc.getD e.on 0).testBit j))
  | [], s => by simp [maskOf]
  | e :: r, s => by
    rw [maskOf, maskOf_bit acc j r]
    cases hb : Region.binds .any e with
    | true =>
      have hq : (e.on == j) = decide (e.on = j) := by by_cases h : e.on = j <;> simp [h]
      simp only [if_true, List.any_cons, hb, Bool.true_and, Nat.testBit_or, Nat.testBit_two_pow, hq, Bool.or_assoc]
    | false => simp [hb]

theorem befs_prefix : ∀ (l : List Oper) (acc : List Nat), ∃ r, befs l acc = acc ++ r ∧ r.length = l.length
  | [], acc => ⟨[], by simp [befs], rfl⟩
  | o :: r, acc => by
    obtain ⟨s, h1, h2⟩ := befs_prefix r (acc ++ [maskOf acc o.after.toList 0])
    exact ⟨maskOf acc o.after.toList 0 :: s, by rw [befs, h1]; simp, by simp [h2]⟩

theorem befs_get : ∀ (l : List Oper) (acc : List Nat) (i : Nat) (o : Oper), l[i]? = some o → (befs l acc)[acc.length + i]? = some (maskOf ((befs l acc).take (acc.length + i)) o.after.toList 0)
  | [], acc, i, o, h => by simp at h
  | p :: r, acc, i, o, h => by
    cases i with
    | zero =>
      simp at h; subst h
      obtain ⟨s, h1, h2⟩ := befs_prefix r (acc ++ [maskOf acc p.after.toList 0])
      rw [befs, h1]
      simp
    | succ i =>
      have := befs_get r (acc ++ [maskOf acc p.after.toList 0]) i o (by simpa using h)
      simp only [List.length_append, List.length_singleton] at this
      rw [befs, show acc.length + (i + 1) = acc.length + 1 + i from by omega]
      exact this

theorem isBef_iff {ops : Array Oper} {i j : Nat} {o : Oper} (ho : ops[i]? = some o) (hlt : ∀ e ∈ o.after.toList, Region.binds .any e = true → e.on < i) :
    isBef (befs ops.toList []) j i = true ↔ ∃ e ∈ o.after.toList, Region.binds .any e = true ∧ (e.on = j ∨ isBef (befs ops.toList []) j e.on = true) := by
  have h := befs_get ops.toList [] i o (by simpa using ho)
  simp only [List.length_nil, Nat.zero_add] at h
  unfold isBef
  rw [List.getD_eq_getElem?_getD, h, Option.getD_some, maskOf_bit]
  simp only [Nat.zero_testBit, Bool.false_or, List.any_eq_true, Bool.and_eq_true, Bool.or_eq_true, beq_iff_eq]
  constructor
  · rintro ⟨e, he, hb, hc⟩
    refine ⟨e, he, hb, hc.imp id fun hc => ?_⟩
    rwa [List.getD_eq_getElem?_getD, List.getElem?_take, if_pos (hlt e he hb), ← List.getD_eq_getElem?_getD] at hc
  · rintro ⟨e, he, hb, hc⟩
    refine ⟨e, he, hb, hc.imp id fun hc => ?_⟩
    rwa [List.getD_eq_getElem?_getD, List.getElem?_take, if_pos (hlt e he hb), ← List.getD_eq_getElem?_getD]

/-! ## the frame behind some of the operations -/
def frG (S : Nat → Bool) : Nat → Frame → List AOper → List AV → Frame
  | m, fr, o :: r, v :: vs => frG S (m + 1) (if S m then fput o.dst v fr else fr) r vs
  | _, fr, _, _ => fr

theorem fget_fput (d : Option Nat) (v : AV) (fr : Frame) (t : Nat) : fget t (fput d v fr) = if d = some t then some v else fget t fr := by
  cases d with
  | none => simp [fput]
  | some u =>
    simp only [fput, fget_fset, Option.some.injEq]
    by_cases h : t = u
    · subst h; simp
    · rw [if_neg h, if_neg (fun e => h e.symm)]

theorem frG_congr {S S' : Nat → Bool} {t : Nat} : ∀ (l : List AOper) (vs : List AV) (m : Nat) (fr fr' : Frame), fget t fr = fget t fr' → (∀ i o, l[i]? = some o → S (m + i) ≠ S' (m + i) → o.dst ≠ some t) →
    fget t (frG S m fr l vs) = fget t (frG S' m fr' l vs)
  | [], vs, m, fr, fr', h, _ => by simpa [frG] using h
  | o :: r, [], m, fr, fr', h, _ => by simpa [frG] using h
  | o :: r, v :: vs, m, fr, fr', h, hd => by
    simp only [frG]
    refine frG_congr r vs (m + 1) _ _ ?_ (fun i p hp hne => hd (i + 1) p (by simpa using hp) (by rwa [show m + (i + 1) = m + 1 + i from by omega]))
    have h0 := hd 0 o (by simp)
    simp only [Nat.add_zero] at h0
    cases hS : S m <;> cases hS' : S' m <;> simp only [if_true, if_false, Bool.false_eq_true, fget_fput]
    · exact h
    · rw [if_neg (h0 (by simp [hS, hS']))]; exact h
    · rw [if_neg (h0 (by simp [hS, hS']))]; exact h
    · rw [h]

theorem frG_none {S : Nat → Bool} (hS : ∀ j, S j = false) : ∀ (l : List AOper) (vs : List AV) (m : Nat) (fr : Frame), frG S m fr l vs = fr
  | [], vs, m, fr => by simp [frG]
  | q :: r, [], m, fr => by simp [frG]
  | q :: r, w :: vs, m, fr => by
    simp only [frG, hS m, Bool.false_eq_true, if_false]
    exact frG_none hS r vs (m + 1) fr

theorem frG_last {S : Nat → Bool} {t : Nat} : ∀ (l : List AOper) (vs : List AV) (m : Nat) (fr : Frame) (i : Nat) (o : AOper) (v : AV), l[i]? = some o → vs[i]? = some v → S (m + i) = true → o.dst = some t →
    (∀ j p, i < j → l[j]? = some p → S (m + j) = true → p.dst ≠ some t) → fget t (frG S m fr l vs) = some v
  | [], vs, m, fr, i, o, v, h, _, _, _, _ => by simp at h
  | p :: r, [], m, fr, i, o, v, _, h, _, _, _ => by simp at h
  | p :: r, u :: vs, m, fr, 0, o, v, h, hv, hS, hd, hlater => by
    simp at h hv; subst h hv
    simp only [Nat.add_zero] at hS
    simp only [frG, hS, if_true]
    have : fget t (frG S (m + 1) (fput p.dst u fr) r vs) = fget t (frG (fun _ => false) (m + 1) (fput p.dst u fr) r vs) := by
      refine frG_congr r vs (m + 1) _ _ rfl (fun j q hq hne => ?_)
      refine hlater (j + 1) q (by omega) (by simpa using hq) ?_
      rw [show m + (j + 1) = m + 1 + j from by omega]
      simpa using hne
    rw [this]
    have none : ∀ (l : List AOper) (vs : List AV) (m : Nat) (fr : Frame), frG (fun _ => false) m fr l vs = fr := by
      intro l
      induction l with
      | nil => intro vs m fr; simp [frG]
      | cons q r ih =>
        intro vs m fr
        cases vs with
        | nil => simp [frG]
        | cons w vs => simp [frG, ih]
    rw [none, fget_fput, if_pos hd]
  | p :: r, u :: vs, m, fr, i + 1, o, v, h, hv, hS, hd, hlater => by
    simp only [frG]
    refine frG_last r vs (m + 1) _ i o v (by simpa using h) (by simpa using hv) (by rw [← hS]; congr 1; omega) hd (fun j q hj hq hSj => ?_)
    refine hlater (j + 1) q (by omega) (by simpa using hq) ?_
    rw [← hSj]; congr 1; omega

/-! ## the run in the order of the text -/
def effBefore (l : List AOper) (i : Nat) : Nat := ((l.take i).filter (·.eff)).length

structure Step1 (env : Env) (ex : Ex) (base bar : Nat) (k : Nat) (fr : Frame) (hs : List Heap) (tcs : List (List Nat)) (o : AOper) (v : AV) : Prop where
  skip : wantA o.guard (fkeep o.looks fr) = some false → v = .tup [] ∧ (o.eff = true → ∃ H, hs[k]? = some H ∧ hs[k + 1]? = some H)
  eff : wantA o.guard (fkeep o.looks fr) = some true → o.eff = true → ∃ H H' tc, hs[k]? = some H ∧ hs[k + 1]? = some H' ∧ tcs[k]? = some tc ∧ aopC env ex o.pure base bar o.op (fkeep o.looks fr) H = some (v, H', tc)
  read : wantA o.guard (fkeep o.looks fr) = some true → o.eff = false → ∃ H H', hs[o.lo]? = some H ∧ aopC env ex true base bar o.op (fkeep o.looks fr) H = some (v, H', []) ∧ H'.length = H.length ∧
    (o.lo = o.hi ∨ readOf o.op (fkeep o.looks fr) = some none ∨ ∃ id, readOf o.op (fkeep o.looks fr) = some (some id) ∧ clearOf id ((tcs.take o.hi).drop o.lo) = true)
  some : ∃ w, wantA o.guard (fkeep o.looks fr) = some w

theorem effBefore_zero (l : List AOper) : effBefore l 0 = 0 := by simp [effBefore]
theorem effBefore_succ (o : AOper) (r : List AOper) (i : Nat) : effBefore (o :: r) (i + 1) = (if o.eff then 1 else 0) + effBefore r i := by
  simp only [effBefore, List.take_succ_cons, List.filter_cons]
  split <;> simp <;> omega

theorem prefix_get {α : Type} {l l' : List α} (h : l <+: l') {i : Nat} {x : α} (hx : l[i]? = some x) : l'[i]? = some x := by
  obtain ⟨r, rfl⟩ := h
  rw [List.getElem?_append_left (List.getElem?_eq_some_iff.1 hx).1]; exact hx

theorem getLast_get {α : Type} {l : List α} {x : α} (h : l.getLast? = some x) : l[l.length - 1]? = some x := by
  rw [List.getLast?_eq_getElem?] at h; exact h

/-- what a run in the order of the text has found, operation by operation -/
theorem runDraw_trace {env : Env} {ex : Ex} {base bar : Nat} : ∀ (l : List AOper) (fr : Frame) (hs : List Heap) (tcs : List (List Nat)) (pend : List (Nat × Nat × Nat)) (st' : St), tcs.length + 1 = hs.length →
    runDraw env ex base bar l fr hs tcs pend = some st' →
    ∃ (vals : List AV) (hs' : List Heap) (tcs' : List (List Nat)), vals.length = l.length ∧ hs <+: hs' ∧ tcs <+: tcs' ∧ tcs'.length + 1 = hs'.length ∧ hs'.getLast? = some st'.H ∧ hs'.length = hs.length + (l.filter (·.eff)).length ∧
      st'.fr = frG (fun _ => true) 0 fr l vals ∧ (∀ p ∈ pend, clearOf p.1 ((tcs'.take p.2.2).drop p.2.1) = true) ∧
      ∀ (i : Nat) (o : AOper), l[i]? = some o → ∃ v, vals[i]? = some v ∧ Step1 env ex base bar (hs.length - 1 + effBefore l i) (frG (fun j => decide (j < i)) 0 fr l vals) hs' tcs' o v
  | [], fr, hs, tcs, pend, st', hlen, h => by
    simp only [runDraw] at h
    split at h
    · rename_i hp
      split at h
      · rename_i H hl
        simp only [Option.some.injEq] at h; subst h
        exact ⟨[], hs, tcs, rfl, List.prefix_refl _, List.prefix_refl _, hlen, hl, by simp, rfl, fun p hpm => by
          have := List.all_eq_true.1 hp p hpm
          simpa using this, by simp⟩
      · cases h
    · cases h
  | o :: r, fr, hs, tcs, pend, st', hlen, h => by
    have hpos : 0 < hs.length := by omega
    simp only [runDraw] at h
    -- one step and the rest
    have go : ∀ (v : AV) (hs1 : List Heap) (tcs1 : List (List Nat)) (pend1 : List (Nat × Nat × Nat)), tcs1.length + 1 = hs1.length → hs <+: hs1 → tcs <+: tcs1 → hs1.length = hs.length + (if o.eff then 1 else 0) → (∀ p ∈ pend, p ∈ pend1) →
        runDraw env ex base bar r (fput o.dst v fr) hs1 tcs1 pend1 = some st' → (∀ hs' tcs', hs1 <+: hs' → tcs1 <+: tcs' → (∀ p ∈ pend1, clearOf p.1 ((tcs'.take p.2.2).drop p.2.1) = true) → Step1 env ex base bar (hs.length - 1) fr hs' tcs' o v) →
        ∃ (vals : List AV) (hs' : List Heap) (tcs' : List (List Nat)), vals.length = (o :: r).length ∧ hs <+: hs' ∧ tcs <+: tcs' ∧ tcs'.length + 1 = hs'.length ∧ hs'.getLast? = some st'.H ∧ hs'.length = hs.length + ((o :: r).filter (·.eff)).length ∧
          st'.fr = frG (fun _ => true) 0 fr (o :: r) vals ∧ (∀ p ∈ pend, clearOf p.1 ((tcs'.take p.2.2).drop p.2.1) = true) ∧
          ∀ (i : Nat) (p : AOper), (o :: r)[i]? = some p → ∃ v, vals[i]? = some v ∧ Step1 env ex base bar (hs.length - 1 + effBefore (o :: r) i) (frG (fun j => decide (j < i)) 0 fr (o :: r) vals) hs' tcs' p v := by
      intro v hs1 tcs1 pend1 hl1 hp1 hp2 hlen1 hpm hrun hstep
      obtain ⟨vals, hs', tcs', e1, e2, e3, e4, e5, e6, e7, e8, e9⟩ := runDraw_trace r _ hs1 tcs1 pend1 st' hl1 hrun
      have shift : ∀ (S : Nat → Bool) (m : Nat) (f : Frame) (l : List AOper) (vs : List AV), frG S (m + 1) f l vs = frG (fun j => S (j + 1)) m f l vs := by
        intro S m f l
        induction l generalizing m f with
        | nil => intro vs; simp [frG]
        | cons q s ih =>
          intro vs
          cases vs with
          | nil => simp [frG]
          | cons w vs => simp only [frG]; rw [ih]
      refine ⟨v :: vals, hs', tcs', by simp [e1], hp1.trans e2, hp2.trans e3, e4, e5, ?_, ?_, fun p hp => e8 p (hpm p hp), fun i p hi => ?_⟩
      · rw [e6, hlen1, List.filter_cons]
        split <;> simp <;> omega
      · rw [e7]
        simp only [frG, if_true]
        rw [shift]
      · cases i with
        | zero =>
          simp at hi; subst hi
          refine ⟨v, by simp, ?_⟩
          rw [effBefore_zero, Nat.add_zero]
          have : frG (fun j => decide (j < 0)) 0 fr (o :: r) (v :: vals) = fr := by
            simp only [Nat.not_lt_zero, decide_false]
            have none : ∀ (l : List AOper) (vs : List AV) (m : Nat) (fr : Frame), frG (fun _ => false) m fr l vs = fr := by
              intro l
              induction l with
              | nil => intro vs m fr; simp [frG]
              | cons q r ih =>
                intro vs m fr
                cases vs with
                | nil => simp [frG]
                | cons w vs => simp [frG, ih]
            exact none _ _ _ _
          rw [this]
          exact hstep hs' tcs' e2 e3 e8
        | succ i =>
          obtain ⟨w, h1, h2⟩ := e9 i p (by simpa using hi)
          refine ⟨w, by simpa using h1, ?_⟩
          have hk : hs.length - 1 + effBefore (o :: r) (i + 1) = hs1.length - 1 + effBefore r i := by rw [effBefore_succ, hlen1]; omega
          rw [hk]
          have hf : frG (fun j => decide (j < i + 1)) 0 fr (o :: r) (v :: vals) = frG (fun j => decide (j < i)) 0 (fput o.dst v fr) r vals := by
            simp only [frG, Nat.zero_lt_succ, decide_true, if_true]
            rw [shift]
            simp only [Nat.add_lt_add_iff_right]
          rw [hf]
          exact h2
    split at h
    · cases h
    · -- the guard says no
      rename_i hw
      split at h <;> try (cases h; done)
      rename_i H hH
      have hlast := getLast_get hH
      split at h
      · rename_i heff
        refine go (.tup []) _ _ pend (by simp; omega) (List.prefix_append _ _) (List.prefix_append _ _) (by simp [heff]) (fun p hp => hp) h (fun hs' tcs' h1 h2 _ => ⟨fun _ => ⟨rfl, fun _ => ⟨H, prefix_get h1 ?_, prefix_get h1 ?_⟩⟩, fun hc => (by rw [hw] at hc; cases hc), fun hc => (by rw [hw] at hc; cases hc), ⟨_, hw⟩⟩)
        · rw [List.getElem?_append_left (by omega)]; exact hlast
        · rw [List.getElem?_append_right (by omega)]; simp [show hs.length - 1 + 1 - hs.length = 0 from by omega]
      · rename_i heff
        refine go (.tup []) _ _ pend hlen (List.prefix_refl _) (List.prefix_refl _) (by simp [heff]) (fun p hp => hp) h (fun hs' tcs' h1 h2 _ => ⟨fun _ => ⟨rfl, fun hc => absurd hc heff⟩, fun hc => (by rw [hw] at hc; cases hc), fun hc => (by rw [hw] at hc; cases hc), ⟨_, hw⟩⟩)
    · rename_i hw
      split at h
      · rename_i heff
        split at h <;> try (cases h; done)
        rename_i H hH
        have hlast := getLast_get hH
        split at h <;> try (cases h; done)
        rename_i v H' tc hop
        refine go v _ _ pend (by simp; omega) (List.prefix_append _ _) (List.prefix_append _ _) (by simp [heff]) (fun p hp => hp) h (fun hs' tcs' h1 h2 _ => ⟨fun hc => (by rw [hw] at hc; cases hc), fun _ _ => ⟨H, H', tc, prefix_get h1 ?_, prefix_get h1 ?_, prefix_get h2 ?_, hop⟩, fun _ hc => (by rw [heff] at hc; cases hc), ⟨_, hw⟩⟩)
        · rw [List.getElem?_append_left (by omega)]; exact hlast
        · rw [List.getElem?_append_right (by omega)]; simp [show hs.length - 1 + 1 - hs.length = 0 from by omega]
        · rw [List.getElem?_append_right (by omega)]; simp [show hs.length - 1 - tcs.length = 0 from by omega]
      · rename_i heff
        split at h <;> try (cases h; done)
        rename_i H hH
        split at h <;> try (cases h; done)
        rename_i v H' tc hop
        split at h <;> try (cases h; done)
        rename_i htc
        obtain ⟨htc, hHl⟩ := htc
        have htc : tc = [] := by simpa using htc
        subst htc
        have fin : ∀ (pend1 : List (Nat × Nat × Nat)), (∀ p ∈ pend, p ∈ pend1) → runDraw env ex base bar r (fput o.dst v fr) hs tcs pend1 = some st' →
            (∀ tcs' : List (List Nat), (∀ p ∈ pend1, clearOf p.1 ((tcs'.take p.2.2).drop p.2.1) = true) → (o.lo = o.hi ∨ readOf o.op (fkeep o.looks fr) = some none ∨ ∃ id, readOf o.op (fkeep o.looks fr) = some (some id) ∧ clearOf id ((tcs'.take o.hi).drop o.lo) = true)) → _ :=
          fun pend1 hpm hrun hcl => go v _ _ pend1 hlen (List.prefix_refl _) (List.prefix_refl _) (by simp [heff]) hpm hrun (fun hs' tcs' h1 h2 h3 => ⟨fun hc => (by rw [hw] at hc; cases hc), fun _ hc => absurd hc heff, fun _ _ => ⟨H, H', prefix_get h1 hH, hop, hHl, hcl tcs' h3⟩, ⟨_, hw⟩⟩)
        split at h
        · rename_i hlh
          exact fin pend (fun p hp => hp) h (fun _ _ => .inl hlh)
        · split at h <;> try (cases h; done)
          · rename_i hr
            exact fin pend (fun p hp => hp) h (fun _ _ => .inr (.inl hr))
          · rename_i id hr
            exact fin _ (fun p hp => List.mem_cons_of_mem _ hp) h (fun tcs' hall => .inr (.inr ⟨id, hr, hall (id, o.lo, o.hi) (by simp)⟩))

theorem fkeep_mem {ts : List Nat} : ∀ {fr : Frame} {t : Nat} {v : AV}, fget t (fkeep ts fr) = some v → t ∈ ts
  | [], t, v, h => by simp [fkeepN, fkeepC, fgetN, fgetC] at h
  | (u, x) :: r, t, v, h => by
    simp only [fkeepN, fkeepC] at h
    split at h
    · rename_i hu
      simp only [fgetN, fgetC] at h
      split at h
      · rename_i he; subst he; simpa using hu
      · exact fkeep_mem h
    · exact fkeep_mem h

theorem aslice_lst {H H2 : Heap} {k : SK} {n : Nat} {e : Bool} {xs : List AV} {lo hi mx : Option AV} : aslice H2 k (.lst n e xs) lo hi mx = aslice H k (.lst n e xs) lo hi mx := by
  cases k <;> rfl
theorem aslice_nils {H H2 : Heap} {k : SK} {lo hi mx : Option AV} : aslice H2 k .nils lo hi mx = aslice H k .nils lo hi mx := by
  cases k <;> rfl
theorem aslice_fp {H H2 : Heap} {k : SK} {x : AV} {lo hi mx : Option AV} : aslice H2 k (.fp x) lo hi mx = aslice H k (.fp x) lo hi mx := by
  cases k <;> first | rfl | (cases x <;> rfl)
theorem aslice_vec {H H2 : Heap} {k : SK} {id ver off len sz : Nat} {lo hi mx : Option AV} (h : H2[id]? = H[id]?) : aslice H2 k (.vec id ver off len sz) lo hi mx = aslice H k (.vec id ver off len sz) lo hi mx := by
  cases k <;> simp only [aslice, h]
theorem aslice_lt {H : Heap} {k : SK} {id ver off len sz : Nat} {lo hi mx : Option AV} {v : AV} (h : aslice H k (.vec id ver off len sz) lo hi mx = some v) : id < H.length := by
  cases hb : H[id]? with
  | some b => exact (List.getElem?_eq_some_iff.1 hb).1
  | none =>
    cases k <;> simp only [aslice, hb] at h <;> repeat' split at h
    all_goals cases h
theorem read_free {env : Env} {ex : Ex} {base bar : Nat} {op : AOp} {fr : Frame} (hr : readOf op fr = some none) {H H' : Heap} {v : AV} (h : aopC env ex true base bar op fr H = some (v, H', [])) (H2 : Heap) :
    aopC env ex true base bar op fr H2 = some (v, H2, []) := by
  cases op <;> simp only [readOf, heapFree, if_true, Bool.false_eq_true, if_false, reduceCtorEq] at hr <;> simp only [aopC, aop] at h ⊢
  case bslice sz cells parts =>
    split at hr <;> try (cases hr; done)
    rename_i vs hvs
    split at hr <;> try (cases hr; done)
    rename_i hnv
    simp only [hvs] at h ⊢
    split at h
    · cases h
    · rename_i htup
      rw [if_neg htup]
      split at h <;> try (cases h; done)
      rename_i vs' H1 hfz
      obtain ⟨rfl, rfl⟩ := (frz_noVec 8 bar).2 _ _ _ _ hnv hfz
      have hfz2 : ∀ H2 : Heap, frzAll bar H2 vs' = some (vs', H2) := fun H2 => frz_id 8 bar hnv hfz H2
      rw [hfz2]
      split at h <;> try (cases h; done)
      rename_i cs hcs
      simp only [hcs]
      split at h
      · cases h
      · rename_i hs
        rw [if_neg hs]
        simp only [hnv, if_true, Option.some.injEq, Prod.mk.injEq, and_true] at h ⊢
        exact h.1
  case load ti a =>
    split at hr <;> try (cases hr; done)
    rename_i x hx
    simp only [hx] at h ⊢
    have : aload H2 ti (.fp x) = aload H ti (.fp x) := rfl
    rw [this]
    split at h <;> simp_all
  case slice k x lo hi mx =>
    split at hr
    · cases hr
    · rename_i n e xs hx
      simp only [hx] at h ⊢
      cases e1 : Opd.evo fr lo <;> cases e2 : Opd.evo fr hi <;> cases e3 : Opd.evo fr mx <;> simp only [e1, e2, e3] at h ⊢ <;> try (cases h; done)
      rw [aslice_lst (H := H)]
      split at h <;> simp_all
    · rename_i y hx
      simp only [hx] at h ⊢
      cases e1 : Opd.evo fr lo <;> cases e2 : Opd.evo fr hi <;> cases e3 : Opd.evo fr mx <;> simp only [e1, e2, e3] at h ⊢ <;> try (cases h; done)
      rw [aslice_fp (H := H)]
      split at h <;> simp_all
    · rename_i hx
      simp only [hx] at h ⊢
      cases e1 : Opd.evo fr lo <;> cases e2 : Opd.evo fr hi <;> cases e3 : Opd.evo fr mx <;> simp only [e1, e2, e3] at h ⊢ <;> try (cases h; done)
      rw [aslice_nils (H := H)]
      split at h <;> simp_all
    · cases hr
  case mlook z ok m k =>
    split at hr <;> try (cases hr; done)
    rename_i hx
    simp only [hx] at h ⊢
    split at h <;> simp_all
  case mlookA ks z ok m k =>
    split at hr <;> try (cases hr; done)
    rename_i hx
    simp only [hx] at h ⊢
    repeat' split at h
    all_goals first
      | (cases h; done)
      | (simp_all; done)
  all_goals
    repeat' split at h
    all_goals first
      | (cases h; done)
      | (simp_all; done)

/-- a read of one block -/
theorem read_blk {env : Env} {ex : Ex} {base bar : Nat} {op : AOp} {fr : Frame} {id : Nat} (hr : readOf op fr = some (some id)) {H H' : Heap} {v : AV} (h : aopC env ex true base bar op fr H = some (v, H', [])) :
    id < H.length ∧ ∀ H2 : Heap, H2[id]? = H[id]? → aopC env ex true base bar op fr H2 = some (v, H2, []) := by
  cases op <;> simp only [readOf, heapFree, if_true, Bool.false_eq_true, if_false, reduceCtorEq, Option.some.injEq] at hr
  case bslice sz cells parts =>
    split at hr
    · split at hr <;> cases hr
    · cases hr
  case load ti a =>
    split at hr
    · rename_i id' ver off hx
      simp only [Option.some.injEq] at hr; subst hr
      simp only [aopC, aop, hx] at h ⊢
      split at h
      · rename_i u hu
        have hidl : id' < H.length := by
          simp only [aload] at hu
          split at hu
          · rename_i hb; exact (List.getElem?_eq_some_iff.1 hb).1
          · cases hu
        refine ⟨hidl, fun H2 hHc => ?_⟩
        have hl2 : aload H2 ti (.ptr id' ver off) = some u := by
          simp only [aload] at hu ⊢
          rw [hHc]; exact hu
        simp only [Option.some.injEq, Prod.mk.injEq] at h
        rw [hl2]
        simp [h.1]
      · cases h
    · cases hr
    · cases hr
  case slice k x lo hi mx =>
    split at hr
    · rename_i id' ver off len sz hx
      simp only [Option.some.injEq] at hr; subst hr
      simp only [aopC, aop, hx] at h ⊢
      cases e1 : Opd.evo fr lo <;> cases e2 : Opd.evo fr hi <;> cases e3 : Opd.evo fr mx <;> simp only [e1, e2, e3] at h ⊢ <;> try (cases h; done)
      split at h <;> try (cases h; done)
      rename_i u hu
      refine ⟨aslice_lt hu, fun H2 hHc => ?_⟩
      rw [aslice_vec hHc, hu]
      simp only [Option.some.injEq, Prod.mk.injEq, and_true] at h ⊢
      exact h.1
    · cases hr
    · cases hr
    · cases hr
    · cases hr
  case mlook z ok m k =>
    split at hr
    · rename_i id' hx
      simp only [Option.some.injEq] at hr; subst hr
      simp only [aopC, aop, hx] at h ⊢
      cases hk : k.ev fr with
      | none => simp [hk] at h
      | some kv =>
        simp only [hk] at h ⊢
        cases kv <;> simp only [reduceCtorEq] at h ⊢
        split at h <;> try (cases h; done)
        rename_i es hid
        refine ⟨(List.getElem?_eq_some_iff.1 hid).1, fun H2 hHc => ?_⟩
        simp only [hHc, hid]
        split at h <;> simp_all
    · cases hr
    · cases hr
  case mlookA ks z ok m k =>
    split at hr
    · rename_i id' hx
      simp only [Option.some.injEq] at hr; subst hr
      simp only [aopC, aop, hx] at h ⊢
      cases hk : k.ev fr with
      | none => simp [hk] at h
      | some kv =>
        simp only [hk] at h ⊢
        cases kv <;> simp only [reduceCtorEq] at h ⊢
        split at h <;> try (cases h; done)
        rename_i hcs
        split at h <;> try (cases h; done)
        rename_i es hid
        refine ⟨(List.getElem?_eq_some_iff.1 hid).1, fun H2 hHc => ?_⟩
        simp only [hHc, hid]
        split at h <;> simp_all
    · cases hr
    · cases hr

/-! ## counting -/
def cnt (n : Nat) (p : Nat → Bool) : Nat := (List.range n).countP p

theorem cnt_congr {n : Nat} {p q : Nat → Bool} (h : ∀ j, j < n → p j = q j) : cnt n p = cnt n q := by
  refine List.countP_congr fun j hj => ?_
  rw [h j (by simpa using hj)]

theorem cnt_le {n : Nat} {p q : Nat → Bool} (h : ∀ j, j < n → p j = true → q j = true) : cnt n p ≤ cnt n q :=
  List.countP_mono_left fun j hj => h j (by simpa using hj)

theorem cnt_insert (e : Nat → Bool) (i : Nat) {S S' : Nat → Bool} (h0 : S i = false) (h1 : S' i = true) (hS : ∀ j, j ≠ i → S' j = S j) : ∀ n, i < n → cnt n (fun j => e j && S' j) = cnt n (fun j => e j && S j) + (if e i then 1 else 0)
  | 0, h => by omega
  | n + 1, h => by
    simp only [cnt, List.range_succ, List.countP_append, List.countP_singleton]
    by_cases hi : i = n
    · subst hi
      have : cnt i (fun j => e j && S' j) = cnt i (fun j => e j && S j) := cnt_congr fun j hj => by rw [hS j (by omega)]
      simp only [cnt] at this
      rw [this, h0, h1]
      simp
    · have := cnt_insert e i h0 h1 hS n (by omega)
      simp only [cnt] at this
      rw [this, hS n (fun e => hi e.symm)]
      omega

theorem effBefore_cnt (l : List AOper) : ∀ i, i ≤ l.length → effBefore l i = cnt l.length (fun j => ((l[j]?).any (·.eff)) && decide (j < i))
  | 0, _ => by
    rw [effBefore_zero]
    have : cnt l.length (fun j => ((l[j]?).any (·.eff)) && decide (j < 0)) = cnt l.length (fun _ => false) := cnt_congr fun j _ => by simp
    rw [this]; simp [cnt]
  | i + 1, h => by
    have hi : i < l.length := by omega
    have h1 := cnt_insert (fun j => (l[j]?).any (·.eff)) i (S := fun j => decide (j < i)) (S' := fun j => decide (j < i + 1)) (by simp) (by simp) (fun j hj => by simp only [decide_eq_decide]; omega) l.length hi
    rw [h1, ← effBefore_cnt l i (by omega)]
    have : l.take (i + 1) = l.take i ++ [l[i]] := by rw [List.take_succ_eq_append_getElem hi]
    simp only [effBefore, this, List.filter_append, List.length_append, List.getElem?_eq_getElem hi, Option.any_some]
    cases hli : l[i].eff <;> simp [hli]

theorem cOpers_get {nt : Nat} {ops : Array Oper} : ∀ {lo : List Oper} {l : List AOper}, cOpers P nt ops lo = some l → l.length = lo.length ∧
    ∀ (i : Nat) (o : Oper), lo[i]? = some o → ∃ g : Option (Nat × Bool), l[i]? = some ({ dst := o.dst, op := (cOp P o.op).getD .bad, guard := g } : AOper) ∧ cGuard ops o.guard = some g ∧ o.dst.all (fun d => Nat.blt d nt) = true
  | [], l, h => by simp [cOpers] at h; subst h; simp
  | o :: r, l, h => by
    simp only [cOpers] at h
    split at h <;> try (cases h; done)
    rename_i g r' hg hr
    split at h <;> try (cases h; done)
    rename_i hd
    simp only [Option.some.injEq] at h; subst h
    obtain ⟨h1, h2⟩ := cOpers_get hr
    refine ⟨by simp [h1], fun i p hp => ?_⟩
    cases i with
    | zero => simp at hp; subst hp; exact ⟨g, by simp, hg, hd⟩
    | succ i => simpa using h2 i p (by simpa using hp)

/-- what is known when some of the operations have run -/
structure DInv (nt base bar : Nat) (ops : Array Oper) (l' : List AOper) (fr0 : Frame) (vals : List AV) (hs : List Heap) (tcs : List (List Nat)) (Γ : Ctx) (H0 : Heap) (listed : Array Bool) (a : Act) (Γc : Ctx) (Hc : Heap) : Prop where
  size : listed.size = ops.size
  closed : ∀ i o, listed.getD i false = true → ops[i]? = some o → ∀ e ∈ o.after.toList, Region.binds .any e = true → listed.getD e.on false = true
  heap : hs[cnt l'.length fun j => ((l'[j]?).any (·.eff)) && listed.getD j false]? = some Hc
  good : Good base bar (List.range H0.length) Γ Γc H0 Hc
  fits : Fits nt Γc (frG (fun i => listed.getD i false) 0 fr0 l' vals) a
  hist : ∀ m, m < (cnt l'.length fun j => ((l'[j]?).any (·.eff)) && listed.getD j false) → ∀ H H' tc, hs[m]? = some H → hs[m + 1]? = some H' → tcs[m]? = some tc → H.length ≤ H'.length ∧ ∀ id, id < H.length → id ∉ tc → H'[id]? = H[id]?

theorem clearOf_mem {id : Nat} : ∀ {l : List (List Nat)}, clearOf id l = true → ∀ tc ∈ l, id ∉ tc
  | [], _, tc, h => by cases h
  | x :: r, h, tc, hm => by
    simp only [clearOf, Bool.and_eq_true] at h
    rcases List.mem_cons.1 hm with rfl | hm
    · simpa using h.1
    · exact clearOf_mem h.2 tc hm

theorem runDraw_sound {env : Env} {ex : Ex} (HF : FunsOK P env) (HK : KnownOK P env) (HE : ExOK P ex) (hmix : P.follows .mixedOrders = true) {A : Ann} {nt base bar id : Nat} {ops : Array Oper} {l l' : List AOper} (hl : cOpers P nt ops ops.toList = some l)
    (hcd : cDraw A id ops l = some l') {st st' : St} (h : runDraw env ex base bar l' st.fr [st.H] [] [] = some st') {Γ : Ctx} {a : Act} (F : Fits nt Γ st.fr a) (s : Sim Γ st.H) (hbase : base ≤ st.H.length) (hbar : bar ≤ base) {Q : Exit → Act → World → Prop}
    (hQ : ∀ (Δ : Ctx) (a' : Act), Fits nt Δ st'.fr a' → Good base bar (List.range st.H.length) Γ Δ st.H st'.H → Q .normal a' Δ.w) : (Code.region id ops true).wp P Q a Γ.w := by
  obtain ⟨hlen0, hget⟩ := cOpers_get hl
  have hlen : l.length = ops.size := by simpa using hlen0
  -- the compiled region
  simp only [cDraw] at hcd
  split at hcd <;> try (cases hcd; done)
  rename_i hfine
  simp only [Option.some.injEq] at hcd
  generalize hB : befs ops.toList [] = B at hcd hfine
  generalize hE : (fun i => ((List.range l.length).map (isEff A id B l)).getD i false) = E at hcd hfine
  have hl'len : l'.length = ops.size := by rw [← hcd]; simp [hlen]
  have hl'get : ∀ i o, ops[i]? = some o → ∃ c, l'[i]? = some c ∧ c.dst = o.dst ∧ c.op = (cOp P o.op).getD .bad ∧ (∃ g, c.guard = g ∧ cGuard ops o.guard = some g) ∧ o.dst.all (fun d => Nat.blt d nt) = true ∧ c.eff = E i ∧
      c.lo = (((List.range l.length).filter E).filter fun j => isBef B j i).length ∧ c.hi = (((List.range l.length).filter E).filter fun j => !isBef B i j).length ∧ c.looks = Oper.looksAt ops o := fun i o ho => by
    obtain ⟨g, h1, h2, h3⟩ := hget i o (by simpa using ho)
    refine ⟨drawOper A id ops l B E ((List.range l.length).filter E) { dst := o.dst, op := (cOp P o.op).getD .bad, guard := g } i, ?_, rfl, rfl, ⟨g, rfl, h2⟩, h3, rfl, rfl, rfl, ?_⟩
    · rw [← hcd, List.getElem?_map, List.getElem?_zipIdx, h1]; simp
    · simp [drawOper, Array.getD_eq_getD_getElem?, ho]
  have heff : ∀ j, j < ops.size → (l'[j]?).any (·.eff) = E j := fun j hj => by
    obtain ⟨c, h1, _, _, _, _, h2, _⟩ := hl'get j ops[j] (Array.getElem?_eq_getElem hj)
    rw [h1, Option.any_some, h2]
  -- edges
  have hf := List.all_eq_true.1 hfine
  have hedge : ∀ i o, ops[i]? = some o → ∀ e ∈ o.after.toList, Region.binds .any e = true → e.on < i := fun i o ho e he hb => by
    have hi : i < ops.size := (Array.getElem?_eq_some_iff.1 ho).1
    have := hf i (by rw [List.mem_range, hlen]; exact hi)
    simp only [Bool.and_eq_true] at this
    have h2 := List.all_eq_true.1 this.1 e (by simpa [Array.getD_eq_getD_getElem?, ho] using he)
    simpa [hb] using h2
  have hpair : ∀ i j, j < i → i < ops.size → isBef B j i = true ∨ (¬ (E i = true ∧ E j = true) ∧ ∀ oi oj, ops[i]? = some oi → ops[j]? = some oj → Oper.apart ops oj oi = true) := fun i j hji hi => by
    have := hf i (by rw [List.mem_range, hlen]; exact hi)
    simp only [Bool.and_eq_true] at this
    have h2 := List.all_eq_true.1 this.2 j (by simpa using hji)
    simp only [Bool.or_eq_true, Bool.and_eq_true, Bool.not_eq_true', Bool.and_eq_false_iff] at h2
    rcases h2 with h2 | ⟨h2, h3⟩
    · exact .inl h2
    · refine .inr ⟨fun ⟨h4, h5⟩ => ?_, fun oi oj hoi hoj => ?_⟩
      · rcases h2 with h2 | h2 <;> simp_all
      · simpa [Array.getD_eq_getD_getElem?, hoi, hoj] using h3
  have hbef : ∀ {listed : Array Bool}, (∀ i o, listed.getD i false = true → ops[i]? = some o → ∀ e ∈ o.after.toList, Region.binds .any e = true → listed.getD e.on false = true) →
      ∀ i j o, ops[i]? = some o → (∀ e ∈ o.after.toList, Region.binds .any e = true → listed.getD e.on false = true) → isBef B j i = true → listed.getD j false = true := fun {listed} hc i => by
    induction i using Nat.strongRecOn with
    | _ i ih =>
      intro j o ho hall hb
      rw [← hB] at hb
      obtain ⟨e, he, hbd, hor⟩ := (isBef_iff ho (hedge i o ho)).1 hb
      have hon := hall e he hbd
      rcases hor with rfl | hor
      · exact hon
      · have hlt := hedge i o ho e he hbd
        have hi : i < ops.size := (Array.getElem?_eq_some_iff.1 ho).1
        have hoe : ops[e.on]? = some (ops[e.on]'(by omega)) := Array.getElem?_eq_getElem _
        exact ih e.on hlt j _ hoe (hc e.on _ hon hoe) (by rw [← hB]; exact hor)
  -- the run in the order of the text
  obtain ⟨vals, hs, tcs, t1, t2, t3, t4, t5, t6, t7, _, t9⟩ := runDraw_trace l' st.fr [st.H] [] [] st' rfl h
  have hs0 : hs[0]? = some st.H := prefix_get t2 (by simp)
  have hn : l.length = ops.size := hlen
  have fin : ∀ (listed : Array Bool) (a : Act) (Γc : Ctx) (Hc : Heap), DInv nt base bar ops l' st.fr vals hs tcs Γ st.H listed a Γc Hc → (∀ j, j < ops.size → listed.getD j false = true) → Q .normal a Γc.w := fun listed a Γc Hc I hall => by
    have hk : (cnt l'.length fun j => ((l'[j]?).any (·.eff)) && listed.getD j false) = (l'.filter (·.eff)).length := by
      have h1 := effBefore_cnt l' l'.length (Nat.le_refl _)
      simp only [effBefore, List.take_length] at h1
      rw [h1]
      exact cnt_congr fun j hj => by simp [hall j (by omega), hj]
    have hH : Hc = st'.H := by
      have h1 := I.heap
      rw [hk] at h1
      have h2 := getLast_get t5
      have : hs.length - 1 = (l'.filter (·.eff)).length := by rw [t6]; simp
      rw [this, h1] at h2
      simpa using h2
    subst hH
    refine hQ Γc a ⟨fun t v hv => I.fits.fr t v ?_, I.fits.size, I.fits.defers, I.fits.glob⟩ I.good
    rw [← hv, t7]
    refine frG_congr l' vals 0 _ _ rfl fun i o ho hne => ?_
    have : i < l'.length := (List.getElem?_eq_some_iff.1 ho).1
    exact absurd (by simp [hall i (by omega)]) hne
  have hready : ∀ (listed : Array Bool), listed.size = ops.size → ∀ i, i ∈ Region.ready .any ops listed ↔ i < ops.size ∧ listed.getD i false = false ∧ ∀ o, ops[i]? = some o → ∀ e ∈ o.after.toList, Region.binds .any e = true → listed.getD e.on false = true := fun listed hsz i => by
    simp only [Region.ready, List.mem_filter, List.mem_range, Bool.and_eq_true, Bool.not_eq_true']
    refine and_congr_right fun hi => ?_
    have hl : listed.getD i true = listed.getD i false := by simp [Array.getD_eq_getD_getElem?, Array.getElem?_eq_getElem (show i < listed.size by omega)]
    rw [hl, Array.getElem?_eq_getElem hi]
    refine and_congr_right fun _ => ?_
    simp only [Option.map_some, Option.getD_some, Option.some.injEq, forall_eq']
    rw [← Array.all_toList, List.all_eq_true]
    refine forall_congr' fun e => forall_congr' fun he => ?_
    cases Region.binds .any e <;> simp
  have hdone : ∀ (listed : Array Bool), listed.size = ops.size → Region.ready .any ops listed = [] → ∀ j, j < ops.size → listed.getD j false = true := fun listed hsz hr j => by
    induction j using Nat.strongRecOn with
    | _ j ih =>
      intro hj
      cases hl : listed.getD j false with
      | true => rfl
      | false =>
        have : j ∈ Region.ready .any ops listed := (hready listed hsz j).2 ⟨hj, hl, fun o ho e he hb => ih e.on (hedge j o ho e he hb) (by have := hedge j o ho e he hb; omega)⟩
        rw [hr] at this; cases this
  have key : ∀ (fuel : Nat) (listed : Array Bool) (a : Act) (Γc : Ctx) (Hc : Heap), DInv nt base bar ops l' st.fr vals hs tcs Γ st.H listed a Γc Hc → cnt ops.size (fun j => true && listed.getD j false) + fuel = ops.size → wpAny P .any ops Q fuel listed a Γc.w := by
    intro fuel
    induction fuel with
    | zero =>
      intro listed a Γc Hc I hc
      have hall : ∀ j, j < ops.size → listed.getD j false = true := fun j hj => by
        cases hl : listed.getD j false with
        | true => rfl
        | false =>
          exfalso
          have h1 := cnt_insert (fun _ => true) j (S := fun j => listed.getD j false) (S' := fun i => if i = j then true else listed.getD i false) hl (by simp) (fun i hi => by simp [hi]) ops.size hj
          have h2 : cnt ops.size (fun i => true && (if i = j then true else listed.getD i false)) ≤ ops.size := by
            have := List.countP_le_length (p := fun i => true && (if i = j then true else listed.getD i false)) (l := List.range ops.size)
            simpa [cnt] using this
          simp only [if_true] at h1
          omega
      refine ⟨?_, fin listed a Γc Hc I hall⟩
      apply List.eq_nil_iff_forall_not_mem.2
      intro i hi
      obtain ⟨h1, h2, _⟩ := (hready listed I.size i).1 hi
      rw [hall i h1] at h2; cases h2
    | succ fuel ih =>
      intro listed a Γc Hc I hc
      refine ⟨fun hr => fin listed a Γc Hc I (hdone listed I.size hr), fun i hi => ?_⟩
      obtain ⟨hin, hDi, hedges⟩ := (hready listed I.size i).1 hi
      have ho : ops[i]? = some ops[i] := Array.getElem?_eq_getElem hin
      generalize ops[i] = o at ho
      have hedg2 := hedges o ho
      obtain ⟨c, hc1, hc2, hc3, ⟨g, hc4, hc5⟩, hc6, hc7, hc8, hc9, hc10⟩ := hl'get i o ho
      obtain ⟨v, hv1, S1⟩ := t9 i c hc1
      simp only [List.length_singleton, Nat.sub_self, Nat.zero_add] at S1
      have b1 : ∀ j, isBef B j i = true → listed.getD j false = true := fun j hb => hbef I.closed i j o ho hedg2 hb
      have b2 : ∀ j, listed.getD j false = true → j < ops.size → isBef B i j = false := fun j hj hjn => by
        cases hb : isBef B i j with
        | false => rfl
        | true =>
          have hoj : ops[j]? = some ops[j] := Array.getElem?_eq_getElem hjn
          rw [hbef I.closed j i _ hoj (I.closed j _ hj hoj) hb] at hDi; cases hDi
      -- what it reads
      have Fs : Fits nt Γc (fkeep c.looks (frG (fun j => decide (j < i)) 0 st.fr l' vals)) a := ⟨fun t x hx => by
        have htl := fkeep_mem hx
        rw [hc10] at htl
        have hx1 := fget_fkeep _ _ _ _ hx
        refine I.fits.fr t x ?_
        rw [← hx1]
        refine frG_congr l' vals 0 _ _ rfl fun j p hp hne => ?_
        simp only [Nat.zero_add] at hne
        have hjn : j < ops.size := by rw [← hl'len]; exact (List.getElem?_eq_some_iff.1 hp).1
        have hoj : ops[j]? = some ops[j] := Array.getElem?_eq_getElem hjn
        obtain ⟨q, q1, q2, _⟩ := hl'get j _ hoj
        rw [hp] at q1
        simp only [Option.some.injEq] at q1; subst q1
        rw [q2]
        by_cases hji : j < i
        · have hDj : listed.getD j false = false := by simpa [hji] using hne
          rcases hpair i j hji hin with hb | ⟨_, hap⟩
          · rw [b1 j hb] at hDj; cases hDj
          · exact fun hd => (Oper.apart_spec (hap o _ ho hoj)).1 t hd htl
        · have hDj : listed.getD j false = true := by simpa [hji] using hne
          have hne' : j ≠ i := by rintro rfl; rw [hDi] at hDj; cases hDj
          rcases hpair j i (by omega) hjn with hb | ⟨_, hap⟩
          · rw [b2 j hDj hjn] at hb; cases hb
          · exact fun hd => (Oper.apart_spec (hap _ o hoj ho)).2.2 t hd htl, I.fits.size, I.fits.defers, I.fits.glob⟩
      have hD' : ∀ j, (listed.setIfInBounds i true).getD j false = if j = i then true else listed.getD j false := fun j => by
        simp only [Array.getD_eq_getD_getElem?]
        by_cases hji : j = i
        · subst hji
          rw [if_pos rfl, Array.getElem?_setIfInBounds_self_of_lt (by rw [I.size]; exact hin)]; rfl
        · rw [if_neg hji, Array.getElem?_setIfInBounds_ne (Ne.symm hji)]
      -- the frame behind it
      have hfr : ∀ t, fget t (frG (fun j => (listed.setIfInBounds i true).getD j false) 0 st.fr l' vals) = fget t (fput o.dst v (frG (fun j => listed.getD j false) 0 st.fr l' vals)) := fun t => by
        rw [fget_fput]
        by_cases hdt : o.dst = some t
        · rw [if_pos hdt]
          refine frG_last l' vals 0 st.fr i c v hc1 hv1 (by simp [hD']) (by rw [hc2]; exact hdt) fun j p hj hp hS => ?_
          have hjn : j < ops.size := by rw [← hl'len]; exact (List.getElem?_eq_some_iff.1 hp).1
          have hoj : ops[j]? = some ops[j] := Array.getElem?_eq_getElem hjn
          obtain ⟨q, q1, q2, _⟩ := hl'get j _ hoj
          rw [hp] at q1
          simp only [Option.some.injEq] at q1; subst q1
          rw [q2]
          have hDj : listed.getD j false = true := by
            rw [Nat.zero_add, hD', if_neg (by omega)] at hS; exact hS
          rcases hpair j i hj hjn with hb | ⟨_, hap⟩
          · rw [b2 j hDj hjn] at hb; cases hb
          · exact (Oper.apart_spec (hap _ o hoj ho)).2.1 t hdt
        · rw [if_neg hdt]
          refine frG_congr l' vals 0 _ _ rfl fun j p hp hne => ?_
          by_cases hji : j = i
          · subst hji
            rw [hc1] at hp
            simp only [Option.some.injEq] at hp; subst hp
            rw [hc2]; exact hdt
          · exact absurd (by rw [Nat.zero_add, hD', if_neg hji]) hne
      have hE : (l'[i]?).any (·.eff) = c.eff := by rw [hc1]; rfl
      have hcnt : (cnt l'.length fun j => ((l'[j]?).any (·.eff)) && (listed.setIfInBounds i true).getD j false) = (cnt l'.length fun j => ((l'[j]?).any (·.eff)) && listed.getD j false) + (if c.eff then 1 else 0) := by
        have := cnt_insert (fun j => (l'[j]?).any (·.eff)) i (S := fun j => listed.getD j false) (S' := fun j => (listed.setIfInBounds i true).getD j false) hDi (by simp [hD']) (fun j hj => by simp [hD', hj]) l'.length (by omega)
        rw [this, hE]
      have hcnt2 : cnt ops.size (fun j => true && (listed.setIfInBounds i true).getD j false) + fuel = ops.size := by
        have := cnt_insert (fun _ => true) i (S := fun j => listed.getD j false) (S' := fun j => (listed.setIfInBounds i true).getD j false) hDi (by simp [hD']) (fun j hj => by simp [hD', hj]) ops.size hin
        simp only [if_true] at this
        omega
      have hclosed : ∀ j p, (listed.setIfInBounds i true).getD j false = true → ops[j]? = some p → ∀ e ∈ p.after.toList, Region.binds .any e = true → (listed.setIfInBounds i true).getD e.on false = true := fun j p hj hp e he hb => by
        rw [hD'] at hj ⊢
        by_cases hji : j = i
        · subst hji
          rw [ho] at hp
          simp only [Option.some.injEq] at hp; subst hp
          split
          · rfl
          · exact hedg2 e he hb
        · rw [if_neg hji] at hj
          split
          · rfl
          · exact I.closed j p hj hp e he hb
      -- on with the rest
      have next : ∀ (Δ : Ctx) (v' : Value) (Hn : Heap) (tc : List Nat), VR Δ v v' → Good base bar (List.range Hc.length) Γc Δ Hc Hn → (c.eff = false → Hn = Hc) →
          (c.eff = true → hs[(cnt l'.length fun j => ((l'[j]?).any (·.eff)) && listed.getD j false) + 1]? = some Hn ∧
            ∀ H H' tc', hs[cnt l'.length fun j => ((l'[j]?).any (·.eff)) && listed.getD j false]? = some H → hs[(cnt l'.length fun j => ((l'[j]?).any (·.eff)) && listed.getD j false) + 1]? = some H' → tcs[cnt l'.length fun j => ((l'[j]?).any (·.eff)) && listed.getD j false]? = some tc' →
              H.length ≤ H'.length ∧ ∀ id, id < H.length → id ∉ tc' → H'[id]? = H[id]?) → wpAny P .any ops Q fuel (listed.setIfInBounds i true) (a.put o.dst v') Δ.w := fun Δ v' Hn tc hvv hg hne hef => by
        refine ih _ _ Δ Hn ⟨by simp [I.size], hclosed, ?_, (I.good.trans hg).any (fun j hj hjl => by simpa using hjl), ?_, ?_⟩ hcnt2
        · rw [hcnt]
          cases hce : c.eff with
          | true => simpa using (hef hce).1
          | false => rw [hne hce]; simpa using I.heap
        · have := (I.fits.mono hg.evo).put hc6 hvv
          exact ⟨fun t x hx => this.fr t x (by rw [← hfr t]; exact hx), this.size, this.defers, this.glob⟩
        · intro m hm H H' tc' h1 h2 h3
          rw [hcnt] at hm
          cases hce : c.eff with
          | true =>
            rw [hce] at hm
            simp only [if_true] at hm
            rcases Nat.lt_or_ge m (cnt l'.length fun j => ((l'[j]?).any (·.eff)) && listed.getD j false) with hlt | hge
            · exact I.hist m hlt H H' tc' h1 h2 h3
            · obtain rfl : m = _ := Nat.le_antisymm (by omega) hge
              exact (hef hce).2 H H' tc' h1 h2 h3
          | false =>
            rw [hce] at hm
            simp only [Bool.false_eq_true, if_false, Nat.add_zero] at hm
            exact I.hist m hm H H' tc' h1 h2 h3
      have hkeff : c.eff = true → effBefore l' i = cnt l'.length fun j => ((l'[j]?).any (·.eff)) && listed.getD j false := fun hce => by
        rw [effBefore_cnt l' i (by omega)]
        refine cnt_congr fun j hj => ?_
        have hjn : j < ops.size := by omega
        rw [heff j hjn]
        cases hEj : E j with
        | false => rfl
        | true =>
          simp only [Bool.true_and]
          rw [hc7] at hce
          by_cases hji : j < i
          · rcases hpair i j hji hin with hb | ⟨hno, _⟩
            · simp [hji, b1 j hb]
            · exact absurd ⟨hce, hEj⟩ hno
          · by_cases hje : j = i
            · subst hje; simp [hDi]
            · cases hDj : listed.getD j false with
              | false => simp [hji]
              | true =>
                rcases hpair j i (by omega) hjn with hb | ⟨hno, _⟩
                · rw [b2 j hDj hjn] at hb; cases hb
                · exact absurd ⟨hEj, hce⟩ hno
      have hop : ∀ {p : Bool} {H H' : Heap} {v : AV} {tc : List Nat}, aopC env ex p base bar c.op (fkeep c.looks (frG (fun j => decide (j < i)) 0 st.fr l' vals)) H = some (v, H', tc) → cOp P o.op = some c.op := fun {p H H' v tc} h => by
        rw [hc3] at h ⊢
        cases hco : cOp P o.op with
        | none => rw [hco] at h; simp [aopC, aop] at h
        | some x => rfl
      simp only [wpOp, ho]
      obtain ⟨w, hw⟩ := S1.some
      have hwant := want_sound Fs (by rw [hc4]; exact hc5) hw
      have hHbase : base ≤ Hc.length := Nat.le_trans hbase I.good.len
      cases w with
      | false =>
        rw [if_neg (by rw [hwant]; simp)]
        obtain ⟨rfl, hsk⟩ := S1.skip hw
        refine next Γc undef Hc [] undef_VR (Good.refl I.good.sim) (fun _ => rfl) (fun hce => ?_)
        obtain ⟨H, h1, h2⟩ := hsk hce
        rw [hkeff hce] at h1 h2
        have hI := I.heap
        rw [h1] at hI
        simp only [Option.some.injEq] at hI; subst hI
        refine ⟨h2, fun H1 H2 tc' e1 e2 _ => ?_⟩
        rw [h1] at e1; rw [h2] at e2
        simp only [Option.some.injEq] at e1 e2; subst e1 e2
        exact ⟨Nat.le_refl _, fun _ _ _ => rfl⟩
      | true =>
        rw [if_pos hwant]
        left
        cases hce : c.eff with
        | true =>
          obtain ⟨H, H', tc, h1, h2, h3, h4⟩ := S1.eff hw hce
          rw [hkeff hce] at h1 h2 h3
          have hI := I.heap
          rw [h1] at hI
          simp only [Option.some.injEq] at hI; subst hI
          refine aopC_sound HF HK HE Fs I.good.sim hHbase hbar (hop h4) h4 fun Δ v' hvv hg => ?_
          refine next Δ v' H' tc hvv hg.all (fun hf => by rw [hce] at hf; cases hf) (fun _ => ⟨h2, fun H1 H2 tc' e1 e2 e3 => ?_⟩)
          rw [h1] at e1; rw [h2] at e2; rw [h3] at e3
          simp only [Option.some.injEq] at e1 e2 e3; subst e1 e2 e3
          exact ⟨hg.len, hg.tc⟩
        | false =>
          obtain ⟨H, H', h1, h4, h5, h6⟩ := S1.read hw hce
          -- between the earliest heap and this one
          have hlo : c.lo ≤ cnt l'.length fun j => ((l'[j]?).any (·.eff)) && listed.getD j false := by
            rw [hc8, List.filter_filter, ← List.countP_eq_length_filter, hn, ← hl'len]
            refine cnt_le fun j hj hp => ?_
            simp only [Bool.and_eq_true] at hp
            rw [heff j (by omega), hp.2, b1 j hp.1]; rfl
          have hhi : (cnt l'.length fun j => ((l'[j]?).any (·.eff)) && listed.getD j false) ≤ c.hi := by
            rw [hc9, List.filter_filter, ← List.countP_eq_length_filter, hn, ← hl'len]
            refine cnt_le fun j hj hp => ?_
            simp only [Bool.and_eq_true] at hp
            rw [heff j (by omega)] at hp
            rw [b2 j hp.2 (by omega), hp.1]; rfl
          have same : ∀ {Hn : Heap} {Δ : Ctx}, Good base bar [] Γc Δ Hc Hn → Hn.length = Hc.length → Hn = Hc := fun {Hn Δ} hg hl => by
            refine List.ext_getElem? fun id => ?_
            rcases Nat.lt_or_ge id Hc.length with hlt | hge
            · exact hg.tc id hlt (by simp)
            · rw [List.getElem?_eq_none hge, List.getElem?_eq_none (by omega)]
          have fin2 : ∀ {Hn : Heap}, aopC env ex true base bar c.op (fkeep c.looks (frG (fun j => decide (j < i)) 0 st.fr l' vals)) Hc = some (v, Hn, []) → Hn.length = Hc.length → o.wp P a Γc.w (wpAny P .any ops Q fuel (listed.setIfInBounds i true)) Q := fun {Hn} hrun hl => by
            refine aopC_sound HF HK HE Fs I.good.sim hHbase hbar (hop hrun) hrun fun Δ v' hvv hg => ?_
            exact next Δ v' Hn [] hvv hg.all (fun _ => same hg hl) (fun hf => by rw [hce] at hf; cases hf)
          rcases h6 with hlh | hfree | ⟨id, hrd, hclr⟩
          · have : (cnt l'.length fun j => ((l'[j]?).any (·.eff)) && listed.getD j false) = c.lo := by omega
            have hI := I.heap
            rw [this, h1] at hI
            simp only [Option.some.injEq] at hI; subst hI
            exact fin2 h4 h5
          · exact fin2 (read_free hfree h4 Hc) rfl
          · -- a load: its block has not been touched since
            have hsame : ∀ m, c.lo ≤ m → m ≤ (cnt l'.length fun j => ((l'[j]?).any (·.eff)) && listed.getD j false) → ∀ Hm, hs[m]? = some Hm → id < H.length → Hm[id]? = H[id]? ∧ H.length ≤ Hm.length := by
              intro m hm
              induction m with
              | zero =>
                intro _ Hm hHm _
                have : c.lo = 0 := by omega
                rw [this, hHm] at h1
                simp only [Option.some.injEq] at h1; subst h1
                exact ⟨rfl, Nat.le_refl _⟩
              | succ m ihm =>
                intro hmk Hm hHm hid
                rcases Nat.lt_or_ge m c.lo with hlt | hge
                · have : c.lo = m + 1 := by omega
                  rw [this, hHm] at h1
                  simp only [Option.some.injEq] at h1; subst h1
                  exact ⟨rfl, Nat.le_refl _⟩
                · have hml : m < hs.length := by
                    have := (List.getElem?_eq_some_iff.1 hHm).1; omega
                  have hmt : m < tcs.length := by
                    have := (List.getElem?_eq_some_iff.1 hHm).1; omega
                  have g1 := List.getElem?_eq_getElem hml
                  have g2 := List.getElem?_eq_getElem hmt
                  obtain ⟨x1, x2⟩ := ihm hge (by omega) _ g1 hid
                  obtain ⟨y1, y2⟩ := I.hist m (by omega) _ _ _ g1 hHm g2
                  have hnot : id ∉ tcs[m] := by
                    refine clearOf_mem hclr _ ?_
                    apply List.mem_of_getElem? (i := m - c.lo)
                    rw [List.getElem?_drop, List.getElem?_take, if_pos (by omega), show c.lo + (m - c.lo) = m from by omega]
                    exact g2
                  exact ⟨(y2 id (by omega) hnot).trans x1, by omega⟩
            obtain ⟨hidl, hrd2⟩ := read_blk hrd h4
            exact fin2 (Hn := Hc) (hrd2 Hc (hsame _ hlo (Nat.le_refl _) Hc I.heap hidl).1) rfl
  refine wp_region_any hmix ?_
  have g0 := Good.drew (base := base) (bar := bar) (w' := { Γ.w with drawn := Γ.w.drawn + 1 }) s rfl rfl rfl rfl
  have hz : ∀ j, (Array.replicate ops.size false).getD j false = false := fun j => by
    rw [Array.getD_eq_getD_getElem?, Array.getElem?_replicate]
    split <;> rfl
  have c0 : ∀ (n : Nat) (p : Nat → Bool), cnt n (fun j => p j && (Array.replicate ops.size false).getD j false) = 0 := fun n p => by
    have : cnt n (fun j => p j && (Array.replicate ops.size false).getD j false) = cnt n (fun _ => false) := cnt_congr fun j _ => by rw [hz]; simp
    rw [this]; simp [cnt]
  refine key ops.size (Array.replicate ops.size false) a { Γ with w := { Γ.w with drawn := Γ.w.drawn + 1 } } st.H ⟨by simp, fun i o hi => (by rw [hz] at hi; cases hi), ?_, g0.all, ?_, ?_⟩ (by rw [c0]; omega)
  · rw [c0]; exact hs0
  · rw [frG_none hz]
    exact F.mono g0.evo
  · intro m hm
    rw [c0] at hm; omega

end Go.Ab
