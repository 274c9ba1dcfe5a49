/-
  Parts of the proofs about this chapter, joined: contracts of functions and plain laws.
-/
import Derived.Test.YtnlebofipoepfaaK7
set_option linter.all false
section
namespace Go.Proofs.Ytnlebofipoepfaa.Code
open Go Go.Ab
variable {pure : Bool} {base bar : Nat} {H : Heap} {Q : AV → Heap → Prop}

theorem k33e {n : Int} {q : AV} {l : List ZZ} (hq : isP q l) (hl : l.length < 1000) (hc : checkS n l ≠ 0) (hbar : bar ≤ H.length) (h : Q (.tup [.nils, .int .i64 (checkS n l)]) H) : WpCall E pure base bar 33 [.agg [.int .i64 n, q]] H Q := by
  rw [call33]
  have hb' := bar_ok (pure := pure) hbar
  have e0 : H ++ [.row 0 [.int .i64 n, q] 0 true] = HI H n q := rfl
  simp [go_sem, WpFun, c33, hq.frz, e0, HI_h] at hb' ⊢
  refine k56 hq hl (by rw [HI_len]; omega) (fun _ => ?_) (fun m _ _ _ hc' => absurd hc' hc)
  simp [go_sem, hc, HI_take]
  exact h
section
variable {n : Nat} {w g : Nat → Nat}
theorem k33g {n : Nat} {q : AV} {l : List ZZ} {g : Nat → Nat} (hq : isP q l) (hl : l.length < 1000) (hm : OkC n l) (hg : ReachW (boardF l fun _ => 0) g) (hbar : bar ≤ H.length)
    (h : ∀ v, isLL v (groupsT g 8 (pw n - 1)) → Q (.tup [v, .int .i64 0]) H) : WpCall E pure base bar 33 [.agg [.int .i64 (n : Nat), q]] H Q := by
  rw [call33]
  have hb' := bar_ok (pure := pure) hbar
  have hbd := hm.board.1
  have lh : aload (H ++ [Blk.row 0 [.int .i64 (n : Nat), q] 0 true]) ⟨true, 2⟩ (.ptr H.length 0 0) = some (.agg [.int .i64 (n : Nat), q]) := by simp [aload, own_get0, Ab.part]
  simp [go_sem, WpFun, c33, hq.frz, lh] at hb' ⊢
  generalize (if pure = true then H.length else bar) = bar' at hb' ⊢
  refine k56 hq hl (by simp; omega) (fun hc => absurd hm.check hc) (fun m hnm _ _ _ => ?_)
  obtain rfl : n = m := by omega
  have hid : (H ++ [Blk.row 0 [AV.int IntKind.i64 (n : Nat), q] 0 true, Blk.row 0 (bcells n (boardF l fun _ => 0)) 0 true])[H.length + 1]? = some (.row 0 (bcells n (boardF l fun _ => 0)) 0 true) := by simp [own_get]
  have h1 : 1 ≤ pw n := Nat.one_le_two_pow
  simp [go_sem, k59 hid hm.le]
  refine l33 (k0 := H.length + 2) hid hbd hg (by simp) (by omega) (by omega) (by omega) 8 (pw n - 1) [] [] .nils _ (by omega) (bits_len _) (by simp) (fun _ _ => rfl) Own.nil trivial (by simp) fun vs' ov' Hc' hs hlen ho' ha' => ?_
  obtain ⟨H2, f1, f2, f3, f4⟩ := ho'.frz (d := 5) (bar := bar') (by decide) (Nat.one_dvd _) ha'.plain (by omega)
  rw [show 5 + 3 = 8 from rfl] at f1
  have e3 : H2.take H.length = H := by
    apply List.ext_getElem?
    intro j
    rw [List.getElem?_take]
    by_cases hj : j < H.length
    · rw [if_pos hj, f4 j (fun hc => by have := (ho'.lt hc).1; omega), hs j (by omega), List.getElem?_append_left hj]
    · rw [if_neg hj, List.getElem?_eq_none (by omega)]
  have hv := isLL.out ha'
  simp [go_sem, f1, hv.top, e3]
  exact h _ (by simpa using hv)
end

/-! 37: are two lists of lists alike -/
theorem l37 {a b : AV} {A B : List (List Nat)} (ha : isLL a A) (hb : isLL b B) (hA : A.length < 1000) (hAB : A.length = B.length) (hAl : ∀ l ∈ A, l.length < 1000) (hBl : ∀ l ∈ B, l.length < 1000) {R : PQ} : ∀ (k i : Nat), i + k = A.length →
    (A.drop i ≠ B.drop i → R .ret [(4, .bool false)] H) →
    (A.drop i = B.drop i → R (.exit 0) [(0, a), (1, b), (5, .int .i64 (A.length : Nat)), (14, .bool false)] H) →
    Wp E base bar (.loop c37_l0) [(0, a), (1, b), (5, .int .i64 (i : Nat))] H R := by
  intro k
  induction k with
  | zero =>
    intro i hi h1 h2
    obtain rfl : i = A.length := by omega
    rw [wp_round c37_l0.eq_1]
    simp [go_sem, ha.len]
    exact h2 (by rw [List.drop_length, List.drop_eq_nil_of_le (by omega)])
  | succ k ih =>
    intro i hi h1 h2
    have hlt : i < A.length := by omega
    have hlt2 : i < B.length := by omega
    obtain ⟨u, hu1, hu2⟩ := isLL_ix ha hlt
    obtain ⟨v, hv1, hv2⟩ := isLL_ix hb hlt2
    rw [List.drop_eq_getElem_cons hlt, List.drop_eq_getElem_cons hlt2] at h1 h2
    have hul := hAl _ (List.getElem_mem hlt)
    have hvl := hBl _ (List.getElem_mem hlt2)
    rw [wp_round c37_l0.eq_1]
    simp [go_sem, ha.len, hlt, hu2, hv2, aload_fpL hu1, aload_fpL hv1]
    refine k22 hu1 hv1 (by omega) (by omega) ?_
    by_cases he : A[i] = B[i]
    · simp [go_sem, he, i64_suc (show i < 1000000 by omega), hu1.noVec, hv1.noVec]
      exact ih (i + 1) (by omega) (fun hne => h1 fun hc => hne (List.cons.inj hc).2) fun heq => h2 (by rw [he, heq])
    · simp [go_sem, he, hu1.noVec, hv1.noVec]
      exact h1 fun hc => he (List.cons.inj hc).1
theorem k37 {a b : AV} {A B : List (List Nat)} (ha : isLL a A) (hb : isLL b B) (hA : A.length < 1000) (hB : B.length < 1000) (hAl : ∀ l ∈ A, l.length < 1000) (hBl : ∀ l ∈ B, l.length < 1000) (h : Q (.bool (decide (A = B))) H) : WpCall E pure base bar 37 [a, b] H Q := by
  rw [call37]
  simp [go_sem, WpFun, c37, ha.frz, hb.frz, ha.len, hb.len, natEq]
  by_cases hl : A.length = B.length
  · simp [go_sem, hl]
    refine l37 ha hb hA hl hAl hBl A.length 0 (by omega) (fun hne => ?_) fun heq => ?_
    · rw [List.drop_zero, List.drop_zero] at hne
      rw [decide_eq_false hne] at h
      simp [go_sem]
      exact h
    · rw [List.drop_zero, List.drop_zero] at heq
      rw [decide_eq_true heq] at h
      simp [go_sem]
      exact h
  · have hne : A ≠ B := fun he => hl (by rw [he])
    rw [decide_eq_false hne] at h
    simp [go_sem, hl]
    exact h
end Go.Proofs.Ytnlebofipoepfaa.Code
end

section
namespace Go.Proofs.Ytnlebofipoepfaa.Code
open Go Go.Ab
variable {pure : Bool} {base bar : Nat} {H : Heap} {Q : AV → Heap → Prop}

/-! 34: the reference's groups -/
def cntR (f : Nat → Nat → Bool) (n a b : Nat) : Nat := ((List.range b).filter (reachR f n a (n - 1))).length
def grpR (f : Nat → Nat → Bool) (n r a : Nat) : List Nat := (List.range a).filter fun x => cntR f n x n == r
def grpsR (f : Nat → Nat → Bool) (n : Nat) : Nat → List (List Nat)
  | 0 => []
  | r + 1 => (if grpR f n (r + 1) n = [] then [] else [grpR f n (r + 1) n]) ++ grpsR f n r
theorem grpsR_len {f : Nat → Nat → Bool} {n : Nat} : ∀ r, (grpsR f n r).length ≤ r
  | 0 => by simp [grpsR]
  | r + 1 => by
    have := grpsR_len (f := f) (n := n) r
    unfold grpsR
    split <;> simp <;> omega
theorem cntR_le {f : Nat → Nat → Bool} {n a b : Nat} : cntR f n a b ≤ b := Nat.le_trans (List.length_filter_le _ _) (by simp)
section
variable {n : Nat} {q : AV} {l : List ZZ} {H0 : Heap}
theorem l34a {ov gv : AV} {r a : Nat} (hq : isP q l) (hl : l.length < 1000) (hn : n ≤ 7) (hd : ∀ x y, bitL l x y = true → x < n ∧ y < n) (ha : a < n) {Hc : Heap} (hp : Pre H0 n q Hc) (hbar : bar ≤ H0.length) {R : PQ} :
    ∀ (k b : Nat), b + k = n →
    R (.exit 4) [(1, .ptr H0.length 0 0), (5, ov), (6, .int .i64 (r : Nat)), (7, gv), (8, .int .i64 (a : Nat)), (9, .int .i64 (cntR (bitL l) n a n : Nat)), (10, .int .i64 (n : Nat)), (31, .bool false)] Hc →
    Wp E base bar (.loop c34_l0) [(1, .ptr H0.length 0 0), (5, ov), (6, .int .i64 (r : Nat)), (7, gv), (8, .int .i64 (a : Nat)), (9, .int .i64 (cntR (bitL l) n a b : Nat)), (10, .int .i64 (b : Nat))] Hc R := by
  have hpl := hp.1
  intro k
  induction k with
  | zero =>
    intro b hb h
    obtain rfl : b = n := by omega
    rw [wp_round c34_l0.eq_1]
    simp [go_sem, hp.n]
    exact h
  | succ k ih =>
    intro b hb h
    have hlt : b < n := by omega
    have hz := i64_suc (show b < 1000000 by omega)
    have hcl := cntR_le (f := bitL l) (n := n) (a := a) (b := b)
    have hst : cntR (bitL l) n a (b + 1) = cntR (bitL l) n a b + if reachR (bitL l) n a (n - 1) b = true then 1 else 0 := by
      unfold cntR
      rw [List.range_succ, List.filter_append, List.length_append]
      cases hc : reachR (bitL l) n a (n - 1) b <;> simp [hc]
    have hiff := chainF_iff hd ha (most := n - 1) (b := b)
    rw [show n - 1 + 1 = n by omega] at hiff
    have next := ih (b + 1) (by omega) h
    rw [hst] at next
    rw [wp_round c34_l0.eq_1]
    simp [go_sem, hp.n, hlt, hp.h]
    refine k60 (most := n) hq hl hn hn (by omega) (fun v hv hvn hc => ?_) fun hc => ?_
    · rw [hiff.1 hc] at next
      simp [go_sem, eqWp_nil hv hvn, hz, i64_suc (show cntR (bitL l) n a b < 1000000 by omega)] at next ⊢
      exact next
    · rw [show reachR (bitL l) n a (n - 1) b = false by
        cases hr : reachR (bitL l) n a (n - 1) b
        · rfl
        · exact absurd hc (hiff.2 hr)] at next
      simp [go_sem, eqWp_nil0, hz] at next ⊢
      exact next
theorem l34b {ov : AV} {r : Nat} (hq : isP q l) (hl : l.length < 1000) (hn : n ≤ 7) (hd : ∀ x y, bitL l x y = true → x < n ∧ y < n) {Hb : Heap} (hp0 : Pre H0 n q Hb) (hbar : bar ≤ H0.length) (hbase : base ≤ H0.length) {R : PQ} :
    ∀ (k a : Nat) (gv : AV) (Hc : Heap), a + k = n → Grow 1 (nats (grpR (bitL l) n r a)) Hb gv Hc →
    (∀ gv' Hc', Grow 1 (nats (grpR (bitL l) n r n)) Hb gv' Hc' → R (.exit 2) [(1, .ptr H0.length 0 0), (5, ov), (6, .int .i64 (r : Nat)), (7, gv'), (8, .int .i64 (n : Nat)), (25, .bool false)] Hc') →
    Wp E base bar (.loop c34_l1) [(1, .ptr H0.length 0 0), (5, ov), (6, .int .i64 (r : Nat)), (7, gv), (8, .int .i64 (a : Nat))] Hc R := by
  have hpl := hp0.1
  intro k
  induction k with
  | zero =>
    intro a gv Hc ha hg h
    obtain rfl : a = n := by omega
    have ln : aload Hc ⟨false, 1⟩ (.ptr H0.length 0 0) = some (.int .i64 (a : Nat)) := by rw [aload_ptr (hg.get hp0.get)]; rfl
    rw [wp_round c34_l1.eq_1]
    simp [go_sem, ln]
    exact h gv Hc hg
  | succ k ih =>
    intro a gv Hc ha hg h
    have hlt : a < n := by omega
    have hgl := hg.len
    have hp : Pre H0 n q Hc := hp0.next hgl fun j hj => by
      have hj2 : j < Hb.length := by omega
      rw [hg.get (List.getElem?_eq_getElem hj2), List.getElem?_eq_getElem hj2]
    have hz := i64_suc (show a < 1000000 by omega)
    have hst : grpR (bitL l) n r (a + 1) = grpR (bitL l) n r a ++ if cntR (bitL l) n a n = r then [a] else [] := by
      unfold grpR
      rw [List.range_succ, List.filter_append]
      by_cases hc : cntR (bitL l) n a n = r <;> simp [hc]
    have hgrl : (grpR (bitL l) n r a).length ≤ a := Nat.le_trans (List.length_filter_le _ _) (by simp)
    have hz0 : cntR (bitL l) n a 0 = 0 := rfl
    rw [wp_round c34_l1.eq_1]
    simp [go_sem, hp.n, hlt]
    have hin := fun (R : PQ) => l34a (ov := ov) (gv := gv) (r := r) (base := base) (R := R) hq hl hn hd hlt hp hbar n 0 (by omega)
    rw [hz0] at hin
    refine hin _ ?_
    by_cases hc : cntR (bitL l) n a n = r
    · rw [if_pos hc] at hst
      simp [go_sem, natEq, hc, aop, fillA, setCells, chunks]
      refine hg.nat (by omega) (by omega) (by omega) fun v' H' tc g' => ?_
      simp [go_sem, hz]
      refine ih (a + 1) v' H' (by omega) ?_ h
      rw [hst]; exact g'
    · rw [if_neg hc, List.append_nil] at hst
      simp [go_sem, natEq, hc, hz]
      refine ih (a + 1) gv Hc (by omega) ?_ h
      rw [hst]; exact hg
theorem l34c (hq : isP q l) (hl : l.length < 1000) (hn : n ≤ 7) (hd : ∀ x y, bitL l x y = true → x < n ∧ y < n) (hbar : bar ≤ H0.length) (hbase : base ≤ H0.length) {R : PQ} :
    ∀ (r : Nat) (acc : List (List Nat)) (vs : List AV) (ov : AV) (Hc : Heap), r ≤ n → Pre H0 n q Hc → Own (H0.length + 1) 1 vs ov Hc → allL vs acc → acc.length + r ≤ 1000 →
    (∀ vs' ov' Hc', Pre H0 n q Hc' → Own (H0.length + 1) 1 vs' ov' Hc' → allL vs' (acc ++ grpsR (bitL l) n r) → R (.exit 0) [(1, .ptr H0.length 0 0), (5, ov'), (6, .int .i64 0), (19, .bool false)] Hc') →
    Wp E base bar (.loop c34_l2) [(1, .ptr H0.length 0 0), (5, ov), (6, .int .i64 (r : Nat))] Hc R := by
  intro r
  induction r with
  | zero =>
    intro acc vs ov Hc hr hp ho ha hal h
    rw [wp_round c34_l2.eq_1]
    simp [go_sem]
    exact h vs ov Hc hp ho (by simpa [grpsR] using ha)
  | succ r ih =>
    intro acc vs ov Hc hr hp ho ha hal h
    have hpl := hp.1
    have hgt : (0 : Int) < ((r + 1 : Nat) : Int) := by omega
    have hsub : IntKind.i64.wrap (((r + 1 : Nat) : Int) - 1) = (r : Int) := by rw [show ((r + 1 : Nat) : Int) - 1 = (r : Int) by omega, i64_nat (by omega)]
    unfold grpsR at h
    generalize hr1 : r + 1 = r1 at *
    rw [wp_round c34_l2.eq_1]
    simp [go_sem, show 0 < r1 by omega]
    refine l34b (r := r1) hq hl hn hd hp hbar hbase n 0 .nils Hc (by omega) (show Grow 1 (nats (grpR (bitL l) n r1 0)) Hc .nils Hc from Grow.nil) fun gv Hd hg => ?_
    have hgl := hg.len
    have hsame : ∀ j, j < Hc.length → Hd[j]? = Hc[j]? := fun j hj => by
      rw [hg.get (List.getElem?_eq_getElem hj), List.getElem?_eq_getElem hj]
    have hp1 : Pre H0 n q Hd := hp.next hgl fun j hj => hsame j (by omega)
    have o1 : Own (H0.length + 1) 1 vs ov Hd := ho.mono fun j hj => hsame j (ho.lt hj).2
    by_cases he : grpR (bitL l) n r1 n = []
    · rw [if_pos he, List.nil_append] at h
      have hgn : gv = .nils := by
        rcases hg with ⟨_, h2, _⟩ | ⟨_, _, h2, _⟩
        · exact h2
        · rw [he] at h2; exact absurd rfl h2
      subst hgn
      simp [go_sem, hsub]
      exact ih acc vs ov Hd (by omega) hp1 o1 ha (by omega) h
    · rw [if_neg he] at h
      obtain ⟨ver, fz, h1, h2, h3, h4⟩ : ∃ ver fz, nats (grpR (bitL l) n r1 n) ≠ [] ∧ fz ≤ (nats (grpR (bitL l) n r1 n)).length ∧ gv = .vec Hc.length ver 0 ((nats (grpR (bitL l) n r1 n)).length / 1) 1 ∧ Hd = Hc ++ [.row ver (nats (grpR (bitL l) n r1 n)) fz false] := by
        rcases hg with ⟨h1, _, _⟩ | h1
        · exact absurd (nats_eq_nil.1 h1) he
        · exact h1
      have hlen : 0 < (grpR (bitL l) n r1 n).length := List.length_pos_iff.2 he
      have hlw : lenWp (some gv) Hd = fun (K : AV → Heap → List Nat → Prop) => K (.int .i64 ((grpR (bitL l) n r1 n).length : Nat)) Hd [] := by
        funext K
        rw [h3, nats_length, Nat.div_one]; rfl
      obtain ⟨H3, f1, f2, f3, f4⟩ := hg.frz (d := 5) (bar := bar) (by decide) (Nat.one_dvd _) nats_plain (by omega)
      rw [show 5 + 3 = 8 from rfl] at f1
      have hv := isL.out (l := grpR (bitL l) n r1 n)
      have same3 : ∀ j, j < Hc.length → H3[j]? = Hc[j]? := fun j hj => by
        have := congrArg (fun L : Heap => L[j]?) f4
        simpa [List.getElem?_take, hj] using this
      have hl3 : Hc.length ≤ H3.length := by
        have := congrArg List.length f4
        rw [List.length_take] at this; omega
      have hp3 : Pre H0 n q H3 := hp.next hl3 fun j hj => same3 j (by omega)
      have o3 : Own (H0.length + 1) 1 vs ov H3 := ho.mono fun j hj => same3 j (ho.lt hj).2
      have hnt : gv.isTup = false := by rw [h3]; rfl
      simp [go_sem, hlw, hlen, aop, fillA, setCells, chunks, f1, hnt, hv.cells]
      refine o3.app (bytes := 24) (xs := [outL 1 (nats (grpR (bitL l) n r1 n))]) (by omega) (by decide) (Nat.one_dvd _) (fun c hc => by simp [hv.cells] at hc; subst hc; exact hv.plain) (by simp [hv.cells, AV.noVec.noVecs, hv.noVec]) (Nat.one_dvd _) (by omega) (by omega) (by
        simp [hv.cells, ha.length]; omega) fun v4 H4 tc4 o4 k4 => ?_
      simp [hv.cells] at o4
      have hp4 : Pre H0 n q H4 := hp3.next k4.len fun j hj => k4.same j (by omega) fun hc => by have := (o3.lt hc).1; omega
      simp [go_sem, hsub]
      refine ih (acc ++ [grpR (bitL l) n r1 n]) (vs ++ [_]) v4 H4 (by omega) hp4 o4 (ha.append ⟨hv, trivial⟩) (by simp; omega) ?_
      simpa using h
end
theorem k34 {n : Int} {q : AV} {l : List ZZ} (hq : isP q l) (hl : l.length < 1000) (hbar : bar ≤ H.length)
    (h1 : checkS n l ≠ 0 → Q (.tup [.nils, .int .i64 (checkS n l)]) H)
    (h2 : ∀ m : Nat, n = m → OkC m l → ∀ v, isLL v (grpsR (bitL l) m m) → Q (.tup [v, .int .i64 0]) H) :
    WpCall E pure base bar 34 [.agg [.int .i64 n, q]] H Q := by
  rw [call34]
  have hb' := bar_ok (pure := pure) hbar
  have e0 : H ++ [.row 0 [.int .i64 n, q] 0 true] = HI H n q := rfl
  simp [go_sem, WpFun, c34, hq.frz, e0, HI_h, HI_n, k24 hq hl] at hb' ⊢
  generalize (if pure = true then H.length else bar) = bar' at hb' ⊢
  by_cases hc : checkS n l = 0
  · obtain ⟨m, rfl, hok⟩ := OkC.of hc
    have hm7 := hok.le
    simp [go_sem, hc, HI_n]
    refine l34c hq hl hok.le hok.dom hb' (Nat.le_refl _) m [] [] .nils _ (Nat.le_refl _) Pre.refl Own.nil trivial (by simp; omega) ?_
    intro vs' ov' Hc' hp' ho' ha'
    obtain ⟨H3, f1, f2, f3, f4⟩ := ho'.frz (d := 5) (bar := bar') (by decide) (Nat.one_dvd _) ha'.plain (by omega)
    rw [show 5 + 3 = 8 from rfl] at f1
    have hll := isLL.out ha'
    have hp3 : Pre H m q H3 := hp'.next (by omega) fun j hj => f4 j (fun hc => by have := (ho'.lt hc).1; omega)
    simp [go_sem, f1, hll.top, hp3.take]
    exact h2 m rfl hok _ (by simpa using hll)
  · simp [go_sem, hc, HI_take]
    exact h1 hc
end Go.Proofs.Ytnlebofipoepfaa.Code
end

section
namespace Go.Proofs.Ytnlebofipoepfaa.Code
open Go Go.Ab
variable {pure : Bool} {base bar : Nat} {H : Heap} {Q : AV → Heap → Prop}

/-! 35: rings of three, by the scores -/
def thr3 (n : Nat) : Nat := n * (n - 1) * (n - 2) / 6
theorem thr_tab : ∀ n : Nat, n ≤ 7 → 1 ≤ n → IntKind.i64.wrap ((IntKind.i64.wrap (IntKind.i64.wrap ((n : Int) * IntKind.i64.wrap ((n : Int) - 1)) * IntKind.i64.wrap ((n : Int) - 2))).tdiv 6) = ((thr3 n : Nat) : Int) := by decide +kernel
theorem half_tab : ∀ s : Nat, s ≤ 8 → IntKind.i64.wrap ((IntKind.i64.wrap ((s : Int) * IntKind.i64.wrap ((s : Int) - 1))).tdiv 2) = ((halfN s : Nat) : Int) := by decide +kernel
theorem half_le : ∀ s : Nat, s ≤ 8 → halfN s ≤ 28 := by decide
def lessS (k : Int) (l : List Nat) : Int := l.foldl (fun k s => k - (halfN s : Int)) k
theorem l35 {v : AV} {l : List Nat} (hv : isL v l) (hl : l.length ≤ 7) (h7 : ∀ s ∈ l, s ≤ 8) {R : PQ} : ∀ (d i : Nat) (k : Int), i + d = l.length → -400 ≤ k - 28 * (d : Int) → k ≤ 400 →
    R (.exit 0) [(6, .int .i64 (lessS k (l.drop i))), (35, v), (36, .int .i64 (l.length : Nat)), (37, .int .i64 (l.length : Nat)), (38, .bool false)] H →
    Wp E base bar (.loop c35_l0) [(6, .int .i64 k), (35, v), (36, .int .i64 (l.length : Nat)), (37, .int .i64 (i : Nat))] H R := by
  intro d
  induction d with
  | zero =>
    intro i k hi _ _ h
    obtain rfl : i = l.length := by omega
    rw [List.drop_length] at h
    rw [wp_round c35_l0.eq_1]
    simp [go_sem]
    exact h
  | succ d ih =>
    intro i k hi b3 b4 h
    have hlt : i < l.length := by omega
    have hs := h7 _ (List.getElem_mem hlt)
    have ht := half_tab _ hs
    have hle := half_le _ hs
    rw [List.drop_eq_getElem_cons hlt] at h
    have hz := i64_suc (show i < 1000000 by omega)
    generalize hx : l[i] = x at *
    have hix : ∀ {H : Heap} {K : AV → Heap → List Nat → Prop}, ixaSWp 1 (some v) (some (.int .i64 (i : Int))) H K = K (.fp (.int .i64 (x : Nat))) H [] := fun {H K} => by rw [hv.ix hlt, hx]
    have hw : IntKind.i64.wrap (k - ((halfN x : Nat) : Int)) = k - ((halfN x : Nat) : Int) := Go.IntWalk.i64_in _ (by omega)
    have e3 : abin .quo (.int .i64 (IntKind.i64.wrap ((x : Int) * IntKind.i64.wrap ((x : Int) - 1)))) (.int .i64 2) = some (.int .i64 ((halfN x : Nat) : Int)) := by
      rw [abin_quo (by decide), ht]
    have next := ih (i + 1) (k - ((halfN x : Nat) : Int)) (by omega) (by omega) (by omega) h
    rw [wp_round c35_l0.eq_1]
    simp [go_sem, hlt, hix, e3, hw, hz]
    exact next
theorem bits_len8 (s : Nat) : (bitsOf s).length ≤ 8 := bits_len s
def threesS (n : Nat) (w : Nat → Nat) : Int := lessS ((thr3 n : Nat) : Int) (oftenS n w)
theorem thr3_le : ∀ n : Nat, n ≤ 7 → thr3 n ≤ 35 := by decide
theorem k35 {n : Int} {q : AV} {l : List ZZ} (hq : isP q l) (hl : l.length < 1000) (hbar : bar ≤ H.length)
    (h1 : checkS n l ≠ 0 → Q (.tup [.int .i64 0, .int .i64 (checkS n l)]) H)
    (h2 : ∀ m : Nat, n = m → OkC m l → Q (.tup [.int .i64 (threesS m (boardF l fun _ => 0)), .int .i64 0]) H) :
    WpCall E pure base bar 35 [.agg [.int .i64 n, q]] H Q := by
  rw [call35]
  have hb' := bar_ok (pure := pure) hbar
  have e0 : H ++ [.row 0 [.int .i64 n, q] 0 true] = HI H n q := rfl
  simp [go_sem, WpFun, c35, hq.frz, e0, HI_h] at hb' ⊢
  generalize (if pure = true then H.length else bar) = bar' at hb' ⊢
  by_cases hc : checkS n l = 0
  · obtain ⟨m, rfl, hok⟩ := OkC.of hc
    have hbd := hok.board.1
    have hm := hok.le
    have hm1 := hok.pos
    refine k56 hq hl (by rw [HI_len]; omega) (fun h => absurd hc h) (fun m' hm' _ _ _ => ?_)
    obtain rfl : m = m' := by omega
    have hid : (HI H (m : Int) q ++ [Blk.row 0 (bcells m (boardF l fun _ => 0)) 0 true])[H.length + 1]? = some (.row 0 (bcells m (boardF l fun _ => 0)) 0 true) := by simp [HI, own_get]
    have htk : (HI H (m : Int) q ++ [Blk.row 0 (bcells m (boardF l fun _ => 0)) 0 true]).take H.length = H := by simp [HI]
    have hlen : (HI H (m : Int) q ++ [Blk.row 0 (bcells m (boardF l fun _ => 0)) 0 true]).length = H.length + 2 := by simp [HI]
    have e3 : abin .quo (.int .i64 (IntKind.i64.wrap (IntKind.i64.wrap ((m : Int) * IntKind.i64.wrap ((m : Int) - 1)) * IntKind.i64.wrap ((m : Int) - 2)))) (.int .i64 6) = some (.int .i64 ((thr3 m : Nat) : Int)) := by
      rw [abin_quo (by decide), thr_tab m hm hm1]
    rw [HI_len]
    have ln : aload (HI H (m : Int) q ++ [Blk.row 0 (bcells m (boardF l fun _ => 0)) 0 true]) ⟨false, 1⟩ (.ptr (H.length + 1) 0 0) = some (.int .i64 (m : Nat)) := loadBN hid
    have h57 := fun (P : Bool) (B C : Nat) (Q : AV → Heap → Prop) (hb : C ≤ H.length + 2) => k57 (pure := P) (base := B) (bar := C) (Q := Q) hid hbd.lt hm (by rw [hlen]; exact hb)
    generalize hX : HI H (m : Int) q ++ [Blk.row 0 (bcells m (boardF l fun _ => 0)) 0 true] = X at *
    simp [go_sem, ln, e3]
    refine h57 _ _ _ _ (by omega) ?_
    have hv := isL.out (l := oftenS m (boardF l fun _ => 0))
    generalize outL 1 (nats (oftenS m (boardF l fun _ => 0))) = v at hv
    have hol := oftenS_len (n := m) (w := boardF l fun _ => 0)
    simp [go_sem, hv.len]
    refine l35 hv (by omega) (fun s hs => ?_) m 0 ((thr3 m : Nat) : Int) (by omega) (by have := thr3_le m hm; omega) (by have := thr3_le m hm; omega) ?_
    · unfold oftenS at hs
      obtain ⟨a, _, rfl⟩ := List.mem_map.1 hs
      exact bits_len _
    · rw [List.drop_zero]
      have h2' := h2 m rfl hok
      unfold threesS at h2'
      simp [go_sem, htk]
      exact h2'
  · refine k56 hq hl (by rw [HI_len]; omega) (fun _ => ?_) (fun m _ _ _ hc' => absurd hc' hc)
    simp [go_sem, hc, HI_take]
    exact h1 hc
end Go.Proofs.Ytnlebofipoepfaa.Code
end

section
namespace Go.Proofs.Ytnlebofipoepfaa.Code
open Go Go.Ab
variable {pure : Bool} {base bar : Nat} {H : Heap} {Q : AV → Heap → Prop}

/-! 36: rings of three, set by set -/
def cyc (f : Nat → Nat → Bool) (x y z : Nat) : Bool := (f x y && f y z && f z x) || (f x z && f z y && f y x)
def thrZ (f : Nat → Nat → Bool) (n x y : Nat) : Nat := ((List.range' (y + 1) (n - (y + 1))).filter (cyc f x y)).length
def thrY (f : Nat → Nat → Bool) (n x : Nat) : Nat := ((List.range' (x + 1) (n - (x + 1))).map (thrZ f n x)).sum
def thrX (f : Nat → Nat → Bool) (n : Nat) : Nat := ((List.range' 0 n).map (thrY f n)).sum
theorem sum_le {α : Type} {f : α → Nat} {c : Nat} : ∀ {l : List α}, (∀ x ∈ l, f x ≤ c) → (l.map f).sum ≤ l.length * c
  | [], _ => by simp
  | x :: r, h => by
    have h1 := h x (List.mem_cons_self ..)
    have h2 := sum_le (f := f) (c := c) (l := r) fun y hy => h y (List.mem_cons_of_mem _ hy)
    simp only [List.map_cons, List.sum_cons, List.length_cons, Nat.succ_mul]; omega
theorem thrZ_le {f : Nat → Nat → Bool} {n x y : Nat} (hn : n ≤ 7) : thrZ f n x y ≤ 7 := Nat.le_trans (List.length_filter_le _ _) (by simp; omega)
theorem thrY_le {f : Nat → Nat → Bool} {n x : Nat} (hn : n ≤ 7) : thrY f n x ≤ 49 := by
  have := sum_le (f := thrZ f n x) (c := 7) (l := List.range' (x + 1) (n - (x + 1))) fun y _ => thrZ_le hn
  rw [List.length_range'] at this
  unfold thrY; omega
theorem short3 (a b c : Bool) : (a = false ∧ True ∧ True) ∨ (a = true ∧ b = false ∧ True) ∨ (a = true ∧ b = true ∧ c = false) ∨ (a = true ∧ b = true ∧ c = true) := by
  cases a <;> cases b <;> cases c <;> simp
section
variable {n : Nat} {q : AV} {l : List ZZ}
set_option maxHeartbeats 2000000 in
set_option maxRecDepth 4000 in
theorem l36a (hq : isP q l) (hl : l.length < 1000) (hn : n ≤ 7) {x y : Nat} {R : PQ} : ∀ (k z cnt : Nat), z + k = n → cnt + k ≤ 900000 →
    R (.exit 4) [(1, .ptr H.length 0 0), (5, .int .i64 ((cnt + ((List.range' z k).filter (cyc (bitL l) x y)).length : Nat) : Int)), (6, .int .i64 (x : Nat)), (7, .int .i64 (y : Nat)), (8, .int .i64 (n : Nat)), (33, .bool false)] (HI H n q) →
    Wp E base bar (.loop c36_l0) [(1, .ptr H.length 0 0), (5, .int .i64 (cnt : Nat)), (6, .int .i64 (x : Nat)), (7, .int .i64 (y : Nat)), (8, .int .i64 (z : Nat))] (HI H n q) R := by
  intro k
  induction k with
  | zero =>
    intro z cnt hz hc h
    obtain rfl : z = n := by omega
    rw [wp_round c36_l0.eq_1]
    simp [go_sem, HI_n]
    simpa using h
  | succ k ih =>
    intro z cnt hz hc h
    have hlt : z < n := by omega
    have hw := i64_suc (show z < 1000000 by omega)
    have hw2 := i64_suc (show cnt < 1000000 by omega)
    have h63 := fun (P : Bool) (B C : Nat) (H : Heap) (Q : AV → Heap → Prop) (a b : Nat) => k63 (pure := P) (base := B) (bar := C) (H := H) (Q := Q) hq hl (a := (a : Int)) (b := (b : Int))
    have next := fun (c : Nat) (hcc : c = cnt + if cyc (bitL l) x y z = true then 1 else 0) => ih (z + 1) c (by omega) (by split at hcc <;> omega) (by
      rw [List.range'_succ, List.filter_cons] at h
      subst hcc
      split
      · rename_i hcy; rw [if_pos hcy, List.length_cons] at h
        rw [show cnt + 1 + ((List.range' (z + 1) k).filter (cyc (bitL l) x y)).length = cnt + (((List.range' (z + 1) k).filter (cyc (bitL l) x y)).length + 1) by omega]; exact h
      · rename_i hcy; rw [if_neg hcy] at h; simpa using h)
    have hcy : cyc (bitL l) x y z = ((beatZ l x y && beatZ l y z && beatZ l z x) || (beatZ l x z && beatZ l z y && beatZ l y x)) := rfl
    rw [wp_round c36_l0.eq_1]
    generalize cyc (bitL l) x y z = c at *
    rcases short3 (beatZ l x y) (beatZ l y z) (beatZ l z x) with ⟨e1, e2, e3⟩ | ⟨e1, e2, e3⟩ | ⟨e1, e2, e3⟩ | ⟨e1, e2, e3⟩ <;>
      rcases short3 (beatZ l x z) (beatZ l z y) (beatZ l y x) with ⟨e4, e5, e6⟩ | ⟨e4, e5, e6⟩ | ⟨e4, e5, e6⟩ | ⟨e4, e5, e6⟩ <;> (
      simp [e1, e2, e3, e4, e5, e6] at hcy
      subst hcy
      simp [go_sem, HI_n, HI_q, hlt, h63, e1, e2, e3, e4, e5, e6, hw, hw2]
      exact next _ rfl)
end
end Go.Proofs.Ytnlebofipoepfaa.Code
end

section
namespace Go.Proofs.Ytnlebofipoepfaa.Code
open Go Go.Ab
variable {pure : Bool} {base bar : Nat} {H : Heap} {Q : AV → Heap → Prop}

section
variable {n : Nat} {q : AV} {l : List ZZ}
theorem l36b (hq : isP q l) (hl : l.length < 1000) (hn : n ≤ 7) {x : Nat} {R : PQ} : ∀ (k y cnt : Nat), y + k = n → cnt + 7 * k ≤ 800000 →
    R (.exit 2) [(1, .ptr H.length 0 0), (5, .int .i64 ((cnt + ((List.range' y k).map (thrZ (bitL l) n x)).sum : Nat) : Int)), (6, .int .i64 (x : Nat)), (7, .int .i64 (n : Nat)), (25, .bool false)] (HI H n q) →
    Wp E base bar (.loop c36_l1) [(1, .ptr H.length 0 0), (5, .int .i64 (cnt : Nat)), (6, .int .i64 (x : Nat)), (7, .int .i64 (y : Nat))] (HI H n q) R := by
  intro k
  induction k with
  | zero =>
    intro y cnt hy hc h
    obtain rfl : y = n := by omega
    rw [wp_round c36_l1.eq_1]
    simp [go_sem, HI_n]
    simpa using h
  | succ k ih =>
    intro y cnt hy hc h
    have hlt : y < n := by omega
    have hw := i64_suc (show y < 1000000 by omega)
    have hle := thrZ_le (f := bitL l) (n := n) (x := x) (y := y) hn
    rw [List.range'_succ, List.map_cons, List.sum_cons, ← Nat.add_assoc] at h
    have next := ih (y + 1) (cnt + thrZ (bitL l) n x y) (by omega) (by omega) h
    have hin := fun (R : PQ) => l36a (base := base) (bar := bar) (H := H) (R := R) hq hl hn (x := x) (y := y) (n - (y + 1)) (y + 1) cnt (by omega) (by omega)
    have hdef : ((List.range' (y + 1) (n - (y + 1))).filter (cyc (bitL l) x y)).length = thrZ (bitL l) n x y := rfl
    rw [hdef] at hin
    generalize cnt + thrZ (bitL l) n x y = c2 at *
    generalize hy1 : y + 1 = y1 at *
    rw [wp_round c36_l1.eq_1]
    simp [go_sem, HI_n, hlt, hw]
    refine hin _ ?_
    simp [go_sem, hw]
    exact next
theorem l36c (hq : isP q l) (hl : l.length < 1000) (hn : n ≤ 7) {R : PQ} : ∀ (k x cnt : Nat), x + k = n → cnt + 49 * k ≤ 700000 →
    R (.exit 0) [(1, .ptr H.length 0 0), (5, .int .i64 ((cnt + ((List.range' x k).map (thrY (bitL l) n)).sum : Nat) : Int)), (6, .int .i64 (n : Nat)), (17, .bool false)] (HI H n q) →
    Wp E base bar (.loop c36_l2) [(1, .ptr H.length 0 0), (5, .int .i64 (cnt : Nat)), (6, .int .i64 (x : Nat))] (HI H n q) R := by
  intro k
  induction k with
  | zero =>
    intro x cnt hx hc h
    obtain rfl : x = n := by omega
    rw [wp_round c36_l2.eq_1]
    simp [go_sem, HI_n]
    simpa using h
  | succ k ih =>
    intro x cnt hx hc h
    have hlt : x < n := by omega
    have hw := i64_suc (show x < 1000000 by omega)
    have hle := thrY_le (f := bitL l) (n := n) (x := x) hn
    rw [List.range'_succ, List.map_cons, List.sum_cons, ← Nat.add_assoc] at h
    have next := ih (x + 1) (cnt + thrY (bitL l) n x) (by omega) (by omega) h
    have hin := fun (R : PQ) => l36b (base := base) (bar := bar) (H := H) (R := R) hq hl hn (x := x) (n - (x + 1)) (x + 1) cnt (by omega) (by omega)
    have hdef : ((List.range' (x + 1) (n - (x + 1))).map (thrZ (bitL l) n x)).sum = thrY (bitL l) n x := rfl
    rw [hdef] at hin
    generalize cnt + thrY (bitL l) n x = c2 at *
    generalize hy1 : x + 1 = y1 at *
    rw [wp_round c36_l2.eq_1]
    simp [go_sem, HI_n, hlt, hw]
    refine hin _ ?_
    simp [go_sem, hw]
    exact next
end
theorem k36 {n : Int} {q : AV} {l : List ZZ} (hq : isP q l) (hl : l.length < 1000)
    (h1 : checkS n l ≠ 0 → Q (.tup [.int .i64 0, .int .i64 (checkS n l)]) H)
    (h2 : ∀ m : Nat, n = m → OkC m l → Q (.tup [.int .i64 (thrX (bitL l) m : Nat), .int .i64 0]) H) :
    WpCall E pure base bar 36 [.agg [.int .i64 n, q]] H Q := by
  rw [call36]
  have e0 : H ++ [.row 0 [.int .i64 n, q] 0 true] = HI H n q := rfl
  simp [go_sem, WpFun, c36, hq.frz, e0, HI_h, k24 hq hl]
  by_cases hc : checkS n l = 0
  · obtain ⟨m, rfl, hok⟩ := OkC.of hc
    have h7 := hok.le
    simp [go_sem, hc]
    refine l36c hq hl hok.le m 0 0 (by omega) (by omega) ?_
    have hdef : ((List.range' 0 m).map (thrY (bitL l) m)).sum = thrX (bitL l) m := rfl
    rw [hdef, Nat.zero_add]
    simp [go_sem, HI_take]
    exact h2 m rfl hok
  · simp [go_sem, hc, HI_take]
    exact h1 hc

/-! both counts are the same -/
def pN (f : Nat → Nat → Bool) (v a b : Nat) : Nat := if (f v a && f v b) = true then 1 else 0
def cN (f : Nat → Nat → Bool) (x y z : Nat) : Nat := if cyc f x y z = true then 1 else 0
theorem cyc_sum {n : Nat} {f : Nat → Nat → Bool} (h1 : ∀ x y, x < n → y < n → x ≠ y → f x y = !f y x) {x y z : Nat} (hxy : x < y) (hyz : y < z) (hz : z < n) : cN f x y z + pN f x y z + pN f y x z + pN f z x y = 1 := by
  unfold cN cyc pN
  rw [h1 y x (by omega) (by omega) (by omega), h1 z x (by omega) (by omega) (by omega), h1 z y (by omega) (by omega) (by omega)]
  cases f x y <;> cases f y z <;> cases f x z <;> rfl
theorem half_succ (s : Nat) : halfN (s + 1) = halfN s + s := by
  unfold halfN
  cases s with
  | zero => rfl
  | succ s =>
    rw [show (s + 1 + 1) * (s + 1 + 1 - 1) = (s + 1) * (s + 1 - 1) + (s + 1) * 2 by simp only [Nat.add_sub_cancel]; rw [← Nat.mul_add, Nat.mul_comm]]
    rw [Nat.add_mul_div_right _ _ (by decide)]
theorem filter_len {p : Nat → Bool} : ∀ {l : List Nat}, (l.filter p).length = (l.map fun x => if p x = true then 1 else 0).sum
  | [] => rfl
  | x :: r => by
    rw [List.filter_cons, List.map_cons, List.sum_cons, ← filter_len (l := r)]
    split
    · rw [List.length_cons, Nat.add_comm]
    · rw [Nat.zero_add]
/-- pairs that one beat, by the number of those whom it beat -/
def pairsV (f : Nat → Nat → Bool) (v n : Nat) : Nat := sumN (fun b => sumN (fun a => pN f v a b) b) n
theorem pairs_half {f : Nat → Nat → Bool} {v : Nat} : ∀ n, halfN (((List.range n).filter (f v)).length) = pairsV f v n
  | 0 => by simp [pairsV, sumN, halfN]
  | n + 1 => by
    have ih := pairs_half (f := f) (v := v) n
    have e : pairsV f v (n + 1) = pairsV f v n + sumN (fun a => pN f v a n) n := rfl
    rw [e, ← ih, List.range_succ, List.filter_append, List.length_append]
    have hs : sumN (fun a => pN f v a n) n = if f v n = true then ((List.range n).filter (f v)).length else 0 := by
      rw [filter_sumN]
      cases hc : f v n
      · rw [if_neg (by simp)]
        rw [← sumN_zero (n := n)]
        apply sumN_congr
        intro x _
        simp [pN, hc]
      · rw [if_pos rfl]
        apply sumN_congr
        intro x _
        simp [pN, hc]
    rw [hs]
    cases hc : f v n
    · simp [hc]
    · simp [hc, half_succ]
end Go.Proofs.Ytnlebofipoepfaa.Code
end

section
namespace Go.Proofs.Ytnlebofipoepfaa.Code
open Go Go.Ab
theorem pN_zero {f : Nat → Nat → Bool} (h : ∀ x, f x x = false) {v a : Nat} : pN f v v a = 0 ∧ pN f v a v = 0 := by simp [pN, h]
theorem thrZ_sum {f : Nat → Nat → Bool} {n x y : Nat} : thrZ f n x y = ((List.range' (y + 1) (n - (y + 1))).map (cN f x y)).sum := filter_len
theorem thr_1 {f : Nat → Nat → Bool} (hk : ∀ x y z, x < y → y < z → z < 1 → cN f x y z + pN f x y z + pN f y x z + pN f z x y = 1) (h0 : ∀ v a, pN f v v a = 0 ∧ pN f v a v = 0) : thrX f 1 + sumN (fun v => pairsV f v 1) 1 = thr3 1 := by
  simp [thrX, thrY, thrZ_sum, List.range'_succ, pairsV, sumN, thr3, h0]
theorem thr_2 {f : Nat → Nat → Bool} (hk : ∀ x y z, x < y → y < z → z < 2 → cN f x y z + pN f x y z + pN f y x z + pN f z x y = 1) (h0 : ∀ v a, pN f v v a = 0 ∧ pN f v a v = 0) : thrX f 2 + sumN (fun v => pairsV f v 2) 2 = thr3 2 := by
  simp [thrX, thrY, thrZ_sum, List.range'_succ, pairsV, sumN, thr3, h0]
theorem thr_3 {f : Nat → Nat → Bool} (hk : ∀ x y z, x < y → y < z → z < 3 → cN f x y z + pN f x y z + pN f y x z + pN f z x y = 1) (h0 : ∀ v a, pN f v v a = 0 ∧ pN f v a v = 0) : thrX f 3 + sumN (fun v => pairsV f v 3) 3 = thr3 3 := by
  have a012 := hk 0 1 2 (by decide) (by decide) (by decide)
  simp [thrX, thrY, thrZ_sum, List.range'_succ, pairsV, sumN, thr3, h0]
  omega
theorem thr_4 {f : Nat → Nat → Bool} (hk : ∀ x y z, x < y → y < z → z < 4 → cN f x y z + pN f x y z + pN f y x z + pN f z x y = 1) (h0 : ∀ v a, pN f v v a = 0 ∧ pN f v a v = 0) : thrX f 4 + sumN (fun v => pairsV f v 4) 4 = thr3 4 := by
  have a012 := hk 0 1 2 (by decide) (by decide) (by decide)
  have a013 := hk 0 1 3 (by decide) (by decide) (by decide)
  have a023 := hk 0 2 3 (by decide) (by decide) (by decide)
  have a123 := hk 1 2 3 (by decide) (by decide) (by decide)
  simp [thrX, thrY, thrZ_sum, List.range'_succ, pairsV, sumN, thr3, h0]
  omega
theorem thr_5 {f : Nat → Nat → Bool} (hk : ∀ x y z, x < y → y < z → z < 5 → cN f x y z + pN f x y z + pN f y x z + pN f z x y = 1) (h0 : ∀ v a, pN f v v a = 0 ∧ pN f v a v = 0) : thrX f 5 + sumN (fun v => pairsV f v 5) 5 = thr3 5 := by
  have a012 := hk 0 1 2 (by decide) (by decide) (by decide)
  have a013 := hk 0 1 3 (by decide) (by decide) (by decide)
  have a023 := hk 0 2 3 (by decide) (by decide) (by decide)
  have a123 := hk 1 2 3 (by decide) (by decide) (by decide)
  have a014 := hk 0 1 4 (by decide) (by decide) (by decide)
  have a024 := hk 0 2 4 (by decide) (by decide) (by decide)
  have a124 := hk 1 2 4 (by decide) (by decide) (by decide)
  have a034 := hk 0 3 4 (by decide) (by decide) (by decide)
  have a134 := hk 1 3 4 (by decide) (by decide) (by decide)
  have a234 := hk 2 3 4 (by decide) (by decide) (by decide)
  simp [thrX, thrY, thrZ_sum, List.range'_succ, pairsV, sumN, thr3, h0]
  omega
theorem thr_6 {f : Nat → Nat → Bool} (hk : ∀ x y z, x < y → y < z → z < 6 → cN f x y z + pN f x y z + pN f y x z + pN f z x y = 1) (h0 : ∀ v a, pN f v v a = 0 ∧ pN f v a v = 0) : thrX f 6 + sumN (fun v => pairsV f v 6) 6 = thr3 6 := by
  have a012 := hk 0 1 2 (by decide) (by decide) (by decide)
  have a013 := hk 0 1 3 (by decide) (by decide) (by decide)
  have a023 := hk 0 2 3 (by decide) (by decide) (by decide)
  have a123 := hk 1 2 3 (by decide) (by decide) (by decide)
  have a014 := hk 0 1 4 (by decide) (by decide) (by decide)
  have a024 := hk 0 2 4 (by decide) (by decide) (by decide)
  have a124 := hk 1 2 4 (by decide) (by decide) (by decide)
  have a034 := hk 0 3 4 (by decide) (by decide) (by decide)
  have a134 := hk 1 3 4 (by decide) (by decide) (by decide)
  have a234 := hk 2 3 4 (by decide) (by decide) (by decide)
  have a015 := hk 0 1 5 (by decide) (by decide) (by decide)
  have a025 := hk 0 2 5 (by decide) (by decide) (by decide)
  have a125 := hk 1 2 5 (by decide) (by decide) (by decide)
  have a035 := hk 0 3 5 (by decide) (by decide) (by decide)
  have a135 := hk 1 3 5 (by decide) (by decide) (by decide)
  have a235 := hk 2 3 5 (by decide) (by decide) (by decide)
  have a045 := hk 0 4 5 (by decide) (by decide) (by decide)
  have a145 := hk 1 4 5 (by decide) (by decide) (by decide)
  have a245 := hk 2 4 5 (by decide) (by decide) (by decide)
  have a345 := hk 3 4 5 (by decide) (by decide) (by decide)
  simp [thrX, thrY, thrZ_sum, List.range'_succ, pairsV, sumN, thr3, h0]
  omega
theorem thr_7 {f : Nat → Nat → Bool} (hk : ∀ x y z, x < y → y < z → z < 7 → cN f x y z + pN f x y z + pN f y x z + pN f z x y = 1) (h0 : ∀ v a, pN f v v a = 0 ∧ pN f v a v = 0) : thrX f 7 + sumN (fun v => pairsV f v 7) 7 = thr3 7 := by
  have a012 := hk 0 1 2 (by decide) (by decide) (by decide)
  have a013 := hk 0 1 3 (by decide) (by decide) (by decide)
  have a023 := hk 0 2 3 (by decide) (by decide) (by decide)
  have a123 := hk 1 2 3 (by decide) (by decide) (by decide)
  have a014 := hk 0 1 4 (by decide) (by decide) (by decide)
  have a024 := hk 0 2 4 (by decide) (by decide) (by decide)
  have a124 := hk 1 2 4 (by decide) (by decide) (by decide)
  have a034 := hk 0 3 4 (by decide) (by decide) (by decide)
  have a134 := hk 1 3 4 (by decide) (by decide) (by decide)
  have a234 := hk 2 3 4 (by decide) (by decide) (by decide)
  have a015 := hk 0 1 5 (by decide) (by decide) (by decide)
  have a025 := hk 0 2 5 (by decide) (by decide) (by decide)
  have a125 := hk 1 2 5 (by decide) (by decide) (by decide)
  have a035 := hk 0 3 5 (by decide) (by decide) (by decide)
  have a135 := hk 1 3 5 (by decide) (by decide) (by decide)
  have a235 := hk 2 3 5 (by decide) (by decide) (by decide)
  have a045 := hk 0 4 5 (by decide) (by decide) (by decide)
  have a145 := hk 1 4 5 (by decide) (by decide) (by decide)
  have a245 := hk 2 4 5 (by decide) (by decide) (by decide)
  have a345 := hk 3 4 5 (by decide) (by decide) (by decide)
  have a016 := hk 0 1 6 (by decide) (by decide) (by decide)
  have a026 := hk 0 2 6 (by decide) (by decide) (by decide)
  have a126 := hk 1 2 6 (by decide) (by decide) (by decide)
  have a036 := hk 0 3 6 (by decide) (by decide) (by decide)
  have a136 := hk 1 3 6 (by decide) (by decide) (by decide)
  have a236 := hk 2 3 6 (by decide) (by decide) (by decide)
  have a046 := hk 0 4 6 (by decide) (by decide) (by decide)
  have a146 := hk 1 4 6 (by decide) (by decide) (by decide)
  have a246 := hk 2 4 6 (by decide) (by decide) (by decide)
  have a346 := hk 3 4 6 (by decide) (by decide) (by decide)
  have a056 := hk 0 5 6 (by decide) (by decide) (by decide)
  have a156 := hk 1 5 6 (by decide) (by decide) (by decide)
  have a256 := hk 2 5 6 (by decide) (by decide) (by decide)
  have a356 := hk 3 5 6 (by decide) (by decide) (by decide)
  have a456 := hk 4 5 6 (by decide) (by decide) (by decide)
  simp [thrX, thrY, thrZ_sum, List.range'_succ, pairsV, sumN, thr3, h0]
  omega
theorem lessS_sum : ∀ (l : List Nat) (k : Int), lessS k l = k - (((l.map halfN).sum : Nat) : Int)
  | [], k => by simp [lessS]
  | x :: r, k => by
    have := lessS_sum r (k - (halfN x : Int))
    unfold lessS at this ⊢
    rw [List.foldl_cons, this, List.map_cons, List.sum_cons]
    omega
theorem sumN_map {f : Nat → Nat} : ∀ n, ((List.range n).map f).sum = sumN f n
  | 0 => rfl
  | n + 1 => by
    rw [List.range_succ, List.map_append, List.sum_append, sumN_map n]
    simp [sumN]
theorem bits_filter {n x : Nat} {f : Nat → Nat → Bool} {w : Nat → Nat} (hbd : BoardW n w) (hw : ∀ x y, (w x).testBit y = f x y) : (bitsOf (w x)).length = ((List.range n).filter (f x)).length := by
  unfold bitsOf
  have hn := hbd.le
  obtain ⟨d, hd⟩ : ∃ d, 8 = n + d := ⟨8 - n, by omega⟩
  rw [hd, filter_range_cut d fun c hc1 hc2 => by
    cases hc : (w x).testBit c
    · rfl
    · have := (hbd.dom x c hc).2; omega]
  congr 1
  apply List.filter_congr
  intro y _
  exact hw x y
/-- the program's number of rings of three -/
theorem threes_eq {n : Nat} {w : Nat → Nat} {f : Nat → Nat → Bool} (hbd : BoardW n w) (hw : ∀ x y, (w x).testBit y = f x y) (h1 : 1 ≤ n) : threesS n w = ((thrX f n : Nat) : Int) := by
  have hn := hbd.le
  have hone : ∀ x y, x < n → y < n → x ≠ y → f x y = !f y x := fun x y hx hy hne => by rw [← hw, ← hw]; exact hbd.one x y hx hy hne
  have h0 : ∀ v a, pN f v v a = 0 ∧ pN f v a v = 0 := fun v a => pN_zero fun x => by rw [← hw]; exact hbd.irr x
  have hk : ∀ x y z, x < y → y < z → z < n → cN f x y z + pN f x y z + pN f y x z + pN f z x y = 1 := fun x y z a b c => cyc_sum hone a b c
  have key : thrX f n + sumN (fun v => pairsV f v n) n = thr3 n := by
    have : n = 1 ∨ n = 2 ∨ n = 3 ∨ n = 4 ∨ n = 5 ∨ n = 6 ∨ n = 7 := by omega
    rcases this with rfl | rfl | rfl | rfl | rfl | rfl | rfl
    · exact thr_1 hk h0
    · exact thr_2 hk h0
    · exact thr_3 hk h0
    · exact thr_4 hk h0
    · exact thr_5 hk h0
    · exact thr_6 hk h0
    · exact thr_7 hk h0
  have hsum : ((oftenS n w).map halfN).sum = sumN (fun v => pairsV f v n) n := by
    unfold oftenS
    rw [List.map_map, sumN_map]
    apply sumN_congr
    intro v hv
    show halfN ((bitsOf (w v)).length) = _
    rw [bits_filter hbd hw, pairs_half]
  unfold threesS
  rw [lessS_sum, hsum]
  omega
end Go.Proofs.Ytnlebofipoepfaa.Code
end

section
namespace Go.Proofs.Ytnlebofipoepfaa.Code
open Go Go.Ab

theorem sorted_ext : ∀ {a b : List Nat}, a.Pairwise (· < ·) → b.Pairwise (· < ·) → (∀ x, x ∈ a ↔ x ∈ b) → a = b
  | [], [], _, _, _ => rfl
  | [], y :: r, _, _, h => absurd ((h y).2 (List.mem_cons_self ..)) (by simp)
  | x :: r, [], _, _, h => absurd ((h x).1 (List.mem_cons_self ..)) (by simp)
  | x :: r, y :: s, ha, hb, h => by
    rw [List.pairwise_cons] at ha hb
    have hxy : x = y := by
      have h1 := (h x).1 (List.mem_cons_self ..)
      have h2 := (h y).2 (List.mem_cons_self ..)
      rcases List.mem_cons.1 h1 with e | h1
      · exact e
      rcases List.mem_cons.1 h2 with e | h2
      · exact e.symm
      have := hb.1 x h1
      have := ha.1 y h2
      omega
    subst hxy
    congr 1
    refine sorted_ext ha.2 hb.2 fun z => ?_
    have := h z
    simp only [List.mem_cons] at this
    constructor
    · intro hz
      have hlt := ha.1 z hz
      rcases this.1 (.inr hz) with e | h'
      · omega
      · exact h'
    · intro hz
      have hlt := hb.1 z hz
      rcases this.2 (.inr hz) with e | h'
      · omega
      · exact h'
section
variable {f : Nat → Nat → Bool} {n : Nat} {w : Nat → Nat}
theorem reach_all1 {x : Nat} (hx : x < n) (hbd : BoardW n w) (hw : ∀ x y, (w x).testBit y = f x y) {j : Nat} : reachR f n x (n - 1) j = true ↔ Rch w x j := by
  have hd : ∀ a b, f a b = true → a < n ∧ b < n := fun a b hab => hbd.dom a b (by rw [hw]; exact hab)
  have hc : closedR f n x (n - 1) := by
    rcases closed_or (f := f) hx (n - 1) with h | h
    · exact h
    · intro a b ha hb hr hf
      cases hrb : reachR f n x (n - 1) b
      · exfalso
        have := sub_len (l := b :: (List.range n).filter (reachR f n x (n - 1))) (m := List.range n) (by
          rw [List.nodup_cons]
          exact ⟨fun hm => (by rw [(List.mem_filter.1 hm).2] at hrb; cases hrb), List.nodup_range.filter _⟩) fun y hy => by
            rcases List.mem_cons.1 hy with rfl | hy
            · exact List.mem_range.2 hb
            · exact (List.mem_filter.1 hy).1
        rw [List.length_cons, List.length_range] at this
        omega
      · rfl
  refine ⟨reachR_sound hw, fun h => ?_⟩
  induction h with
  | refl => exact reach_start
  | step h1 h2 ih =>
    rw [hw] at h2
    exact hc _ _ (hd _ _ h2).1 (hd _ _ h2).2 ih h2
def grpsS (S : Nat → List Nat) : Nat → List (List Nat)
  | 0 => []
  | r + 1 => (if S (r + 1) = [] then [] else [S (r + 1)]) ++ grpsS S r
theorem grpsS_eq {S : Nat → List Nat} : ∀ (m : Nat) (rs : List Nat), rs.Pairwise (fun a b => b < a) → (∀ r ∈ rs, 1 ≤ r ∧ r ≤ m ∧ S r ≠ []) → (∀ r, 1 ≤ r → r ≤ m → S r ≠ [] → r ∈ rs) → grpsS S m = rs.map S
  | 0, rs, _, h, _ => by
    cases rs with
    | nil => rfl
    | cons r t => have := h r (List.mem_cons_self ..); omega
  | m + 1, [], _, _, h => by
    have e : S (m + 1) = [] := by
      apply Decidable.byContradiction
      intro hc
      have := h (m + 1) (by omega) (Nat.le_refl _) hc
      simp at this
    unfold grpsS
    rw [if_pos e, List.nil_append]
    exact grpsS_eq m [] List.Pairwise.nil (by simp) fun r h1 h2 h3 => h r h1 (by omega) h3
  | m + 1, r :: t, hp, h1, h2 => by
    rw [List.pairwise_cons] at hp
    obtain ⟨a1, a2, a3⟩ := h1 r (List.mem_cons_self ..)
    unfold grpsS
    by_cases e : r = m + 1
    · subst e
      rw [if_neg a3, List.map_cons, List.singleton_append, grpsS_eq m t hp.2 (fun x hx => by
        have := hp.1 x hx
        have := h1 x (List.mem_cons_of_mem _ hx)
        exact ⟨this.1, by omega, this.2.2⟩) fun x b1 b2 b3 => by
          rcases List.mem_cons.1 (h2 x b1 (by omega) b3) with rfl | hx
          · omega
          · exact hx]
    · have em : S (m + 1) = [] := by
        apply Decidable.byContradiction
        intro hc
        rcases List.mem_cons.1 (h2 (m + 1) (by omega) (Nat.le_refl _) hc) with hx | hx
        · omega
        · have := hp.1 _ hx; omega
      rw [if_pos em, List.nil_append]
      exact grpsS_eq m (r :: t) (List.pairwise_cons.2 hp) (fun x hx => by
        obtain ⟨b1, b2, b3⟩ := h1 x hx
        refine ⟨b1, ?_, b3⟩
        rcases List.mem_cons.1 hx with rfl | hx
        · omega
        · have := hp.1 x hx; omega) fun x b1 b2 b3 => h2 x b1 (by omega) b3
theorem grpsR_S : ∀ r, grpsR f n r = grpsS (fun r => grpR f n r n) r
  | 0 => rfl
  | r + 1 => by unfold grpsR grpsS; rw [grpsR_S r]
/-- the groups, by how many each one reaches -/
theorem groups_eq (hbd : BoardW n w) (hw : ∀ x y, (w x).testBit y = f x y) {G : List (List Nat)} (hp : Parts n w G) : grpsR f n n = G := by
  have hreach : ∀ x y, x < n → y < n → (Rch w x y ↔ idxG G x ≤ idxG G y) := fun x y hx hy => by
    constructor
    · intro h
      induction h with
      | refl => exact Nat.le_refl _
      | step h1 h2 ih =>
        rename_i y' z'
        have hd := hbd.dom _ _ h2
        refine Nat.le_trans (ih hd.1) (Nat.le_of_not_lt fun hlt => ?_)
        have h3 := hp.order _ _ hd.2 hd.1 hlt
        have hne : z' ≠ y' := fun he => by rw [he] at hlt; omega
        rw [hbd.one _ _ hd.2 hd.1 hne, h2] at h3; cases h3
    · intro h
      rcases Nat.lt_or_eq_of_le h with h | h
      · exact .step .refl (hp.order _ _ hx hy h)
      · exact hp.inside _ _ hx hy h
  obtain ⟨C, hC⟩ : ∃ C : Nat → Nat, C = fun k => ((List.range n).filter fun b => decide (k ≤ idxG G b)).length := ⟨_, rfl⟩
  have hcnt : ∀ x, x < n → cntR f n x n = C (idxG G x) := fun x hx => by
    rw [hC]
    unfold cntR
    congr 1
    apply List.filter_congr
    intro b hb
    have hb := List.mem_range.1 hb
    rw [Bool.eq_iff_iff, reach_all1 hx hbd hw, hreach x b hx hb, decide_eq_true_eq]
  have hCn : ∀ k, C k ≤ n := fun k => by rw [hC]; exact Nat.le_trans (List.length_filter_le _ _) (by simp)
  have hdec : ∀ k k', k < k' → k < G.length → C k' < C k := fun k k' hlt hk => by
    obtain ⟨hs, hne, hel, _⟩ := hp.each _ (List.getElem_mem hk)
    obtain ⟨x, hx⟩ := List.exists_mem_of_ne_nil _ hne
    have hix := hp.idx k hk x hx
    rw [hC]
    have := sub_len (l := x :: (List.range n).filter fun b => decide (k' ≤ idxG G b)) (m := (List.range n).filter fun b => decide (k ≤ idxG G b)) (by
      rw [List.nodup_cons]
      refine ⟨fun hm => ?_, List.nodup_range.filter _⟩
      have := (List.mem_filter.1 hm).2
      rw [decide_eq_true_eq] at this; omega) fun y hy => by
        rcases List.mem_cons.1 hy with rfl | hy
        · exact List.mem_filter.2 ⟨List.mem_range.2 (hel _ hx), by rw [decide_eq_true_eq]; omega⟩
        · obtain ⟨h1, h2⟩ := List.mem_filter.1 hy
          rw [decide_eq_true_eq] at h2
          exact List.mem_filter.2 ⟨h1, by rw [decide_eq_true_eq]; omega⟩
    rw [List.length_cons] at this
    simp only
    omega
  have hgrp : ∀ k (hk : k < G.length), grpR f n (C k) n = G[k] := fun k hk => by
    obtain ⟨hs, hne, hel, _⟩ := hp.each _ (List.getElem_mem hk)
    refine sorted_ext (List.Pairwise.filter _ List.pairwise_lt_range) hs fun x => ?_
    unfold grpR
    rw [List.mem_filter, List.mem_range, beq_iff_eq]
    constructor
    · rintro ⟨hx, he⟩
      rw [hcnt x hx] at he
      obtain ⟨h1, h2⟩ := hp.has x hx
      have : idxG G x = k := by
        rcases Nat.lt_trichotomy (idxG G x) k with h | h | h
        · have := hdec _ _ h h1; omega
        · exact h
        · have := hdec _ _ h hk; omega
      simp only [this] at h2
      exact h2
    · intro hx
      exact ⟨hel x hx, by rw [hcnt x (hel x hx), hp.idx k hk x hx]⟩
  rw [grpsR_S, grpsS_eq n ((List.range G.length).map C)]
  · apply List.ext_getElem
    · simp
    · intro i h1 h2
      simp only [List.getElem_map, List.getElem_range]
      exact hgrp i h2
  · rw [List.pairwise_map]
    refine List.Pairwise.imp_of_mem ?_ List.pairwise_lt_range
    intro a b ha hb hab
    exact hdec a b hab (List.mem_range.1 ha)
  · intro r hr
    obtain ⟨k, hk, rfl⟩ := List.mem_map.1 hr
    have hk := List.mem_range.1 hk
    have h1 := hdec k (k + 1) (by omega) hk
    refine ⟨by omega, hCn k, ?_⟩
    rw [hgrp k hk]
    exact (hp.each _ (List.getElem_mem hk)).2.1
  · intro r _ _ hne
    obtain ⟨x, hx⟩ := List.exists_mem_of_ne_nil _ hne
    unfold grpR at hx
    rw [List.mem_filter, List.mem_range, beq_iff_eq] at hx
    rw [hcnt x hx.1] at hx
    exact List.mem_map.2 ⟨_, List.mem_range.2 (hp.has x hx.1).1, hx.2⟩
end
end Go.Proofs.Ytnlebofipoepfaa.Code
end
