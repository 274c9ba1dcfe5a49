/-
  Part of the proofs about this chapter: contracts of functions, answers of calls, and plain laws.
-/
import Derived.Test.YtoipleipokpnaaaGreatWa
import Derived.Test.YtoipleipokpnaaaGreatKit
set_option linter.all false
section
namespace Go.Proofs.YtoipleipokpnaaaGreat.Code
open Go Go.Ab
variable {pure : Bool} {base bar : Nat} {H : Heap} {Q : AV → Heap → Prop}

/-! Write -/
theorem leafB_and : ∀ s, s < 512 → leafB s = (decide (s ≠ 0) && decide (band s (s - 1) = 0)) := by decide +kernel
theorem k149 {s : Nat} (hs : s < 512) : WpCall E pure base bar 149 [.int .u16 (s : Nat)] H Q ↔ Q (.bool (leafB s)) H := by
  rw [call149]
  by_cases h0 : s = 0
  · subst h0
    have : leafB 0 = false := by decide
    rw [this]
    simp [go_sem, WpFun, c149]
  · have e1 : IntKind.u16.wrap ((s : Int) - 1) = ((s - 1 : Nat) : Int) := by
      rw [Go.IntWalk.u16_in _ (by omega)]; omega
    have e2 := and_u16 hs (show s - 1 < 512 by omega)
    have e3 := leafB_and s hs
    generalize s - 1 = s1 at *
    have h0' : ¬ (s : Int) = 0 := by omega
    by_cases hb : band s s1 = 0
    · have : leafB s = true := by rw [e3]; simp [h0, hb]
      rw [this]
      simp [go_sem, WpFun, c149, h0, h0', e1, e2, hb]
    · have : leafB s = false := by rw [e3]; simp [hb]
      rw [this]
      have hb2 : (((band s s1 : Nat) : Int) == 0) = false := by simp only [beq_eq_false_iff_ne]; omega
      simp [go_sem, WpFun, c149, h0, e1, e2, hb2]

theorem l150 {s to : Nat} (hs : s < 512) (ht : s.testBit to = true) (h9 : to < 9) (hpre : ∀ j, j < to → s.testBit j = false) {R : PQ} :
    ∀ (k i : Nat), i + k = to → R (.exit 0) [(0, .int .u16 (s : Nat)), (3, .int .i64 (to : Nat)), (7, .bool false)] H →
    Wp E base bar (.loop c150_l0) [(0, .int .u16 (s : Nat)), (3, .int .i64 (i : Nat))] H R := by
  intro k
  induction k with
  | zero =>
    intro i hi h
    obtain rfl : i = to := by omega
    rw [wp_round c150_l0.eq_1]
    simp [go_sem, k67 hs h9, ht]
    exact h
  | succ k ih =>
    intro i hi h
    have hlt : i < to := by omega
    have hf := hpre i hlt
    rw [wp_round c150_l0.eq_1]
    simp [go_sem, k67 hs (show i < 9 by omega), hf, i64_suc (show i < 1000000 by omega)]
    exact ih (i + 1) (by omega) h
theorem low_of {s to : Nat} {r : List Nat} (h : bitsN s = to :: r) : s.testBit to = true ∧ to < 9 ∧ ∀ j, j < to → s.testBit j = false := by
  have hm : to ∈ bitsN s := by rw [h]; exact List.mem_cons_self ..
  have h1 := List.mem_filter.1 hm
  have hr : (List.range 9).Pairwise (· < ·) := List.pairwise_lt_range
  have hp : (bitsN s).Pairwise (· < ·) := hr.sublist (List.filter_sublist)
  rw [h, List.pairwise_cons] at hp
  refine ⟨h1.2, List.mem_range.1 h1.1, fun j hj => ?_⟩
  cases hb : s.testBit j with
  | false => rfl
  | true =>
    have : j ∈ bitsN s := List.mem_filter.2 ⟨List.mem_range.2 (by have := List.mem_range.1 h1.1; omega), hb⟩
    rw [h] at this
    rcases List.mem_cons.1 this with e | e
    · omega
    · have := hp.1 j e; omega
theorem k150 {s to : Nat} {r : List Nat} (hs : s < 512) (hb : bitsN s = to :: r) (h : Q (.int .i64 (to : Nat)) H) : WpCall E pure base bar 150 [.int .u16 (s : Nat)] H Q := by
  rw [call150]
  obtain ⟨a1, a2, a3⟩ := low_of hb
  simp [go_sem, WpFun, c150]
  refine l150 hs a1 a2 a3 to 0 (by omega) ?_
  simp [go_sem]
  exact h

theorem l148 {n k0 : Nat} {wv : AV} {w : Nat → Nat} (hr : RW wv n w H) (hw : ∀ i, w i < 512) (hn : n ≤ 9) (hk : k0 < n) (hl : leafB (w k0) = true) (hpre : ∀ j, j < k0 → leafB (w j) = false) {R : PQ} :
    ∀ (k i : Nat), i + k = k0 → R .ret [(4, .int .i64 (k0 : Nat))] H →
    Wp E base bar (.loop c148_l0) [(0, wv), (1, .fn 149 [] []), (7, .int .i64 (n : Nat)), (8, .int .i64 (i : Nat))] H R := by
  intro k
  induction k with
  | zero =>
    intro i hi h
    obtain rfl : i = k0 := by omega
    obtain ⟨p, p1, p2⟩ := hr.ix hk
    rw [wp_round c148_l0.eq_1]
    simp [go_sem, hk, p1, p2, k149 (hw i), hl]
    exact h
  | succ k ih =>
    intro i hi h
    have hlt : i < k0 := by omega
    obtain ⟨p, p1, p2⟩ := hr.ix (show i < n by omega)
    have hf := hpre i hlt
    rw [wp_round c148_l0.eq_1]
    simp [go_sem, show i < n by omega, p1, p2, k149 (hw i), hf, i64_suc (show i < 1000000 by omega)]
    exact ih (i + 1) (by omega) h
theorem k148 {n k0 : Nat} {wv : AV} {w : Nat → Nat} (hr : RW wv n w H) (hw : ∀ i, w i < 512) (hn : n ≤ 9) (hk : k0 < n) (hl : leafB (w k0) = true) (hpre : ∀ j, j < k0 → leafB (w j) = false) (h : Q (.int .i64 (k0 : Nat)) H) : WpCall E pure base bar 148 [wv, .fn 149 [] []] H Q := by
  rw [call148]
  simp [go_sem, WpFun, c148, hr.len]
  refine l148 hr hw hn hk hl hpre k0 0 (by omega) ?_
  simp [go_sem]
  exact h

/-- a clone of a wood -/
theorem k84 {n : Nat} {ex : Bool} {w : Nat → Nat} (h1 : 1 ≤ n) (hn : n ≤ 9) (h : Q (.vec H.length 0 0 n 1) (H ++ [.row 0 (wc n w) 0 false])) : WpCall E pure base bar 84 [.lst 1 ex (wc n w)] H Q := by
  rw [call84]
  have e0 : frzAll bar H [.lst 1 ex (wc n w)] = some ([.lst 1 ex (wc n w)], H) := rfl
  rw [e0]
  have hne : wc n w ≠ [] := fun e => by have := congrArg List.length e; rw [wc_len] at this; simp at this; omega
  have eq_ln : ∀ {l : List AV} {H : Heap} {K : AV → Heap → List Nat → Prop}, eqWp false .nilS (some (.lst 1 ex l)) (some .nils) H K = K (.bool false) H [] := (rfl)
  have hfl : (wc n w).flatMap AV.cells = wc n w := by
    unfold wc
    rw [List.flatMap_map]
    induction (List.range n) with
    | nil => rfl
    | cons x r ih => rw [List.flatMap_cons, List.map_cons, ih]; rfl
  simp [go_sem, WpFun, c84, aop, fillA, chunks, eq_ln]
  have hz : frzsW (frz 8 (if pure = true then H.length else bar)) H (wc n w) = some (wc n w, H) := plains (d := 6) wc_plain
  simp [Opd.ev, go_sem, appWp, asrc, aappend, hfl, wc_len, hz, hne, show n * 2 ≤ 140737488355328 by omega]
  exact h

/-- a list that grows from an empty literal -/
def OG (H0 : Heap) (l : List Nat) (v : AV) (H : Heap) : Prop := (l = [] ∧ v = .lst 1 true [] ∧ H = H0) ∨ Grow 1 (nats l) H0 v H
theorem OG.add {H0 : Heap} {bytes x : Nat} {l : List Nat} {v : AV} {ex : Bool} {K : AV → Heap → List Nat → Prop} (g : OG H0 l v H) (hb : bar ≤ H0.length) (hbase : base ≤ H0.length) (hlen : (l.length + 1) * bytes ≤ 140737488355328)
    (h : ∀ v' H' tc, OG H0 (l ++ [x]) v' H' → K v' H' tc) : appWp base bar 1 bytes (some v) (some (.lst 1 ex [.int .i64 (x : Int)])) H K := by
  rcases g with ⟨rfl, rfl, rfl⟩ | g
  · have e : asrc H 1 (.lst 1 ex [.int .i64 (x : Int)]) = some [.int .i64 (x : Int)] := by rw [asrc_lst]; rfl
    simp at hlen
    simp [appWp, e, go_sem, aappend, AV.noVec.noVecs, AV.noVec, hlen]
    exact h _ _ _ (.inr (.inr ⟨0, 0, by simp [nats], by omega, by simp [nats], by simp [nats]⟩))
  · exact g.nat hb hbase hlen fun v' H' tc g' => h v' H' tc (.inr g')
theorem OG.get {H0 : Heap} {l : List Nat} {v : AV} {i : Nat} {b : Blk} (g : OG H0 l v H) (h : H0[i]? = some b) : H[i]? = some b := by
  rcases g with ⟨rfl, rfl, rfl⟩ | g
  · exact h
  · exact g.get h
theorem OG.set {H0 : Heap} {l : List Nat} {v : AV} {i : Nat} {b : Blk} (g : OG H0 l v H) (hi : i < H0.length) : OG (H0.set i b) l v (H.set i b) := by
  rcases g with ⟨rfl, rfl, rfl⟩ | g
  · exact .inl ⟨rfl, rfl, rfl⟩
  · exact .inr (g.set hi)
theorem OG.frz {H0 : Heap} {l : List Nat} {v : AV} {d : Nat} (g : OG H0 l v H) (hb : bar ≤ H0.length) : ∃ u H', frz (d + 3) bar H v = some (u, H') ∧ isL u l ∧ H'.take H0.length = H0 := by
  rcases g with ⟨rfl, rfl, rfl⟩ | g
  · exact ⟨_, _, rfl, .inr ⟨true, rfl⟩, by simp⟩
  · obtain ⟨H', h1, h2, h3, h4⟩ := g.frz (d := d) (bar := bar) (by omega) (Nat.one_dvd _) nats_plain hb
    exact ⟨_, _, h1, isL.out, h4⟩
theorem OG.len {H0 : Heap} {l : List Nat} {v : AV} (g : OG H0 l v H) : H0.length ≤ H.length := by
  rcases g with ⟨rfl, rfl, rfl⟩ | g
  · exact Nat.le_refl _
  · exact g.len

/-- the heap while a list is written -/
def HW (H : Heap) (n : Nat) (w : Nat → Nat) : Heap := H ++ [.row 0 [] 0 true, .row 0 (wc n w) 0 false]
theorem l147 {n : Nat} {l : List ZZ} (hn : n ≤ 9) (hbar : bar ≤ H.length) {R : PQ} :
    ∀ (k i : Nat), i + k + 2 = n → ∀ (w : Nat → Nat) (g : Nat → Bool) (out : List Nat) (v : AV) (H1 : Heap), Inv n l w g (k + 2) → OG (HW H n w) out v H1 → out.length + k < 100 →
    (∀ w' v' H2, OG (HW H n w') (out ++ wrF n k w) v' H2 → R (.exit 0) [(1, .vec (H.length + 1) 0 0 n 1), (5, v'), (13, .int .i64 ((n : Int) - 2)), (14, .int .i64 ((n : Int) - 2)), (15, .bool false)] H2) →
    Wp E H.length bar (.loop c147_l0) [(1, .vec (H.length + 1) 0 0 n 1), (5, v), (13, .int .i64 ((n : Int) - 2)), (14, .int .i64 (i : Nat))] H1 R := by
  intro k
  induction k with
  | zero =>
    intro i hi w g out v H1 hI ho hl h
    have hlt : ¬ (i : Int) < (n : Int) - 2 := by omega
    have e : (n : Int) - 2 = (i : Int) := by omega
    simp only [wrF, List.append_nil] at h
    rw [e] at h ⊢
    rw [wp_round c147_l0.eq_1]
    simp [go_sem]
    exact h w v H1 ho
  | succ k ih =>
    intro i hi w g out v H1 hI ho hl h
    have hlt : (i : Int) < (n : Int) - 2 := by omega
    obtain ⟨k0, to, a1, a2, a3, a4, a5, a6, a7, a8⟩ := hI.next hn
    rw [a8] at h
    have hwc : H1[H.length + 1]? = some (.row 0 (wc n w) 0 false) := ho.get (by simp [HW, own_get])
    have hlf : leafB (w k0) = true := by unfold leafB; rw [a6]; rfl
    have hnb : bar ≤ H1.length := by
      have := ho.len
      unfold HW at this
      rw [List.length_append] at this; omega
    rw [wp_round c147_l0.eq_1]
    simp [go_sem, hlt]
    refine k148 (RW.vec hwc) hI.lt hn a1 hlf a5 ?_
    simp [go_sem, a1, aload, hwc, wc_get, wc_getE, wc_len]
    refine k150 (hI.lt k0) a6 ?_
    simp [go_sem]
    refine k65 hwc hn hI.lt a1 a2 (by omega) ?_
    have ho2 := ho.set (i := H.length + 1) (b := .row 0 (wc n (tieW w k0 to)) 0 false) (by simp [HW])
    have eH : (HW H n w).set (H.length + 1) (.row 0 (wc n (tieW w k0 to)) 0 false) = HW H n (tieW w k0 to) := by simp [HW, own_set]
    rw [eH] at ho2
    simp [go_sem, aop, fillA, setCells, AV.cells, chunks]
    refine ho2.add (by simp [HW]; omega) (by simp [HW]) (by omega) fun v' H' tc ho3 => ?_
    simp [go_sem, i64_suc (show i < 1000000 by omega)]
    refine ih (i + 1) (by omega) _ _ _ v' H' a7 ho3 (by simp; omega) fun w' v'' H2 ho4 => h w' v'' H2 ?_
    simpa using ho4
end Go.Proofs.YtoipleipokpnaaaGreat.Code
end

section
namespace Go.Proofs.YtoipleipokpnaaaGreat.Code
open Go Go.Ab
variable {pure : Bool} {base bar : Nat} {H : Heap} {Q : AV → Heap → Prop}

/-! a tree that was checked has the properties that writing needs -/
theorem Sm_zero : ∀ n, Sm n (fun _ => 0) = 0 := fun n => by induction n with
  | zero => rfl
  | succ n ih => simp only [Sm]; omega
theorem Sm_one : ∀ n, Sm n (fun _ => 1) = n := fun n => by induction n with
  | zero => rfl
  | succ n ih => simp only [Sm]; omega
theorem bitsN_set : ∀ s, s < 512 → ∀ b, b < 9 → s.testBit b = false → (bitsN (bxor s (pw b))).length = (bitsN s).length + 1 := by decide +kernel
theorem bitsN_zero : (bitsN 0).length = 0 := by decide

/-- masks and their number of bits -/
theorem wd_sum {n : Nat} (hn : n ≤ 9) : ∀ {r b : List ZZ} {w : Nat → Nat}, Wd n b w → errL n b r = 0 → Sm n (fun x => (bitsN (w x)).length) = 2 * b.length → ∃ w', Wd n (b ++ r) w' ∧ Sm n (fun x => (bitsN (w' x)).length) = 2 * (b ++ r).length
  | [], b, w, hw, _, hs => ⟨w, by rw [List.append_nil]; exact ⟨hw, hs⟩⟩
  | p :: r, b, w, hw, he, hs => by
    unfold errL at he
    split at he
    · rename_i h1; exact absurd he h1
    · rename_i h1
      split at he
      · cases he
      · rename_i h2
        have hok := mayS_ok.1 (show mayS n p = 0 by simpa using h1)
        obtain ⟨a, c⟩ := p
        obtain ⟨q1, q2, q3, q4, q5⟩ := hok
        simp only at q1 q2 q3 q4 q5
        obtain ⟨a, rfl⟩ := Int.eq_ofNat_of_zero_le q1
        obtain ⟨c, rfl⟩ := Int.eq_ofNat_of_zero_le q2
        have ha : a < n := by omega
        have hc : c < n := by omega
        have hac : a ≠ c := by omega
        have ht : tieB b a c = false := by simpa using h2
        have hw' := hw.tie hn ha hc hac ht
        have h1 : (w a).testBit c = false := by rw [hw.bit]; exact ht
        have h3 : (w c).testBit a = false := by rw [hw.bit, tieB_symm]; exact ht
        have hca : upd w a (bxor (w a) (pw c)) c = w c := by unfold upd; rw [if_neg (fun e => hac e.symm)]
        have c1 := bitsN_set (w a) (hw.lt a) c (by omega) h1
        have c2 := bitsN_set (w c) (hw.lt c) a (by omega) h3
        have s1 := Sm_upd (n := n) (G := fun x => (bitsN (w x)).length) (F := fun x => (bitsN (upd w a (bxor (w a) (pw c)) x)).length) (a := a) (d := 1) ha (fun x hx hne => by simp [upd, hne]) (by simpa [upd] using c1.symm)
        have s2 := Sm_upd (n := n) (G := fun x => (bitsN (upd w a (bxor (w a) (pw c)) x)).length) (F := fun x => (bitsN (tieW w a c x)).length) (a := c) (d := 1) hc (fun x hx hne => by simp [tieW, upd, hne]) (by
          have wt : tieW w a c c = bxor (w c) (pw a) := by unfold tieW; rw [hca]; unfold upd; rw [if_pos rfl]
          rw [wt]; simp only [hca]; exact c2.symm)
        obtain ⟨w', k1, k2⟩ := wd_sum hn (r := r) (b := b ++ [((a : Int), (c : Int))]) hw' he (by rw [List.length_append, List.length_singleton]; omega)
        refine ⟨w', ?_, ?_⟩
        · simpa using k1
        · simpa using k2
theorem wd_unique {n : Nat} {b : List ZZ} {w w' : Nat → Nat} (h : Wd n b w) (h' : Wd n b w') : w = w' := by
  funext x
  apply Nat.eq_of_testBit_eq
  intro i
  rw [h.bit, h'.bit]
theorem Rch.trans {f : Nat → Nat → Bool} {x y z : Nat} (h1 : Rch f x y) (h2 : Rch f y z) : Rch f x z := by
  induction h2 with
  | refl => exact h1
  | step _ hf ih => exact .step ih hf
theorem Rch.symm {f : Nat → Nat → Bool} (hs : ∀ a b, f a b = f b a) {x y : Nat} (h : Rch f x y) : Rch f y x := by
  induction h with
  | refl => exact .refl _
  | step _ hf ih => exact Rch.trans (.step (.refl _) (by rw [hs]; exact hf)) ih

theorem inv_start {n : Nat} {l : List ZZ} {w : Nat → Nat} (hn : n ≤ 9) (hw : Wd n l w) (he : errL n [] l = 0) (hl : l.length < n) (hc : Conn n l) : Inv n l w (fun _ => false) n := by
  obtain ⟨w', k1, k2⟩ := wd_sum hn (r := l) Wd.nil he (by simp [bitsN_zero, Sm_zero])
  rw [List.nil_append] at k1 k2
  obtain rfl := wd_unique hw k1
  refine ⟨hw.lt, fun x y => by rw [hw.bit]; simp, fun x y h => tieB_lt hw.val h, ?_, fun x y hx hy _ _ => ?_, by omega⟩
  · have := Sm_one n
    unfold lftN; simpa using this
  · have ef : (fun a b => (w a).testBit b) = tieB l := by funext a b; exact hw.bit a b
    rw [ef]
    exact Rch.trans (Rch.symm (fun a b => tieB_symm) (hc x hx)) (hc y hy)

theorem OG.one {H0 : Heap} {l : List Nat} {v : AV} (g : OG H0 l v H) : v.isTup = false := by
  rcases g with ⟨rfl, rfl, rfl⟩ | g
  · rfl
  · exact (Grow.one g).1
theorem ifc_frz {u : AV} {l : List Nat} {t : TypeId} {d : Nat} (hu : isL u l) : frz (d + 2) bar H (.ifc t u) = some (.ifc t u, H) := by
  have := hu.frz (bar := bar) (H := H) (d := d)
  simp [frz, this]
theorem ifc_top {u : AV} {l : List Nat} {t : TypeId} (hu : isL u l) : (AV.ifc t u).top = 0 := by
  have := hu.top
  simpa [AV.top] using this
/-- the question for the list -/
theorem k147 {n : Nat} {l : List ZZ} {w : Nat → Nat} {ex : Bool} (hn : n ≤ 9) (h1 : 1 ≤ n) (hI : Inv n l w (fun _ => false) n) (hbar : bar ≤ H.length)
    (h : ∀ u, isL u (wrF n (n - 2) w) → Q (.ifc 25 u) H) : WpCall E pure base bar 147 [.agg [], .lst 1 ex (wc n w)] H Q := by
  rw [call147]
  have e0 : frzAll bar H [.agg [], .lst 1 ex (wc n w)] = some ([.agg [], .lst 1 ex (wc n w)], H) := rfl
  rw [e0]
  have hb' : (if pure = true then H.length else bar) ≤ H.length := bar_if hbar
  have hi2 : IntKind.i64.wrap ((n : Int) - 2) = (n : Int) - 2 := Go.IntWalk.i64_in _ (by omega)
  simp [go_sem, WpFun, c147, aload, AV.isTup, AV.cells]
  refine k84 h1 hn ?_
  simp [go_sem, fillA, setCells, chunks, aop, hi2]
  by_cases hn2 : 2 ≤ n
  · refine l147 (l := l) hn hb' (n - 2) 0 (by omega) w (fun _ => false) [] _ _ (by rw [show n - 2 + 2 = n by omega]; exact hI) (.inl ⟨rfl, rfl, rfl⟩) (by simp; omega) fun w' v' H2 ho => ?_
    rw [List.nil_append] at ho
    obtain ⟨u, H3, f1, f2, f3⟩ := ho.frz (d := 5) (bar := if pure = true then H.length else bar) (by simp [HW]; omega)
    have hk := h u f2
    have e3 : H3.take H.length = H := by
      have := congrArg (List.take H.length) f3
      rw [List.take_take] at this
      simp [HW] at this
      exact this
    simp [go_sem, aop, Opd.evo, ho.one, f1, e3, ifc_frz f2, ifc_top f2]
    exact hk
  · obtain rfl : n = 1 := by omega
    have hk := h (.lst 1 true []) (.inr ⟨true, rfl⟩)
    rw [wp_round c147_l0.eq_1]
    have hu : isL (.lst 1 true []) [] := .inr ⟨true, rfl⟩
    simp [go_sem, aop, Opd.evo, ifc_frz hu, ifc_top hu]
    exact hk
end Go.Proofs.YtoipleipokpnaaaGreat.Code
end

section
namespace Go.Proofs.YtoipleipokpnaaaGreat.Code
open Go Go.Ab
variable {pure : Bool} {base bar : Nat} {H : Heap} {Q : AV → Heap → Prop}

theorem frz_nili {d : Nat} : frz (d + 1) bar H .nili = some (.nili, H) := rfl
theorem frz_q0 {t : TypeId} {d : Nat} : frz (d + 3) bar H (.ifc t (.agg [])) = some (.ifc t (.agg []), H) := rfl
/-- a wood is frozen -/
theorem wood_frz {id ver n fz : Nat} {ex : Bool} {w : Nat → Nat} {d : Nat} (h : H[id]? = some (.row ver (wc n w) fz ex)) (hbar : bar ≤ id) : ∃ b, frz (d + 3) bar H (.vec id ver 0 n 1) = some (.lst 1 false (wc n w), H.set id b) := by
  refine ⟨.row ver (wc n w) (max fz (0 + n)) ex, ?_⟩
  have e := frz_vec (d := d + 2) (bar := bar) (H := H) (id := id) (ver := ver) (off := 0) (len := n) (sz := 1) (cs := wc n w) (fz := fz) (ex := ex) (xs := wc n w) (H' := H.set id (.row ver (wc n w) (max fz (0 + n)) ex)) h (by simp [wc_len]) hbar (by
    have e1 : ((wc n w).drop 0).take (n * 1) = wc n w := by
      rw [List.drop_zero, Nat.mul_one, List.take_of_length_le (by rw [wc_len]; exact Nat.le_refl _)]
    rw [e1, plains wc_plain, Nat.mul_one])
  have e2 : chunks 1 n (wc n w) = wc n w := by have := chunks_one (l := wc n w); rwa [wc_len] at this
  rw [e2] at e
  exact e
theorem k147v {id ver n fz : Nat} {l : List ZZ} {w : Nat → Nat} {ex : Bool} (hid : H[id]? = some (.row ver (wc n w) fz ex)) (hib : bar ≤ id) (hn : n ≤ 9) (h1 : 1 ≤ n) (hI : Inv n l w (fun _ => false) n)
    (h : ∀ u b, isL u (wrF n (n - 2) w) → Q (.ifc 25 u) (H.set id b)) : WpCall E pure base bar 147 [.agg [], .vec id ver 0 n 1] H Q := by
  have hlt := (List.getElem?_eq_some_iff.1 hid).1
  obtain ⟨b, f1⟩ := wood_frz (d := 5) hid hib
  have k := k147 (pure := pure) (base := base) (bar := bar) (H := H.set id b) (Q := Q) (ex := false) hn h1 hI (by simp; omega) fun u hu => h u b hu
  have e1 : frzAll bar H [.agg [], .vec id ver 0 n 1] = some ([.agg [], .lst 1 false (wc n w)], H.set id b) := by
    have : frz 8 bar H (.agg []) = some (.agg [], H) := rfl
    simp [frzAll, frz.frzs, frzsW, f1, this]
  have e2 : frzAll bar (H.set id b) [.agg [], .lst 1 false (wc n w)] = some ([.agg [], .lst 1 false (wc n w)], H.set id b) := rfl
  rw [call147, e2] at k
  rw [call147, e1]
  exact k

theorem k78 {n : Int} {q : AV} {l : List ZZ} (hq : isP q l) (hl : l.length < 1000) (hbar : bar ≤ H.length)
    (h1 : errT n l ≠ 0 → Q (.tup [.nili, .int .i64 (errT n l)]) H)
    (h2 : ∀ (m : Nat) w u, n = m → 1 ≤ m → m ≤ 9 → errT n l = 0 → Wd m l w → isL u (wrF m (m - 2) w) → Q (.tup [.ifc 25 u, .int .i64 0]) H) : WpCall E pure base bar 78 [.agg [.int .i64 n, q], .ifc 90 (.agg [])] H Q := by
  rw [call78]
  have e0 : frzAll bar H [.agg [.int .i64 n, q], .ifc 90 (.agg [])] = some ([.agg [.int .i64 n, q], .ifc 90 (.agg [])], H) := by simp [frzAll, frz.frzs, frzsW, frz_agg, frz_int, hq.frz, frz_q0]
  rw [e0]
  have hb' : (if pure = true then H.length else bar) ≤ H.length := bar_if hbar
  simp [go_sem, WpFun, c78, hq.isTup, hq.cells, aload, AV.isTup, AV.cells]
  refine k55 hq hl (by simp; omega) (fun G he => ?_) (fun m w hm p1 p2 hw he => ?_)
  · have hh := h1 he
    simp [go_sem, he, frz_nili]
    exact hh
  · have hh := h2 m w
    have hE := he
    obtain ⟨m', em, _, _, hv, hE, hlen, hc⟩ := errT_ok he
    obtain rfl : m = m' := by omega
    have hI := inv_start p2 hw hE hlen hc
    simp [go_sem, Nat.add_assoc]
    refine k147v (fz := 0) (ex := true) (w := w) (l := l) (by simp [own_get]) (by omega) p2 p1 hI fun u b hu => ?_
    have hk := hh u hm p1 p2 he hw hu
    simp [go_sem, ifc_frz hu, ifc_top hu, tops_cons, tops_nil, own_set]
    exact hk

theorem k51 {n : Int} {q : AV} {l : List ZZ} (hq : isP q l) (hl : l.length < 1000) (hbar : bar ≤ H.length)
    (h1 : errT n l ≠ 0 → Q (.tup [.nils, .int .i64 (errT n l)]) H)
    (h2 : ∀ (m : Nat) w u, n = m → 1 ≤ m → m ≤ 9 → errT n l = 0 → Wd m l w → isL u (wrF m (m - 2) w) → Q (.tup [u, .int .i64 0]) H) : WpCall E pure base bar 51 [.agg [.int .i64 n, q], .ifc 90 (.agg [])] H Q := by
  rw [call51]
  have e0 : frzAll bar H [.agg [.int .i64 n, q], .ifc 90 (.agg [])] = some ([.agg [.int .i64 n, q], .ifc 90 (.agg [])], H) := by simp [frzAll, frz.frzs, frzsW, frz_agg, frz_int, hq.frz, frz_q0]
  rw [e0]
  have hb' : (if pure = true then H.length else bar) ≤ H.length := bar_if hbar
  simp [go_sem, WpFun, c51, hq.isTup, hq.cells, aload, AV.isTup, AV.cells]
  refine k78 hq hl (by simp; omega) (fun he => ?_) (fun m w u hm p1 p2 he hw hu => ?_)
  · have hh := h1 he
    simp [go_sem, aop, Opd.evo, mres]
    exact hh
  · have hh := h2 m w u hm p1 p2 he hw hu
    simp [go_sem, aop, Opd.evo, mres, hu.frz, hu.top, tops_cons, tops_nil]
    exact hh

theorem k23 {n : Int} {q : AV} {l : List ZZ} (hq : isP q l) (hl : l.length < 1000) (hbar : bar ≤ H.length)
    (h1 : errT n l ≠ 0 → Q (.tup [.nils, .int .i64 (errT n l)]) H)
    (h2 : ∀ (m : Nat) w u, n = m → 1 ≤ m → m ≤ 9 → errT n l = 0 → Wd m l w → isL u (wrF m (m - 2) w) → Q (.tup [u, .int .i64 0]) H) : WpCall E pure base bar 23 [.agg [.int .i64 n, q]] H Q := by
  rw [call23]
  have e0 : frzAll bar H [.agg [.int .i64 n, q]] = some ([.agg [.int .i64 n, q]], H) := by simp [frzAll, frz.frzs, frzsW, frz_agg, frz_int, hq.frz]
  rw [e0]
  have hb' : (if pure = true then H.length else bar) ≤ H.length := bar_if hbar
  simp [go_sem, WpFun, c23, hq.isTup, hq.cells, aload, AV.isTup, AV.cells, aop, Opd.evo, fillA, setCells]
  refine k51 hq hl (by simp; omega) (fun he => ?_) (fun m w u hm p1 p2 he hw hu => ?_)
  · have hh := h1 he
    simp [go_sem]
    exact hh
  · have hh := h2 m w u hm p1 p2 he hw hu
    simp [go_sem, hu.frz, hu.top, tops_cons, tops_nil]
    exact hh
end Go.Proofs.YtoipleipokpnaaaGreat.Code
end

section
namespace Go.Proofs.YtoipleipokpnaaaGreat.Code
open Go Go.Ab
variable {pure : Bool} {base bar : Nat} {H : Heap} {Q : AV → Heap → Prop}

/-! the reference: a list that is written -/
def gc (n : Nat) (g : Nat → Bool) : List AV := (List.range n).map fun a => .bool (g a)
theorem gc_len {n : Nat} {g : Nat → Bool} : (gc n g).length = n := by simp [gc]
theorem gc_get {n i : Nat} {g : Nat → Bool} (hi : i < n) : (gc n g)[i]? = some (.bool (g i)) := by simp [gc, hi]
theorem gc_getE {n i : Nat} {g : Nat → Bool} (h : i < (gc n g).length) : (gc n g)[i]'h = .bool (g i) := by simp [gc]
theorem gc_set {n i : Nat} {g : Nat → Bool} {b : Bool} (hi : i < n) : setCells (gc n g) i [.bool b] = gc n (updB g i b) := by
  simp only [setCells]
  apply List.ext_getElem?
  intro j
  rw [List.getElem?_set]
  by_cases hj : i = j
  · subst hj
    rw [if_pos rfl, if_pos (by rw [gc_len]; exact hi), gc_get hi]; simp [updB]
  · rw [if_neg hj]
    rcases Nat.lt_or_ge j n with h | h
    · rw [gc_get h, gc_get h]; simp [updB, show ¬ j = i by omega]
    · rw [List.getElem?_eq_none (by rw [gc_len]; exact h), List.getElem?_eq_none (by rw [gc_len]; exact h)]

def othF (n : Nat) (l : List ZZ) (k : Nat) (g : Nat → Bool) : List Nat := (List.range n).filter fun b => decide (b ≠ k) && !g b && tieB l k b

theorem l52 {n k gid : Nat} {q : AV} {l : List ZZ} {g : Nat → Bool} {gx : Bool} {H0 : Heap} (hq : isP q l) (hl : l.length < 1000) (hn : n ≤ 9) {p : Nat} (hp : H0[p]? = some (.row 0 [.int .i64 (n : Nat), q] 0 true)) (hg : H0[gid]? = some (.row 0 (gc n g) 0 gx)) (hb : bar ≤ H0.length) (hbase : base ≤ H0.length) {R : PQ} :
    ∀ (j i : Nat), i + j = n → ∀ (v : AV) (H : Heap), Grow 1 (nats (othF i l k g)) H0 v H →
    (∀ v' H', Grow 1 (nats (othF n l k g)) H0 v' H' → R (.exit 0) [(1, .int .i64 (k : Nat)), (2, .vec gid 0 0 n 1), (3, .ptr p 0 0), (7, v'), (8, .int .i64 (n : Nat)), (12, .bool false)] H') →
    Wp E base bar (.loop c52_l0) [(1, .int .i64 (k : Nat)), (2, .vec gid 0 0 n 1), (3, .ptr p 0 0), (7, v), (8, .int .i64 (i : Nat))] H R := by
  intro j
  induction j with
  | zero =>
    intro i hi v H gr h
    obtain rfl : i = n := by omega
    have hbox := gr.get hp
    rw [wp_round c52_l0.eq_1]
    simp [go_sem, aload, hbox]
    exact h v H gr
  | succ j ih =>
    intro i hi v H gr h
    have hlt : i < n := by omega
    have hbox := gr.get hp
    have hgone := gr.get hg
    have hlen : (othF i l k g).length ≤ i := by
      have := List.length_filter_le (fun b => decide (b ≠ k) && !g b && tieB l k b) (List.range i)
      rwa [List.length_range] at this
    have hr : othF (i + 1) l k g = if decide (i ≠ k) && !g i && tieB l k i then othF i l k g ++ [i] else othF i l k g := by
      unfold othF
      rw [List.range_succ, List.filter_append, List.filter_cons, List.filter_nil]
      split <;> simp
    have hnext := fun v H gr => ih (i + 1) (by omega) v H gr h
    rw [wp_round c52_l0.eq_1]
    by_cases hik : i = k
    · have e : othF (i + 1) l k g = othF i l k g := by rw [hr]; simp [hik]
      subst hik
      simp [go_sem, aload, hbox, hlt, i64_suc (show i < 1000000 by omega)]
      exact hnext v H (by rw [e]; exact gr)
    · have hik' : ¬ (i : Int) = (k : Int) := by omega
      cases hgi : g i with
      | true =>
        have e : othF (i + 1) l k g = othF i l k g := by rw [hr]; simp [hgi]
        simp [go_sem, aload, hbox, hlt, hik, hik', hgone, gc_len, gc_get, gc_getE, hgi, i64_suc (show i < 1000000 by omega)]
        exact hnext v H (by rw [e]; exact gr)
      | false =>
        simp [go_sem, aload, hbox, hlt, hik, hik', hgone, gc_len, gc_get, gc_getE, hgi]
        refine k61 hq hl ?_
        rw [tieZ_nat]
        cases ht : tieB l k i with
        | false =>
          have e : othF (i + 1) l k g = othF i l k g := by rw [hr]; simp [ht]
          simp [go_sem, i64_suc (show i < 1000000 by omega)]
          exact hnext v H (by rw [e]; exact gr)
        | true =>
          have e : othF (i + 1) l k g = othF i l k g ++ [i] := by rw [hr]; simp [hik, hgi, ht]
          simp [go_sem, aop, fillA, setCells, AV.cells, chunks]
          refine gr.nat hb hbase (by omega) fun v' H' tc g' => ?_
          simp [go_sem, i64_suc (show i < 1000000 by omega)]
          exact hnext v' H' (by rw [e]; exact g')
theorem k52 {n k gid : Nat} {q : AV} {l : List ZZ} {g : Nat → Bool} {gx : Bool} (hq : isP q l) (hl : l.length < 1000) (hn : n ≤ 9) (hg : H[gid]? = some (.row 0 (gc n g) 0 gx)) (hb : bar ≤ H.length) (h : Q (outL 1 (nats (othF n l k g))) H) :
    WpCall E pure base bar 52 [.agg [.int .i64 (n : Nat), q], .int .i64 (k : Nat), .vec gid 0 0 n 1] H Q := by
  rw [call52]
  have hb' : (if pure = true then H.length else bar) ≤ H.length := bar_if hb
  have hlt := (List.getElem?_eq_some_iff.1 hg).1
  simp [go_sem, WpFun, c52, hq.isTup, hq.cells, aload, AV.isTup, AV.cells]
  refine l52 (H0 := H ++ [.row 0 [.int .i64 (n : Nat), q] 0 true]) (k := k) hq hl hn (p := H.length) (by simp) (by rw [List.getElem?_append_left hlt]; exact hg) (by simp; omega) (by simp) n 0 (by omega) .nils _ (by simpa [othF, nats] using Grow.nil) fun v' H' gr => ?_
  simp [go_sem]
  refine gr.out (by simp; omega) (by simp) ?_
  rw [List.take_left]; exact h

theorem oth_bits {n left k : Nat} {l : List ZZ} {w : Nat → Nat} {g : Nat → Bool} (hn : n ≤ 9) (hI : Inv n l w g left) (hg : g k = false) : othF n l k g = bitsN (w k) := by
  unfold othF bitsN
  have e : (List.range 9).filter (w k).testBit = (List.range n).filter (w k).testBit := by
    have h1 : List.range 9 = List.range n ++ List.range' n (9 - n) := by
      have h2 := List.range'_append_1 (s := 0) (m := n) (n := 9 - n)
      rw [Nat.zero_add] at h2
      rw [List.range_eq_range', List.range_eq_range', h2]; congr 1; omega
    rw [h1, List.filter_append]
    have h3 : (List.range' n (9 - n)).filter (w k).testBit = [] := by
      rw [List.filter_eq_nil_iff]
      intro b hb hc
      have := (List.mem_range'_1.1 hb).1
      rw [hI.bit] at hc
      simp only [Bool.and_eq_true] at hc
      have := hI.inn _ _ hc.1.1
      omega
    rw [h3, List.append_nil]
  rw [e]
  apply List.filter_congr
  intro b hb
  rw [hI.bit, hg]
  cases ht : tieB l k b with
  | false => simp
  | true =>
    have := hI.inn _ _ ht
    simp [show b ≠ k by omega]

/-- the heap while the reference writes -/
def HG (H : Heap) (n : Nat) (q : AV) (g : Nat → Bool) : Heap := H ++ [.row 0 [.int .i64 (n : Nat), q] 0 true, .row 0 (gc n g) 0 true]
theorem l57a {n left k0 : Nat} {q v : AV} {l : List ZZ} {w : Nat → Nat} {g : Nat → Bool} {acc : List Nat} {H1 : Heap} (hq : isP q l) (hl : l.length < 1000) (hn : n ≤ 9) (hI : Inv n l w g left) (gr : Grow 1 (nats acc) (HG H n q g) v H1) (hb : bar ≤ H.length)
    (hk : k0 < n) (hgk : g k0 = false) (hlf : leafB (w k0) = true) (hpre : ∀ j, j < k0 → leafB (w j) = false) {R : PQ} :
    ∀ (j i : Nat), i + j = k0 →
    R (.exit 2) [(1, .ptr H.length 0 0), (3, v), (4, .vec (H.length + 1) 0 0 n 1), (5, .int .i64 (left : Nat)), (6, .int .i64 (k0 : Nat)), (27, .bool false)] H1 →
    Wp E H.length bar (.loop c57_l0) [(1, .ptr H.length 0 0), (3, v), (4, .vec (H.length + 1) 0 0 n 1), (5, .int .i64 (left : Nat)), (6, .int .i64 (i : Nat))] H1 R := by
  have hbox : H1[H.length]? = some (.row 0 [.int .i64 (n : Nat), q] 0 true) := gr.get (by simp [HG])
  have hgone : H1[H.length + 1]? = some (.row 0 (gc n g) 0 true) := gr.get (by simp [HG])
  have hnb : bar ≤ H1.length := by
    have := gr.len
    unfold HG at this
    rw [List.length_append] at this; omega
  intro j
  induction j with
  | zero =>
    intro i hi h
    obtain rfl : i = k0 := by omega
    have ho : isL (outL 1 (nats (othF n l i g))) (othF n l i g) := isL.out
    have h1 : (othF n l i g).length = 1 := by rw [oth_bits hn hI hgk]; simpa [leafB] using hlf
    rw [wp_round c57_l0.eq_1]
    simp [go_sem, hk, aload, hgone, gc_get, gc_getE, gc_len, hgk, hbox]
    refine k52 (gx := true) hq hl hn hgone hnb ?_
    simp [go_sem, ho.len, h1]
    exact h
  | succ j ih =>
    intro i hi h
    have hlt : i < k0 := by omega
    have hin : i < n := by omega
    have hnext := ih (i + 1) (by omega) h
    rw [wp_round c57_l0.eq_1]
    cases hgi : g i with
    | true =>
      simp [go_sem, hin, aload, hgone, gc_get, gc_getE, gc_len, hgi, i64_suc (show i < 1000000 by omega)]
      exact hnext
    | false =>
      have ho : isL (outL 1 (nats (othF n l i g))) (othF n l i g) := isL.out
      have h1 : ¬ (othF n l i g).length = 1 := by
        have := hpre i hlt
        rw [oth_bits hn hI hgi]; simpa [leafB] using this
      simp [go_sem, hin, aload, hgone, gc_get, gc_getE, gc_len, hgi, hbox]
      refine k52 (gx := true) hq hl hn hgone hnb ?_
      have h1' : ¬ ((othF n l i g).length : Int) = 1 := by omega
      simp [go_sem, ho.len, h1, h1', i64_suc (show i < 1000000 by omega)]
      exact hnext

theorem l57b {n : Nat} {q : AV} {l : List ZZ} (hq : isP q l) (hl : l.length < 1000) (hn : n ≤ 9) (hb : bar ≤ H.length) {R : PQ} :
    ∀ (k : Nat) (w : Nat → Nat) (g : Nat → Bool) (acc : List Nat) (v : AV) (H1 : Heap), Inv n l w g (k + 2) → Grow 1 (nats acc) (HG H n q g) v H1 → acc.length + k < 100 → k < 9 →
    (∀ g' v' H2, Grow 1 (nats (acc ++ wrF n k w)) (HG H n q g') v' H2 → R (.exit 0) [(1, .ptr H.length 0 0), (3, v'), (4, .vec (H.length + 1) 0 0 n 1), (5, .int .i64 2), (13, .bool false)] H2) →
    Wp E H.length bar (.loop c57_l1) [(1, .ptr H.length 0 0), (3, v), (4, .vec (H.length + 1) 0 0 n 1), (5, .int .i64 ((k + 2 : Nat) : Int))] H1 R := by
  intro k
  induction k with
  | zero =>
    intro w g acc v H1 hI gr hlen hk9 h
    simp only [wrF, List.append_nil] at h
    rw [wp_round c57_l1.eq_1]
    simp [go_sem]
    exact h g v H1 gr
  | succ k ih =>
    intro w g acc v H1 hI gr hlen hk9 h
    obtain ⟨k0, to, a1, a2, a3, a4, a5, a6, a7, a8⟩ := hI.next hn
    rw [a8] at h
    have hlf : leafB (w k0) = true := by unfold leafB; rw [a6]; rfl
    have hbox : H1[H.length]? = some (.row 0 [.int .i64 (n : Nat), q] 0 true) := gr.get (by simp [HG])
    have hgone : H1[H.length + 1]? = some (.row 0 (gc n g) 0 true) := gr.get (by simp [HG])
    have hnb : bar ≤ H1.length := by
      have := gr.len
      unfold HG at this
      rw [List.length_append] at this; omega
    have e3 : (2 : Int) < ((k + 1 + 2 : Nat) : Int) := by omega
    have e4 : IntKind.i64.wrap (((k + 1 + 2 : Nat) : Int) - 1) = ((k + 2 : Nat) : Int) := by
      rw [Go.IntWalk.i64_in _ (by omega)]; omega
    have hnext := ih (tieW w k0 to) (updB g k0 true) (acc ++ [to])
    have l57a' := fun {R : PQ} hr => l57a (v := v) (H := H) (bar := bar) (R := R) hq hl hn hI gr hb a1 a4 hlf a5 k0 0 (by omega) hr
    have c1 : bar ≤ H.length + 1 := by omega
    generalize hL : k + 1 + 2 = L at *
    rw [wp_round c57_l1.eq_1]
    simp [go_sem, e3]
    refine l57a' ?_
    simp [go_sem, aload, hbox]
    refine k52 (gx := true) hq hl hn hgone hnb ?_
    have ho : isL (outL 1 (nats (othF n l k0 g))) [to] := by
      rw [← a6, ← oth_bits hn hI a4]; exact isL.out
    simp [go_sem, ho.ix0, aload, aop, fillA, setCells, AV.cells, chunks]
    refine gr.nat (by simp [HG]; omega) (by simp [HG]) (by omega) fun v' H' tc gr' => ?_
    have hgone' : H'[H.length + 1]? = some (.row 0 (gc n g) 0 true) := gr'.get (by simp [HG])
    simp [go_sem, a1, storeWp, astore, AV.isTup, AV.cells, hgone', gc_len, c1, gc_set, show k0 + 1 ≤ n from a1, e4]
    have gr2 := gr'.set (i := H.length + 1) (b := .row 0 (gc n (updB g k0 true)) 0 true) (by simp [HG])
    have eH : (HG H n q g).set (H.length + 1) (.row 0 (gc n (updB g k0 true)) 0 true) = HG H n q (updB g k0 true) := by simp [HG, own_set]
    rw [eH] at gr2
    refine hnext v' _ a7 gr2 (by simp; omega) (by omega) fun g' v'' H2 gr3 => h g' v'' H2 ?_
    simpa using gr3
end Go.Proofs.YtoipleipokpnaaaGreat.Code
end

section
namespace Go.Proofs.YtoipleipokpnaaaGreat.Code
open Go Go.Ab
variable {pure : Bool} {base bar : Nat} {H : Heap} {Q : AV → Heap → Prop}

theorem k57 {n : Nat} {q : AV} {l : List ZZ} {w : Nat → Nat} (hq : isP q l) (hl : l.length < 1000) (hn : n ≤ 9) (h1 : 1 ≤ n) (hI : Inv n l w (fun _ => false) n) (hb : bar ≤ H.length) (h : Q (outL 1 (nats (wrF n (n - 2) w))) H) :
    WpCall E pure base bar 57 [.agg [.int .i64 (n : Nat), q]] H Q := by
  rw [call57]
  have e0 : frzAll bar H [.agg [.int .i64 (n : Nat), q]] = some ([.agg [.int .i64 (n : Nat), q]], H) := by simp [frzAll, frz.frzs, frzsW, frz_agg, frz_int, hq.frz]
  rw [e0]
  have hb' : (if pure = true then H.length else bar) ≤ H.length := bar_if hb
  have hz : List.flatten (List.replicate n [AV.bool false]) = gc n fun _ => false := by
    simp [gc, List.flatten_replicate_singleton, List.map_const']
  have hbd : n ≤ 140737488355328 := by omega
  simp [go_sem, WpFun, c57, hq.isTup, hq.cells, aload, AV.isTup, AV.cells, aop, AV.asNat, hz, hbd]
  by_cases hn2 : 2 ≤ n
  · obtain ⟨k, rfl⟩ : ∃ k, n = k + 2 := ⟨n - 2, by omega⟩
    refine l57b hq hl hn hb' k w (fun _ => false) [] .nils _ hI (by simpa [nats, HG] using Grow.nil) (by simp; omega) (by omega) fun g' v' H2 gr => ?_
    rw [List.nil_append] at gr
    simp [go_sem]
    refine gr.out (by simp [HG]; omega) (by simp [HG]) ?_
    have : (HG H (k + 2) q g').take H.length = H := by simp [HG]
    rw [this]; exact h
  · obtain rfl : n = 1 := by omega
    rw [wp_round c57_l1.eq_1]
    simp [go_sem]
    exact h

theorem k24 {n : Int} {q : AV} {l : List ZZ} (hq : isP q l) (hl : l.length < 1000) (hbar : bar ≤ H.length)
    (h1 : errT n l ≠ 0 → Q (.tup [.nils, .int .i64 (errT n l)]) H)
    (h2 : ∀ (m : Nat) w u, n = m → 1 ≤ m → m ≤ 9 → errT n l = 0 → Wd m l w → isL u (wrF m (m - 2) w) → Q (.tup [u, .int .i64 0]) H) : WpCall E pure base bar 24 [.agg [.int .i64 n, q]] H Q := by
  rw [call24]
  have e0 : frzAll bar H [.agg [.int .i64 n, q]] = some ([.agg [.int .i64 n, q]], H) := by simp [frzAll, frz.frzs, frzsW, frz_agg, frz_int, hq.frz]
  rw [e0]
  have hb' : (if pure = true then H.length else bar) ≤ H.length := bar_if hbar
  simp [go_sem, WpFun, c24, hq.isTup, hq.cells, aload, AV.isTup, AV.cells]
  refine k28 hq hl (by simp; omega) ?_
  by_cases he : errT n l = 0
  · obtain ⟨m, rfl, p1, p2, hv, hE, hlen, hc⟩ := errT_ok he
    obtain ⟨w, k1, k2⟩ := wd_sum p2 (r := l) Wd.nil hE (by simp [bitsN_zero, Sm_zero])
    rw [List.nil_append] at k1
    have hI := inv_start p2 k1 hE hlen hc
    have ho : isL (outL 1 (nats (wrF m (m - 2) w))) (wrF m (m - 2) w) := isL.out
    have hh := h2 m w _ rfl p1 p2 he k1 ho
    simp [go_sem, he, aload]
    refine k57 hq hl p2 p1 hI (by simp; omega) ?_
    simp [go_sem, ho.frz, ho.top, tops_cons, tops_nil]
    exact hh
  · have hh := h1 he
    simp [go_sem, he]
    exact hh
end Go.Proofs.YtoipleipokpnaaaGreat.Code
end

section
namespace Go.Proofs.YtoipleipokpnaaaGreat.Code
open Go Go.Ab
variable {pure : Bool} {base bar : Nat} {H : Heap} {Q : AV → Heap → Prop}

/-! Read -/
theorem k49l {n : Nat} {ex : Bool} {w : Nat → Nat} (hn : n ≤ 9) (hw : ∀ i, w i < 512) (hbar : bar ≤ H.length)
    (k : ∀ u, isT u n (tidyF (fun a b => (w a).testBit b) n) → Q u H) : WpCall E pure base bar 49 [.lst 1 ex (wc n w)] H Q := by
  rw [call49]
  have e0 : frzAll bar H [.lst 1 ex (wc n w)] = some ([.lst 1 ex (wc n w)], H) := rfl
  rw [e0]
  have kk := k
  obtain ⟨H1, hH⟩ : ∃ H1, H = H1 := ⟨_, rfl⟩
  subst hH
  have hb' : (if pure = true then H.length else bar) ≤ H.length := bar_if hbar
  have hb2 : (if pure = true then H.length else bar) ≤ H.length + 1 := by omega
  simp [go_sem, WpFun, c49, wc_len, fillA, setCells, storeWp, astore, AV.isTup, AV.cells, hb', hb2]
  have tn : TrG (H ++ [.row 0 [.int .i64 0, .nils] 0 true]) n (tidyF (fun a b => (w a).testBit b) 0) .nils (H ++ [.row 0 [.int .i64 0, .nils] 0 true, .row 0 [.int .i64 (n : Nat), .nils] 0 true]) := by
    have := TrG.nil (G := H ++ [.row 0 [.int .i64 0, .nils] 0 true]) (n := n)
    rw [List.append_assoc] at this
    exact this
  have l := fun {R : PQ} hr => l49b (base := H.length) (bar := if pure = true then H.length else bar) (G := H ++ [.row 0 [.int .i64 0, .nils] 0 true]) (t2 := .ptr H.length 0 0) (ex := ex) hw hn (by rw [List.length_append]; omega) (by simp) n 0 (by omega) .nils _ tn (R := R) hr
  simp only [List.length_append, List.length_singleton] at l
  refine l fun v' H' g => ?_
  have hg := g.get
  simp at hg
  simp [go_sem, aload, hg]
  obtain ⟨s1, s2⟩ := Grow.one g
  have hc : H'[H.length]? = some (.row 0 [.int .i64 0, .nils] 0 true) := g.old (by simp)
  rw [storeWp_ptr (size := 2) hc rfl rfl (by omega) (by simp) hb' (.inl (Nat.le_refl _))]
  have g2 := Grow.set g (i := H.length) (b := .row 0 [.int .i64 (n : Nat), v'] 0 true) (by simp)
  have e2 : (H'.set H.length (.row 0 [.int .i64 (n : Nat), v'] 0 true))[H.length]? = some (.row 0 [.int .i64 (n : Nat), v'] 0 true) := Grow.get g2 (by simp [own_set0])
  simp [go_sem, aload_ptr e2]
  obtain ⟨H2, f1, f2, f3, f4⟩ := Grow.frz g2 (d := 4) (bar := if pure = true then H.length else bar) (by decide) ⟨_, prs_length⟩ prs_plain (by simp; omega)
  have e3 : H2.take H.length = H := by
    have := congrArg (List.take H.length) f4
    rw [List.take_take] at this
    simp at this
    exact this
  rw [show 4 + 3 = 7 from rfl] at f1
  simp only [f1]
  have hk := kk _ ⟨_, isP.out, rfl⟩
  simp [go_sem, isP.out.top, e3]
  exact hk

def firstF (n : Nat) (p : Nat → Bool) : Nat := ((List.range n).find? p).getD 0
theorem firstF_ok {n : Nat} {p : Nat → Bool} (h : ∃ k, k < n ∧ p k = true) : firstF n p < n ∧ p (firstF n p) = true ∧ ∀ j, j < firstF n p → p j = false := by
  obtain ⟨k0, a1, a2⟩ := h
  unfold firstF
  cases hf : (List.range n).find? p with
  | none =>
    have := List.find?_eq_none.1 hf k0 (List.mem_range.2 a1)
    exact absurd a2 this
  | some k =>
    obtain ⟨b1, l1, l2, b2, b3⟩ := List.find?_eq_some_iff_append.1 hf
    have hk : k < n := List.mem_range.1 (by rw [b2]; simp)
    refine ⟨hk, b1, fun j hj => ?_⟩
    simp only [Option.getD_some] at hj
    have hlen : l1.length = k := by
      have e1 : (List.range n)[l1.length]? = some k := by rw [b2]; simp
      rw [List.getElem?_range (by
        have : (List.range n).length = n := List.length_range
        rw [b2] at this; simp at this; omega)] at e1
      simpa using e1
    have : j ∈ l1 := by
      have e1 : (List.range n)[j]? = some j := by rw [List.getElem?_range (by omega)]
      rw [b2, List.getElem?_append_left (by omega)] at e1
      exact List.mem_of_getElem? e1
    simpa using b3 j this

def rdP (L : List Nat) (g : Nat → Bool) : Nat → Bool := fun k => !g k && !L.contains k
def rdF (n : Nat) : List Nat → (Nat → Bool) → List ZZ → List ZZ × (Nat → Bool)
  | [], g, b => (b, g)
  | x :: r, g, b => rdF n r (updB g (firstF n (rdP (x :: r) g)) true) (b ++ [((firstF n (rdP (x :: r) g) : Int), (x : Int))])
def lastF (n : Nat) (g : Nat → Bool) : ZZ := ((firstF n fun k => !g k : Nat), (firstF n fun k => !updB g (firstF n fun k => !g k) true k : Nat))
def rdAll (n : Nat) (l : List Nat) : List ZZ := if n ≤ 1 then [] else (rdF n l (fun _ => false) []).1 ++ [lastF n (rdF n l (fun _ => false) []).2]

theorem lftN_clear {n k : Nat} {g : Nat → Bool} (hk : k < n) (hg : g k = false) : lftN n (updB g k true) + 1 = lftN n g :=
  Sm_upd (n := n) (F := fun x => if g x then 0 else 1) (G := fun x => if updB g k true x then 0 else 1) (a := k) (d := 1) hk (fun x hx hne => by simp [updB, hne]) (by simp [hg, updB])
theorem lftN_list {n : Nat} : ∀ {L : List Nat} {g : Nat → Bool}, (∀ k, k < n → g k = false → k ∈ L) → lftN n g ≤ L.length
  | [], g, h => by
    have : lftN n g = Sm n fun _ => 0 := Sm_congr fun x hx => by
      cases e : g x with
      | true => rfl
      | false => exact absurd (h x hx e) (by simp)
    rw [this, Sm_zero]; simp
  | x :: r, g, h => by
    have ih := lftN_list (n := n) (L := r) (g := updB g x true) fun k hk hg => by
      have hne : k ≠ x := fun e => by subst e; simp [updB] at hg
      rcases List.mem_cons.1 (h k hk (by simpa [updB, hne] using hg)) with e | e
      · exact absurd e hne
      · exact e
    rw [List.length_cons]
    by_cases hx : x < n ∧ g x = false
    · have := lftN_clear hx.1 hx.2; omega
    · have : lftN n (updB g x true) = lftN n g := Sm_congr fun y hy => by
        by_cases e : y = x
        · subst e
          have : g y = true := by
            cases e2 : g y with
            | true => rfl
            | false => exact absurd ⟨hy, e2⟩ hx
          simp [updB, this]
        · simp [updB, e]
      omega

structure RI (n : Nat) (L : List Nat) (g : Nat → Bool) (b : List ZZ) : Prop where
  lt : ∀ x ∈ L, x < n
  ng : ∀ x ∈ L, g x = false
  cnt : lftN n g = L.length + 2
  gone : ∀ p ∈ b, g p.1.toNat = true
  ok : ∀ p ∈ b, okP n p

theorem RI.free {n x y : Nat} {L : List Nat} {g : Nat → Bool} {b : List ZZ} (h : RI n L g b) (hx : g x = false) (hy : g y = false) : tieB b x y = false := by
  cases ht : tieB b x y with
  | false => rfl
  | true =>
    rw [tieB_iff] at ht
    rcases ht with e | e
    · have := h.gone _ e; simp only [Int.toNat_natCast] at this; rw [hx] at this; cases this
    · have := h.gone _ e; simp only [Int.toNat_natCast] at this; rw [hy] at this; cases this
theorem RI.step {n x : Nat} {r : List Nat} {g : Nat → Bool} {b : List ZZ} (h : RI n (x :: r) g b) : ∃ k, k = firstF n (rdP (x :: r) g) ∧ k < n ∧ x < n ∧ k ≠ x ∧ g k = false ∧ g x = false ∧ k ∉ x :: r ∧ (∀ j, j < k → g j = true ∨ j ∈ x :: r) ∧ tieB b k x = false ∧ RI n r (updB g k true) (b ++ [((k : Int), (x : Int))]) := by
  have hex : ∃ k, k < n ∧ rdP (x :: r) g k = true := by
    apply Classical.byContradiction
    intro hc
    have := lftN_list (n := n) (L := x :: r) (g := g) fun k hk hg => by
      apply Classical.byContradiction
      intro hm
      refine hc ⟨k, hk, ?_⟩
      unfold rdP
      simp only [hg, Bool.not_false, Bool.true_and, Bool.not_eq_true', List.contains_eq_mem, decide_eq_false_iff_not]
      exact hm
    have := h.cnt
    omega
  obtain ⟨a1, a2, a3⟩ := firstF_ok hex
  refine ⟨_, rfl, ?_⟩
  generalize firstF n (rdP (x :: r) g) = k at *
  have hx := h.lt x (List.mem_cons_self ..)
  have gx := h.ng x (List.mem_cons_self ..)
  unfold rdP at a2 a3
  simp only [Bool.and_eq_true, Bool.not_eq_true', List.contains_eq_mem, decide_eq_false_iff_not] at a2
  have hkx : k ≠ x := fun e => a2.2 (by rw [e]; exact List.mem_cons_self ..)
  refine ⟨a1, hx, hkx, a2.1, gx, a2.2, fun j hj => ?_, h.free a2.1 gx, fun y hy => h.lt y (List.mem_cons_of_mem _ hy), fun y hy => ?_, ?_, fun p hp => ?_, fun p hp => ?_⟩
  · have := a3 j hj
    cases e : g j with
    | true => exact .inl rfl
    | false =>
      right
      rw [e] at this
      have h2 : (x :: r).contains j = true := by
        cases h3 : (x :: r).contains j with
        | true => rfl
        | false => rw [h3] at this; cases this
      simpa using h2
  · have hne : y ≠ k := fun e => a2.2 (by rw [← e]; exact List.mem_cons_of_mem _ hy)
    simp [updB, hne, h.ng y (List.mem_cons_of_mem _ hy)]
  · have := lftN_clear a1 a2.1
    have := h.cnt
    rw [List.length_cons] at this
    omega
  · rcases List.mem_append.1 hp with hp | hp
    · have := h.gone p hp
      simp only [updB]; split
      · rfl
      · exact this
    · rw [List.mem_singleton] at hp; subst hp
      simp [updB]
  · rcases List.mem_append.1 hp with hp | hp
    · exact h.ok p hp
    · rw [List.mem_singleton] at hp; subst hp
      exact ⟨by simp, by simp, by simp only; omega, by simp only; omega, by simp only; omega⟩
theorem RI.last {n : Nat} {g : Nat → Bool} {b : List ZZ} (h : RI n [] g b) : ∃ a c : Nat, lastF n g = ((a : Int), (c : Int)) ∧ a < n ∧ c < n ∧ a ≠ c ∧ g a = false ∧ g c = false ∧ (∀ j, j < a → g j = true) ∧ (∀ j, j < c → updB g a true j = true) ∧ tieB b a c = false ∧ ∀ x, x < n → g x = false → x = a ∨ x = c := by
  have hc := h.cnt
  simp only [List.length_nil, Nat.zero_add] at hc
  have hex : ∃ k, k < n ∧ (!g k) = true := by
    apply Classical.byContradiction
    intro hcc
    have := lftN_list (n := n) (L := []) (g := g) fun k hk hg => absurd ⟨k, hk, by rw [hg]; rfl⟩ hcc
    simp at this; omega
  obtain ⟨a1, a2, a3⟩ := firstF_ok hex
  unfold lastF
  generalize (firstF n fun k => !g k) = a at *
  have ga : g a = false := by simpa using a2
  have hc2 := lftN_clear a1 ga
  have hex2 : ∃ k, k < n ∧ (!updB g a true k) = true := by
    apply Classical.byContradiction
    intro hcc
    have := lftN_list (n := n) (L := []) (g := updB g a true) fun k hk hg => absurd ⟨k, hk, by rw [hg]; rfl⟩ hcc
    simp at this; omega
  obtain ⟨c1, c2, c3⟩ := firstF_ok hex2
  generalize (firstF n fun k => !updB g a true k) = c at *
  have gc' : updB g a true c = false := by simpa using c2
  have hca : c ≠ a := fun e => by subst e; simp [updB] at gc'
  have gc : g c = false := by simpa [updB, hca] using gc'
  refine ⟨a, c, rfl, a1, c1, fun e => hca e.symm, ga, gc, fun j hj => by simpa using a3 j hj, fun j hj => by simpa using c3 j hj, h.free ga gc, fun x hx gx => ?_⟩
  apply Classical.byContradiction
  intro hne
  have h1 : x ≠ a := fun e => hne (.inl e)
  have h2 : x ≠ c := fun e => hne (.inr e)
  have d1 := lftN_clear c1 gc'
  have gx2 : updB (updB g a true) c true x = false := by simp [updB, h1, h2, gx]
  have d2 := lftN_clear hx gx2
  omega
end Go.Proofs.YtoipleipokpnaaaGreat.Code
end

section
namespace Go.Proofs.YtoipleipokpnaaaGreat.Code
open Go Go.Ab
variable {pure : Bool} {base bar : Nat} {H : Heap} {Q : AV → Heap → Prop}

theorem l76 {n k0 id ver fz : Nat} {ex : Bool} {D : Nat → Int} (hid : H[id]? = some (.row ver (dc n D) fz ex)) (hn : n ≤ 9) (hk : k0 < n) (h0 : D k0 = 0) (hpre : ∀ j, j < k0 → D j ≠ 0) {R : PQ} :
    ∀ (k i : Nat), i + k = k0 → R .ret [(4, .int .i64 (k0 : Nat))] H →
    Wp E base bar (.loop c76_l0) [(0, .vec id ver 0 n 1), (1, .int .i64 0), (7, .int .i64 (n : Nat)), (8, .int .i64 (i : Nat))] H R := by
  intro k
  induction k with
  | zero =>
    intro i hi h
    obtain rfl : i = k0 := by omega
    rw [wp_round c76_l0.eq_1]
    simp [go_sem, hk, aload, hid, dc_get, dc_getE, dc_len, h0]
    exact h
  | succ k ih =>
    intro i hi h
    have hlt : i < k0 := by omega
    have hne : ¬ (0 : Int) = D i := fun e => hpre i hlt e.symm
    rw [wp_round c76_l0.eq_1]
    simp [go_sem, show i < n by omega, aload, hid, dc_get, dc_getE, dc_len, hne, i64_suc (show i < 1000000 by omega)]
    exact ih (i + 1) (by omega) h
theorem k76 {n k0 id ver fz : Nat} {ex : Bool} {D : Nat → Int} (hid : H[id]? = some (.row ver (dc n D) fz ex)) (hn : n ≤ 9) (hk : k0 < n) (h0 : D k0 = 0) (hpre : ∀ j, j < k0 → D j ≠ 0) (h : Q (.int .i64 (k0 : Nat)) H) :
    WpCall E pure base bar 76 [.vec id ver 0 n 1, .int .i64 0] H Q := by
  rw [call76]
  simp [go_sem, WpFun, c76]
  refine l76 hid hn hk h0 hpre k0 0 (by omega) ?_
  simp [go_sem]
  exact h

/-- how often -/
def cD (L : List Nat) : Nat → Int := fun x => ((L.count x : Nat) : Int)
theorem cD_snoc {L : List Nat} {t : Nat} : updZ (cD L) t (cD L t + 1) = cD (L ++ [t]) := by
  funext x
  unfold updZ cD
  rw [List.count_append]
  by_cases h : x = t
  · subst h; simp
  · simp [h, show ¬ t = x from fun e => h e.symm]
theorem cD_bd {L : List Nat} {t : Nat} : 0 ≤ cD L t ∧ cD L t ≤ L.length := by
  unfold cD
  have := List.count_le_length (a := t) (l := L)
  omega
def DF (g : Nat → Bool) (L : List Nat) : Nat → Int := fun x => if g x then -1 else cD L x
theorem DF_start {L : List Nat} : DF (fun _ => false) L = cD L := by funext x; simp [DF]
theorem DF_off {g : Nat → Bool} {L : List Nat} {a : Nat} : updZ (DF g L) a (-1) = DF (updB g a true) L := by
  funext x
  unfold updZ DF updB
  by_cases h : x = a
  · simp [h]
  · simp [h]
theorem DF_next {g : Nat → Bool} {r : List Nat} {x : Nat} (gx : g x = false) : updZ (DF g (x :: r)) x (DF g (x :: r) x - 1) = DF g r := by
  funext y
  unfold updZ DF cD
  by_cases h : y = x
  · subst h; simp [gx]
  · have : ¬ x = y := fun e => h e.symm
    simp [h, List.count_cons, this]

/-- the heap while a list is read -/
def HR (H : Heap) (n : Nat) (w : Nat → Nat) (D : Nat → Int) : Heap := H ++ [.row 0 (wc n w) 0 true, .row 0 (dc n D) 0 true]
theorem l48a {n : Nat} {lv : AV} {l : List Nat} {w : Nat → Nat} (hl : isL lv l) (hlen : l.length < 100) (hv : ∀ x ∈ l, x < n) (hb : bar ≤ H.length) {R : PQ} :
    ∀ (k i : Nat), i + k = l.length →
    R (.exit 0) [(0, .int .i64 (n : Nat)), (1, lv), (5, .vec H.length 0 0 n 1), (6, .vec (H.length + 1) 0 0 n 1), (17, lv), (18, .int .i64 (l.length : Nat)), (19, .int .i64 (l.length : Nat)), (20, .bool false)] (HR H n w (cD l)) →
    Wp E base bar (.loop c48_l0) [(0, .int .i64 (n : Nat)), (1, lv), (5, .vec H.length 0 0 n 1), (6, .vec (H.length + 1) 0 0 n 1), (17, lv), (18, .int .i64 (l.length : Nat)), (19, .int .i64 (i : Nat))] (HR H n w (cD (l.take i))) R := by
  intro k
  induction k with
  | zero =>
    intro i hi h
    obtain rfl : i = l.length := by omega
    rw [List.take_length]
    rw [wp_round c48_l0.eq_1]
    simp [go_sem]
    exact h
  | succ k ih =>
    intro i hi h
    have hlt : i < l.length := by omega
    have hnext := ih (i + 1) (by omega) h
    have htk : l.take (i + 1) = l.take i ++ [l[i]] := by rw [List.take_add_one, List.getElem?_eq_getElem hlt]; rfl
    have ht := hv _ (List.getElem_mem hlt)
    have hix := fun (H : Heap) (K : AV → Heap → List Nat → Prop) => hl.ix (H := H) (K := K) (k := .i64) hlt
    rw [htk, ← cD_snoc] at hnext
    generalize l[i] = t at *
    have hbd := cD_bd (L := l.take i) (t := t)
    have hbl : (l.take i).length ≤ 100 := by rw [List.length_take]; omega
    have hw : IntKind.i64.wrap (cD (l.take i) t + 1) = cD (l.take i) t + 1 := Go.IntWalk.i64_in _ (by omega)
    generalize cD (l.take i) = D at *
    have c1 : bar ≤ H.length + 1 := by omega
    have hg : (HR H n w D)[H.length + 1]? = some (.row 0 (dc n D) 0 true) := by simp [HR]
    have hs : ∀ D', (HR H n w D).set (H.length + 1) (.row 0 (dc n D') 0 true) = HR H n w D' := fun D' => by simp [HR, own_set]
    generalize HR H n w D = H1 at *
    rw [wp_round c48_l0.eq_1]
    simp [go_sem, hlt, hix, aload, ht, hg, dc_get, dc_getE, dc_len, hw, storeWp, astore, AV.isTup, AV.cells, c1, show t + 1 ≤ n from ht, dc_set, hs, i64_suc (show i < 1000000 by omega)]
    exact hnext

theorem lftN_le {g : Nat → Bool} : ∀ {n : Nat}, lftN n g ≤ n
  | 0 => Nat.le_refl _
  | n + 1 => by
    have ih := lftN_le (g := g) (n := n)
    unfold lftN at ih ⊢
    simp only [Sm]
    split <;> omega
theorem l48b {n : Nat} {lv : AV} {l : List Nat} (hl : isL lv l) (hlen : l.length < 100) (hn : n ≤ 9) (hb : bar ≤ H.length) {R : PQ} :
    ∀ (k i : Nat), i + k = l.length → ∀ (g : Nat → Bool) (b : List ZZ) (w : Nat → Nat), RI n (l.drop i) g b → Wd n b w →
    (∀ g' b' w', rdF n (l.drop i) g b = (b', g') → RI n [] g' b' → Wd n b' w' → R (.exit 2) [(0, .int .i64 (n : Nat)), (5, .vec H.length 0 0 n 1), (6, .vec (H.length + 1) 0 0 n 1), (30, lv), (31, .int .i64 (l.length : Nat)), (32, .int .i64 (l.length : Nat)), (33, .bool false)] (HR H n w' (DF g' []))) →
    Wp E base bar (.loop c48_l1) [(0, .int .i64 (n : Nat)), (5, .vec H.length 0 0 n 1), (6, .vec (H.length + 1) 0 0 n 1), (30, lv), (31, .int .i64 (l.length : Nat)), (32, .int .i64 (i : Nat))] (HR H n w (DF g (l.drop i))) R := by
  intro k
  induction k with
  | zero =>
    intro i hi g b w hR hw h
    obtain rfl : i = l.length := by omega
    rw [List.drop_length] at hR h ⊢
    rw [wp_round c48_l1.eq_1]
    simp [go_sem]
    exact h g b w rfl hR hw
  | succ k ih =>
    intro i hi g b w hR hw h
    have hlt : i < l.length := by omega
    rw [List.drop_eq_getElem_cons hlt] at hR h ⊢
    have hnext := ih (i + 1) (by omega)
    have hix := fun (H : Heap) (K : AV → Heap → List Nat → Prop) => hl.ix (H := H) (K := K) (k := .i64) hlt
    generalize l[i] = x at *
    generalize l.drop (i + 1) = r at *
    obtain ⟨k0, e0, a1, a2, a3, a4, a5, a6, a7, a8, a9⟩ := hR.step
    simp only [rdF, ← e0] at h
    have hD0 : DF g (x :: r) k0 = 0 := by
      unfold DF cD
      rw [a4]
      have : (x :: r).count k0 = 0 := List.count_eq_zero.2 a6
      simp [this]
    have hDp : ∀ j, j < k0 → DF g (x :: r) j ≠ 0 := fun j hj => by
      unfold DF cD
      rcases a7 j hj with e | e
      · simp [e]
      · split
        · decide
        · have := List.count_pos_iff.2 e
          omega
    have hDx : 1 ≤ DF g (x :: r) x ∧ DF g (x :: r) x ≤ 100 := by
      unfold DF cD
      rw [a5]
      have h1 := List.count_le_length (a := x) (l := r)
      simp only [Bool.false_eq_true, if_false, List.count_cons_self]
      have h3 := hR.cnt
      rw [List.length_cons] at h3
      have h2 := lftN_le (n := n) (g := g)
      omega
    have hux : updZ (DF g (x :: r)) k0 (-1) x = DF g (x :: r) x := by unfold updZ; rw [if_neg (fun e => a3 e.symm)]
    have hwr : IntKind.i64.wrap (DF g (x :: r) x - 1) = DF g (x :: r) x - 1 := Go.IntWalk.i64_in _ (by omega)
    have hw' := hw.tie hn a1 a2 a3 a8
    have hfin : updZ (updZ (DF g (x :: r)) k0 (-1)) x (DF g (x :: r) x - 1) = DF (updB g k0 true) r := by
      have gx : updB g k0 true x = false := by simp [updB, a5, show ¬ x = k0 from fun e => a3 e.symm]
      rw [← hux, DF_off, DF_next gx]
    have hnx := hnext (updB g k0 true) _ _ a9 hw' h
    rw [← hfin] at hnx
    generalize DF g (x :: r) = D at *
    have c1 : bar ≤ H.length + 1 := by omega
    have hid : ∀ w D, (HR H n w D)[H.length + 1]? = some (.row 0 (dc n D) 0 true) := fun w D => by simp [HR]
    have hid0 : ∀ w D, (HR H n w D)[H.length]? = some (.row 0 (wc n w) 0 true) := fun w D => by simp [HR]
    have hs : ∀ w D D', (HR H n w D).set (H.length + 1) (.row 0 (dc n D') 0 true) = HR H n w D' := fun w D D' => by simp [HR, own_set]
    have hs0 : ∀ w D w', (HR H n w D).set H.length (.row 0 (wc n w') 0 true) = HR H n w' D := fun w D w' => by simp [HR, own_set]
    have hlen1 : ∀ w D, bar ≤ (HR H n w D).length := fun w D => by simp [HR]; omega
    generalize hHR : HR H n = HRf at *
    rw [wp_round c48_l1.eq_1]
    simp [go_sem, hlt, hix, aload]
    refine k76 (hid w D) hn a1 hD0 hDp ?_
    simp [go_sem, aop, fillA, setCells, AV.cells]
    refine k65 (hid0 w D) hn hw.lt a1 a2 hb ?_
    rw [hs0]
    simp [go_sem, a1, a2, aload, storeWp, astore, AV.isTup, AV.cells, hid, dc_get, dc_getE, dc_len, c1, show k0 + 1 ≤ n from a1, show x + 1 ≤ n from a2, dc_set, hs, hux, hwr, i64_suc (show i < 1000000 by omega)]
    exact hnx
end Go.Proofs.YtoipleipokpnaaaGreat.Code
end

section
namespace Go.Proofs.YtoipleipokpnaaaGreat.Code
open Go Go.Ab
variable {pure : Bool} {base bar : Nat} {H : Heap} {Q : AV → Heap → Prop}

theorem RI.start {n : Nat} {l : List Nat} (h2 : 2 ≤ n) (hlen : l.length = n - 2) (hv : ∀ x ∈ l, x < n) : RI n l (fun _ => false) [] := by
  refine ⟨hv, fun _ _ => rfl, ?_, fun p hp => (by cases hp), fun p hp => (by cases hp)⟩
  have : lftN n (fun _ => false) = n := by
    have := Sm_one n
    unfold lftN; simpa using this
  omega
theorem k48 {n : Nat} {lv : AV} {l : List Nat} (hl : isL lv l) (h1 : 1 ≤ n) (hn : n ≤ 9) (hlen : l.length = n - 2) (hv : ∀ x ∈ l, x < n) (hb : bar ≤ H.length)
    (h : ∀ w, Wd n (rdAll n l) w → Q (.lst 1 false (wc n w)) H) : WpCall E pure base bar 48 [.int .i64 (n : Nat), lv] H Q := by
  rw [call48]
  have e0 : frzAll bar H [.int .i64 (n : Nat), lv] = some ([.int .i64 (n : Nat), lv], H) := by simp [frzAll, frz.frzs, frzsW, frz_int, hl.frz]
  rw [e0]
  have hb' : (if pure = true then H.length else bar) ≤ H.length := bar_if hb
  have hz : List.flatten (List.replicate n [AV.int IntKind.u16 0]) = wc n fun _ => 0 := by
    simp [wc, List.flatten_replicate_singleton, List.map_const']
  have hz2 : List.flatten (List.replicate n [AV.int IntKind.i64 0]) = dc n (cD []) := by
    simp [dc, cD, List.flatten_replicate_singleton, List.map_const']
  have hbd : n * 2 ≤ 140737488355328 := by omega
  have hbd2 : n * 8 ≤ 140737488355328 := by omega
  have c1 : (if pure = true then H.length else bar) ≤ H.length + 1 := by omega
  have hfr : ∀ (w : Nat → Nat) (D : Nat → Int), ∃ b, frz 8 (if pure = true then H.length else bar) (HR H n w D) (.vec H.length 0 0 n 1) = some (.lst 1 false (wc n w), (HR H n w D).set H.length b) := fun w D => wood_frz (d := 5) (fz := 0) (ex := true) (by simp [HR]) hb'
  have htk : ∀ (w : Nat → Nat) (D : Nat → Int) b, ((HR H n w D).set H.length b).take H.length = H := fun w D b => by simp [HR, own_set0]
  have htop : ∀ w, (AV.lst 1 false (wc n w)).top = 0 := fun w => by rw [top_lst, wc_tops]
  simp [go_sem, WpFun, c48, aop, AV.asNat, hz, hz2, hbd, hbd2, hl.len]
  have e1 : H ++ [.row 0 (wc n fun _ => 0) 0 true, .row 0 (dc n (cD [])) 0 true] = HR H n (fun _ => 0) (cD (l.take 0)) := rfl
  rw [e1]
  refine l48a hl (by omega) hv hb' l.length 0 (by omega) ?_
  simp [go_sem, hl.len]
  by_cases h2 : 2 ≤ n
  · have hR := RI.start h2 hlen hv
    have hcD : cD l = DF (fun _ => false) (l.drop 0) := by rw [List.drop_zero, DF_start]
    rw [hcD]
    refine l48b hl (by omega) hn hb' l.length 0 (by omega) _ [] _ (by rw [List.drop_zero]; exact hR) Wd.nil fun g b w e hR2 hw => ?_
    rw [List.drop_zero] at e
    obtain ⟨a, c, f0, f1, f2, f3, f4, f5, f6, f7, f8, f9⟩ := hR2.last
    have hall : rdAll n l = b ++ [((a : Int), (c : Int))] := by unfold rdAll; rw [if_neg (by omega), e, f0]
    have hw' := hw.tie hn f1 f2 f3 f8
    rw [← hall] at hw'
    have hk := h _ hw'
    have hD1 : DF g [] a = 0 := by unfold DF cD; rw [f4]; simp
    have hD1p : ∀ j, j < a → DF g [] j ≠ 0 := fun j hj => by unfold DF; rw [f6 j hj]; simp
    have hca : ¬ c = a := fun e => f3 e.symm
    have hD2 : updZ (DF g []) a (-1) c = 0 := by
      unfold updZ; rw [if_neg hca]; unfold DF cD; rw [f5]; simp
    have hD2p : ∀ j, j < c → updZ (DF g []) a (-1) j ≠ 0 := fun j hj => by
      rw [DF_off]; unfold DF; rw [f7 j hj]; simp
    generalize DF g [] = D at *
    have hid : ∀ w D, (HR H n w D)[H.length + 1]? = some (.row 0 (dc n D) 0 true) := fun w D => by simp [HR]
    have hid0 : ∀ w D, (HR H n w D)[H.length]? = some (.row 0 (wc n w) 0 true) := fun w D => by simp [HR]
    have hs : ∀ w D D', (HR H n w D).set (H.length + 1) (.row 0 (dc n D') 0 true) = HR H n w D' := fun w D D' => by simp [HR, own_set]
    have hs0 : ∀ w D w', (HR H n w D).set H.length (.row 0 (wc n w') 0 true) = HR H n w' D := fun w D w' => by simp [HR, own_set]
    obtain ⟨b3, hfr3⟩ := hfr (tieW w a c) (updZ D a (-1))
    have htk3 := htk (tieW w a c) (updZ D a (-1)) b3
    generalize hHR : HR H n = HRf at *
    have hn1 : (1 : Int) < (n : Int) := by omega
    simp [go_sem, hn1, show 1 < n by omega]
    refine k76 (hid w D) hn f1 hD1 hD1p ?_
    simp [go_sem, f1, aload, storeWp, astore, AV.isTup, AV.cells, hid, dc_len, c1, show a + 1 ≤ n from f1, dc_set, hs]
    refine k76 (hid w (updZ D a (-1))) hn f2 hD2 hD2p ?_
    simp [go_sem, aop, fillA, setCells, AV.cells]
    refine k65 (hid0 w (updZ D a (-1))) hn hw.lt f1 f2 hb' ?_
    rw [hs0]
    simp [go_sem, hfr3, htop, htk3]
    exact hk
  · obtain rfl : n = 1 := by omega
    obtain rfl : l = [] := List.length_eq_zero_iff.1 (by omega)
    have hall : rdAll 1 [] = [] := by unfold rdAll; rw [if_pos (Nat.le_refl _)]
    have hk := h (fun _ => 0) (by rw [hall]; exact Wd.nil)
    obtain ⟨b3, hfr3⟩ := hfr (fun _ => 0) (cD [])
    have htk3 := htk (fun _ => 0) (cD []) b3
    rw [wp_round c48_l1.eq_1]
    simp [go_sem, hfr3, htop, htk3]
    exact hk
end Go.Proofs.YtoipleipokpnaaaGreat.Code
end

section
namespace Go.Proofs.YtoipleipokpnaaaGreat.Code
open Go Go.Ab
variable {pure : Bool} {base bar : Nat} {H : Heap} {Q : AV → Heap → Prop} {K : AV → Heap → List Nat → Prop}

/-! lists of numbers with a sign -/
def ints (l : List Int) : List AV := l.map (.int .i64)
def isZ (v : AV) (l : List Int) : Prop := (v = .nils ∧ l = []) ∨ ∃ ex, v = .lst 1 ex (ints l)
def natsZ (l : List Nat) : List Int := l.map fun x : Nat => (x : Int)
theorem ints_nats {l : List Nat} : ints (natsZ l) = nats l := by simp [ints, natsZ, nats]
theorem isL.z {v : AV} {l : List Nat} (h : isL v l) : isZ v (natsZ l) := by
  rcases h with ⟨rfl, rfl⟩ | ⟨ex, rfl⟩
  · exact .inl ⟨rfl, rfl⟩
  · exact .inr ⟨ex, by rw [ints_nats]⟩
theorem isZ.l {v : AV} {l : List Nat} (h : isZ v (natsZ l)) : isL v l := by
  rcases h with ⟨rfl, h⟩ | ⟨ex, rfl⟩
  · cases l with
    | nil => exact .nil
    | cons a r => simp [natsZ] at h
  · rw [ints_nats]; exact .lst
theorem isZ.len {v : AV} {l : List Int} (h : isZ v l) : lenWp (some v) H K = K (.int .i64 (l.length : Int)) H [] := by
  rcases h with ⟨rfl, rfl⟩ | ⟨ex, rfl⟩
  · rfl
  · rw [lenWp_lst]; simp [ints]
theorem isZ.frz {v : AV} {l : List Int} (h : isZ v l) {d : Nat} : Go.Ab.frz (d + 1) bar H v = some (v, H) := by
  rcases h with ⟨rfl, rfl⟩ | ⟨ex, rfl⟩ <;> rfl
theorem isZ.top {v : AV} {l : List Int} (h : isZ v l) : v.top = 0 := by
  rcases h with ⟨rfl, rfl⟩ | ⟨ex, rfl⟩
  · rfl
  · show AV.top.tops _ = 0
    exact tops_ints
theorem isZ.ix {v : AV} {l : List Int} (h : isZ v l) {k : IntKind} {i : Nat} (hi : i < l.length) : ixaSWp 1 (some v) (some (.int k (i : Int))) H K = K (.fp (.int .i64 l[i])) H [] := by
  rcases h with ⟨rfl, rfl⟩ | ⟨ex, rfl⟩
  · simp at hi
  · rw [ixaSWp_lst]
    simp only [Int.toNat_natCast]
    rw [show (ints l)[i]? = some (.int .i64 l[i]) by simp [ints, List.getElem?_eq_getElem hi]]
    simp [valWp_some]


theorem isZ.isTup {v : AV} {l : List Int} (h : isZ v l) : v.isTup = false := by
  rcases h with ⟨rfl, rfl⟩ | ⟨ex, rfl⟩ <;> rfl
theorem isZ.cells {v : AV} {l : List Int} (h : isZ v l) : v.cells = [v] := by
  rcases h with ⟨rfl, rfl⟩ | ⟨ex, rfl⟩ <;> rfl

/-! Read: what may be in a list -/
def outR (n s : Int) : Bool := !(decide (0 ≤ s) && decide (s ≤ n - 1))
theorem k59 {id ver fz n : Nat} {ex : Bool} {s : Int} (hn : n ≤ 9) (hid : H[id]? = some (.row ver [.int .i64 (n : Nat)] fz ex)) (h : Q (.bool (outR n s)) H) : WpCall E pure base bar 59 [.int .i64 s, .ptr id ver 0] H Q := by
  have hlt := (List.getElem?_eq_some_iff.1 hid).1
  have ld : aload H ⟨false, 1⟩ (.ptr id ver 0) = some (.int .i64 (n : Nat)) := by rw [aload_ptr hid]; rfl
  rw [call59]
  unfold outR at h
  rw [Bool.not_and] at h
  simp [go_sem, WpFun, c59, ld, i64_pred hn, k46]
  exact h
theorem l79 {id ver fz n : Nat} {ex : Bool} {v : AV} {l : List Int} (hn : n ≤ 9) (hv : isZ v l) (hl : l.length < 1000) (hid : H[id]? = some (.row ver [.int .i64 (n : Nat)] fz ex)) {R : PQ} : ∀ (k i : Nat), i + k = l.length →
    ((l.drop i).any (outR n) = false → R (.exit 0) [(0, v), (1, .fn 59 [] [.ptr id ver 0]), (7, .int .i64 (l.length : Nat)), (8, .int .i64 (l.length : Nat)), (9, .bool false)] H) →
    ((l.drop i).any (outR n) = true → ∀ j : Nat, R .ret [(4, .int .i64 (j : Nat))] H) →
    Wp E base bar (.loop c79_l0) [(0, v), (1, .fn 59 [] [.ptr id ver 0]), (7, .int .i64 (l.length : Nat)), (8, .int .i64 (i : Nat))] H R := by
  intro k
  induction k with
  | zero =>
    intro i hi h1 h2
    obtain rfl : i = l.length := by omega
    rw [List.drop_length] at h1
    rw [wp_round c79_l0.eq_1]
    simp [go_sem]
    exact h1 rfl
  | succ k ih =>
    intro i hi h1 h2
    have hlt : i < l.length := by omega
    rw [List.drop_eq_getElem_cons hlt, List.any_cons] at h1 h2
    have hix := fun (K : AV → Heap → List Nat → Prop) (k : IntKind) => hv.ix (H := H) (K := K) (k := k) hlt
    generalize l[i] = x at *
    rw [wp_round c79_l0.eq_1]
    simp [go_sem, hlt, hix]
    refine k59 hn hid ?_
    cases hc : outR n x
    · rw [hc] at h1 h2
      simp only [Bool.false_or] at h1 h2
      have next := ih (i + 1) (by omega) h1 h2
      simp [go_sem, i64_suc (show i < 1000000 by omega)]
      exact next
    · rw [hc] at h1 h2
      simp [go_sem]
      exact h2 rfl i
theorem k58 {id ver fz n : Nat} {ex : Bool} {v : AV} {l : List Int} (hn : n ≤ 9) (hv : isZ v l) (hl : l.length < 1000) (hid : H[id]? = some (.row ver [.int .i64 (n : Nat)] fz ex)) (h : Q (.bool (l.any (outR n))) H) :
    WpCall E pure base bar 58 [v, .fn 59 [] [.ptr id ver 0]] H Q := by
  rw [call58]
  simp [go_sem, WpFun, c58, hv.frz]
  rw [call79]
  simp [go_sem, WpFun, c79, hv.frz, hv.len]
  refine l79 hn hv hl hid l.length 0 (by omega) (fun hm => ?_) (fun hm j => ?_)
  · rw [List.drop_zero] at hm
    rw [hm] at h
    simp [go_sem]
    exact h
  · rw [List.drop_zero] at hm
    rw [hm] at h
    simp [go_sem]
    exact h

def rdE (n : Int) (l : List Int) : Int := if ¬ (1 ≤ n ∧ n ≤ 9) then 1 else if (l.length : Int) ≠ max 0 (n - 2) then 5 else if l.any (outR n) then 2 else 0
theorem rdE_ok {n : Int} {l : List Int} (h : rdE n l = 0) : ∃ (m : Nat) (L : List Nat), n = m ∧ 1 ≤ m ∧ m ≤ 9 ∧ l = natsZ L ∧ L.length = m - 2 ∧ (∀ x ∈ L, x < m) ∧ (l.length : Int) = max 0 ((m : Int) - 2) ∧ l.any (outR m) = false := by
  unfold rdE at h
  split at h
  · cases h
  · rename_i h1
    split at h
    · cases h
    · rename_i h2
      split at h
      · cases h
      · rename_i h3
        obtain ⟨m, rfl⟩ := Int.eq_ofNat_of_zero_le (show 0 ≤ n by omega)
        have h3' : l.any (outR (m : Int)) = false := by simpa using h3
        have hall : ∀ x ∈ l, 0 ≤ x ∧ x ≤ (m : Int) - 1 := fun x hx => by
          have := (List.any_eq_false.1 h3') x hx
          unfold outR at this
          simpa using this
        have hz : l = natsZ (l.map Int.toNat) := by
          unfold natsZ
          rw [List.map_map]
          conv => lhs; rw [← List.map_id l]
          apply List.map_congr_left
          intro x hx
          have := hall x hx
          simp only [id_eq, Function.comp_apply]
          omega
        refine ⟨m, l.map Int.toNat, rfl, by omega, by omega, hz, ?_, fun x hx => ?_, by omega, h3'⟩
        · rw [List.length_map]; omega
        · obtain ⟨y, hy, rfl⟩ := List.mem_map.1 hx
          have := hall y hy; omega

theorem k25 {n : Int} {v : AV} {l : List Int} (hv : isZ v l) (hl : l.length < 1000) (hbar : bar ≤ H.length)
    (h1 : rdE n l ≠ 0 → Q (.tup [.agg [.int .i64 0, .nils], .int .i64 (rdE n l)]) H)
    (h2 : ∀ (m : Nat) (L : List Nat) u, n = m → rdE n l = 0 → l = natsZ L → isT u m (tidyF (tieB (rdAll m L)) m) → Q (.tup [u, .int .i64 0]) H) : WpCall E pure base bar 25 [.int .i64 n, v] H Q := by
  rw [call25]
  have e0 : frzAll bar H [.int .i64 n, v] = some ([.int .i64 n, v], H) := by simp [frzAll, frz.frzs, frzsW, frz_int, hv.frz]
  rw [e0]
  have hb' : (if pure = true then H.length else bar) ≤ H.length := bar_if hbar
  have hb2 : (if pure = true then H.length else bar) ≤ H.length + 1 := by omega
  by_cases hr : 1 ≤ n ∧ n ≤ 9
  · obtain ⟨m, rfl⟩ := Int.eq_ofNat_of_zero_le (show 0 ≤ n by omega)
    have hm1 : 1 ≤ m := by omega
    have hm9 : m ≤ 9 := by omega
    have hr' : (decide (1 ≤ (m : Int)) && decide ((m : Int) ≤ 9)) = true := by simp; omega
    have hi2 : IntKind.i64.wrap ((m : Int) - 2) = (m : Int) - 2 := Go.IntWalk.i64_in _ (by omega)
    have hmx : (if 2 < (m : Int) then (m : Int) - 2 else 0) = max 0 ((m : Int) - 2) := by split <;> omega
    by_cases hlen : (l.length : Int) = if 2 < (m : Int) then (m : Int) - 2 else 0
    · have hlb : ((l.length : Int) == if 2 < (m : Int) then (m : Int) - 2 else 0) = true := by rw [beq_iff_eq]; exact hlen
      simp [go_sem, WpFun, c25, hv.isTup, hv.cells, aload, AV.isTup, AV.cells, k46, hr', aop, Opd.evo, hi2, hv.len]
      rw [if_pos hlen]
      refine k58 (fz := 0) (ex := true) (n := m) hm9 hv hl (by simp) ?_
      cases ha : l.any (outR m) with
      | true =>
        have e : rdE m l = 2 := by unfold rdE; rw [if_neg (by simpa using hr), if_neg (by rw [← hmx]; simpa using hlen), if_pos ha]
        have hh := h1 (by rw [e]; decide)
        rw [e] at hh
        simp [go_sem, fillA, setCells, storeWp, astore, AV.isTup, AV.cells, hb2, aload]
        exact hh
      | false =>
        have e : rdE m l = 0 := by unfold rdE; rw [if_neg (by simpa using hr), if_neg (by rw [← hmx]; simpa using hlen), if_neg (by simp [ha])]
        obtain ⟨m', L, em, _, _, hz, hLlen, hLv, _, _⟩ := rdE_ok e
        obtain rfl : m = m' := by omega
        have hvl : isL v L := isZ.l (by rw [← hz]; exact hv)
        simp [go_sem, aload]
        refine k48 hvl hm1 hm9 hLlen hLv (by simp; omega) fun w hw => ?_
        have ef : (fun a b => (w a).testBit b) = tieB (rdAll m L) := by funext a b; exact hw.bit a b
        simp [go_sem]
        refine k49l hm9 hw.lt (by simp; omega) fun u hu => ?_
        rw [ef] at hu
        have hk := h2 m L u rfl e hz hu
        obtain ⟨q', hq', rfl⟩ := hu
        simp [go_sem, storeWp, astore, AV.isTup, AV.cells, hb2, aload, hq'.isTup, hq'.cells, frz_agg, hq'.frz, hq'.top, tops_cons, tops_nil]
        exact hk
    · have e : rdE m l = 5 := by unfold rdE; rw [if_neg (by simpa using hr), if_pos (by rw [← hmx]; exact hlen)]
      have hh := h1 (by rw [e]; decide)
      rw [e] at hh
      simp [go_sem, WpFun, c25, hv.isTup, hv.cells, aload, AV.isTup, AV.cells, k46, hr', aop, Opd.evo, hi2, hv.len]
      rw [if_neg hlen]
      simp [go_sem, fillA, setCells, storeWp, astore, AV.isTup, AV.cells, hb2, aload]
      exact hh
  · have hr' : (decide (1 ≤ n) && decide (n ≤ 9)) = false := by simpa using hr
    have e : rdE n l = 1 := by unfold rdE; rw [if_pos hr]
    have hh := h1 (by rw [e]; decide)
    rw [e] at hh
    simp [go_sem, WpFun, c25, hv.isTup, hv.cells, aload, AV.isTup, AV.cells, k46, hr', fillA, setCells, storeWp, astore, hb2]
    exact hh
end Go.Proofs.YtoipleipokpnaaaGreat.Code
end

section
namespace Go.Proofs.YtoipleipokpnaaaGreat.Code
open Go Go.Ab
variable {pure : Bool} {base bar : Nat} {H : Heap} {Q : AV → Heap → Prop} {K : AV → Heap → List Nat → Prop}

/-! the reference reads a list -/
theorem isL.dropS {v : AV} {l : List Nat} (hv : isL v l) {i : Nat} (hi : i < l.length) : ∃ v', aslice H (.slc 1) v (some (.int .i64 (i : Int))) none none = some v' ∧ isL v' (l.drop i) := by
  rcases hv with ⟨rfl, rfl⟩ | ⟨ex, rfl⟩
  · simp at hi
  · have hl : (nats l).length = l.length := by simp [nats]
    refine ⟨.lst 1 ex (nats (l.drop i)), ?_, .inr ⟨_, rfl⟩⟩
    simp [aslice, optBound, bound1, AV.asNat, hl, Nat.le_of_lt hi]
    simp [nats, List.map_drop]
    rw [List.take_of_length_le (by simp)]

theorem l77 {v : AV} {l : List Nat} {k0 : Nat} (hv : isL v l) (hl : l.length < 1000) {R : PQ} :
    ∀ (k i : Nat), i + k = l.length →
    ((l.drop i).contains k0 = true → R .ret [(4, .bool true)] H) →
    ((l.drop i).contains k0 = false → R (.exit 0) [(0, v), (1, .int .i64 (k0 : Nat)), (5, .int .i64 (l.length : Nat)), (9, .bool false)] H) →
    Wp E base bar (.loop c77_l0) [(0, v), (1, .int .i64 (k0 : Nat)), (5, .int .i64 (i : Nat))] H R := by
  intro k
  have hlen := fun (H : Heap) (K : AV → Heap → List Nat → Prop) => hv.len (H := H) (K := K)
  induction k with
  | zero =>
    intro i hi h1 h2
    obtain rfl : i = l.length := by omega
    rw [List.drop_length] at h2
    rw [wp_round c77_l0.eq_1]
    simp [go_sem, hlen]
    exact h2 rfl
  | succ k ih =>
    intro i hi h1 h2
    have hlt : i < l.length := by omega
    rw [List.drop_eq_getElem_cons hlt, List.contains_cons] at h1 h2
    have hix := fun (K : AV → Heap → List Nat → Prop) (k : IntKind) => hv.ix (H := H) (K := K) (k := k) hlt
    have hnext := ih (i + 1) (by omega)
    generalize l[i] = x at *
    rw [wp_round c77_l0.eq_1]
    by_cases hx : x = k0
    · subst hx
      have hh := h1 (by simp)
      simp [go_sem, hlen, hlt, hix, aload]
      exact hh
    · have hx' : (k0 == x) = false := by simp; exact fun e => hx e.symm
      have hxz : ¬ (x : Int) = (k0 : Int) := by omega
      rw [hx', Bool.false_or] at h1 h2
      simp [go_sem, hlen, hlt, hix, aload, hx, hxz, i64_suc (show i < 1000000 by omega)]
      exact hnext h1 h2
theorem k77 {v : AV} {l : List Nat} {k0 : Nat} (hv : isL v l) (hl : l.length < 1000) (h : Q (.bool (l.contains k0)) H) : WpCall E pure base bar 77 [v, .int .i64 (k0 : Nat)] H Q := by
  rw [call77]
  simp [go_sem, WpFun, c77, hv.frz]
  refine l77 hv hl l.length 0 (by omega) (fun hm => ?_) (fun hm => ?_)
  · rw [List.drop_zero] at hm
    rw [hm] at h
    simp [go_sem]
    exact h
  · rw [List.drop_zero] at hm
    rw [hm] at h
    simp [go_sem]
    exact h

/-- the heap while the reference reads -/
def RG (H : Heap) (n : Nat) (v : AV) (g : Nat → Bool) : Heap := H ++ [.row 0 [.int .i64 0, .nils] 0 true, .row 0 [.int .i64 (n : Nat), v] 0 true, .row 0 (gc n g) 0 true]
theorem l50a {n i k0 : Nat} {lv t4 t5 : AV} {l : List Nat} {g : Nat → Bool} {gid : Nat} (hl : isL lv l) (hlen : l.length < 100) (hn : n ≤ 9) (hi : i < l.length) (hg : H[gid]? = some (.row 0 (gc n g) 0 true)) (hk : k0 < n) (g0 : g k0 = false) (m0 : k0 ∉ l.drop i) (hpre : ∀ j, j < k0 → g j = true ∨ j ∈ l.drop i) {R : PQ} :
    ∀ (k j : Nat), j + k = k0 →
    R (.exit 2) [(0, .int .i64 (n : Nat)), (1, lv), (4, t4), (5, t5), (6, .vec gid 0 0 n 1), (7, .int .i64 (i : Nat)), (8, .int .i64 (k0 : Nat)), (31, .bool false)] H →
    Wp E base bar (.loop c50_l0) [(0, .int .i64 (n : Nat)), (1, lv), (4, t4), (5, t5), (6, .vec gid 0 0 n 1), (7, .int .i64 (i : Nat)), (8, .int .i64 (j : Nat))] H R := by
  obtain ⟨v', s1, s2⟩ := isL.dropS (H := H) hl hi
  intro k
  induction k with
  | zero =>
    intro j hj h
    obtain rfl : j = k0 := by omega
    have hc : (l.drop i).contains j = false := by simpa using m0
    rw [wp_round c50_l0.eq_1]
    simp [go_sem, hk, aload, hg, gc_get, gc_getE, gc_len, g0, aop, Opd.evo, s1]
    refine k77 s2 (by rw [List.length_drop]; omega) ?_
    rw [hc]
    simp [go_sem]
    exact h
  | succ k ih =>
    intro j hj h
    have hlt : j < k0 := by omega
    have hjn : j < n := by omega
    have hnext := ih (j + 1) (by omega) h
    rw [wp_round c50_l0.eq_1]
    cases hgj : g j with
    | true =>
      simp [go_sem, hjn, aload, hg, gc_get, gc_getE, gc_len, hgj, i64_suc (show j < 1000000 by omega)]
      exact hnext
    | false =>
      have hc : (l.drop i).contains j = true := by
        rcases hpre j hlt with e | e
        · rw [hgj] at e; cases e
        · simpa using e
      simp [go_sem, hjn, aload, hg, gc_get, gc_getE, gc_len, hgj, aop, Opd.evo, s1]
      refine k77 s2 (by rw [List.length_drop]; omega) ?_
      rw [hc]
      simp [go_sem, i64_suc (show j < 1000000 by omega)]
      exact hnext

theorem l50b {n : Nat} {lv : AV} {l : List Nat} (hl : isL lv l) (hlen : l.length < 100) (hn : n ≤ 9) (hb : bar ≤ H.length) {R : PQ} :
    ∀ (k i : Nat), i + k = l.length → ∀ (g : Nat → Bool) (b : List ZZ) (v : AV) (H1 : Heap), RI n (l.drop i) g b → Grow 2 (prs b) (RG H n v g) v H1 → b.length ≤ i →
    (∀ g' b' v' H2, rdF n (l.drop i) g b = (b', g') → RI n [] g' b' → Grow 2 (prs b') (RG H n v' g') v' H2 → b'.length ≤ l.length → R (.exit 0) [(0, .int .i64 (n : Nat)), (1, lv), (4, .ptr H.length 0 0), (5, .ptr (H.length + 1) 0 0), (6, .vec (H.length + 2) 0 0 n 1), (7, .int .i64 (l.length : Nat)), (18, .bool false)] H2) →
    Wp E H.length bar (.loop c50_l1) [(0, .int .i64 (n : Nat)), (1, lv), (4, .ptr H.length 0 0), (5, .ptr (H.length + 1) 0 0), (6, .vec (H.length + 2) 0 0 n 1), (7, .int .i64 (i : Nat))] H1 R := by
  intro k
  induction k with
  | zero =>
    intro i hi g b v H1 hR gr hbl h
    obtain rfl : i = l.length := by omega
    rw [List.drop_length] at hR h
    rw [wp_round c50_l1.eq_1]
    simp [go_sem, hl.len]
    exact h g b v H1 rfl hR gr hbl
  | succ k ih =>
    intro i hi g b v H1 hR gr hbl h
    have hlt : i < l.length := by omega
    have hdr : l.drop i = l[i] :: l.drop (i + 1) := List.drop_eq_getElem_cons hlt
    have hix := fun (H : Heap) (K : AV → Heap → List Nat → Prop) => hl.ix (H := H) (K := K) (k := .i64) hlt
    have hnext := ih (i + 1) (by omega)
    rw [hdr] at hR h
    obtain ⟨k0, e0, a1, a2, a3, a4, a5, a6, a7, a8, a9⟩ := hR.step
    simp only [rdF, ← e0] at h
    have hgone : H1[H.length + 2]? = some (.row 0 (gc n g) 0 true) := gr.get (by simp [RG])
    have hstr : H1[H.length + 1]? = some (.row 0 [.int .i64 (n : Nat), v] 0 true) := gr.get (by simp [RG])
    have c1 : bar ≤ H.length + 1 := by omega
    have c2 : bar ≤ H.length + 2 := by omega
    have la := fun {R : PQ} hr => l50a (base := H.length) (bar := bar) (t4 := .ptr H.length 0 0) (t5 := .ptr (H.length + 1) 0 0) (R := R) hl hlen hn hlt hgone a1 a4 (by rw [hdr]; exact a6) (by rw [hdr]; exact a7) k0 0 (by omega) hr
    generalize l[i] = x at *
    generalize l.drop (i + 1) = r at *
    rw [wp_round c50_l1.eq_1]
    simp [go_sem, hl.len, hlt]
    refine la ?_
    simp [go_sem, hix, aload, hstr, aop, fillA, setCells, AV.cells, chunks]
    refine Grow.pair gr (p := ((k0 : Int), (x : Int))) (by simp [RG]; omega) (by simp [RG]) (by omega) fun v' H' tc gr' => ?_
    obtain ⟨s1, s2⟩ := Grow.one gr'
    have hstr' : H'[H.length + 1]? = some (.row 0 [.int .i64 (n : Nat), v] 0 true) := gr'.get (by simp [RG])
    have g2 := Grow.set gr' (i := H.length + 1) (b := .row 0 [.int .i64 (n : Nat), v'] 0 true) (by simp [RG])
    have e2 : (RG H n v g).set (H.length + 1) (.row 0 [.int .i64 (n : Nat), v'] 0 true) = RG H n v' g := by simp [RG, own_set]
    rw [e2] at g2
    have hgone2 : (H'.set (H.length + 1) (.row 0 [.int .i64 (n : Nat), v'] 0 true))[H.length + 2]? = some (.row 0 (gc n g) 0 true) := g2.get (by simp [RG])
    have g3 := Grow.set g2 (i := H.length + 2) (b := .row 0 (gc n (updB g k0 true)) 0 true) (by simp [RG])
    have e3 : (RG H n v' g).set (H.length + 2) (.row 0 (gc n (updB g k0 true)) 0 true) = RG H n v' (updB g k0 true) := by simp [RG, own_set]
    rw [e3] at g3
    have hgone' : H'[H.length + 2]? = some (.row 0 (gc n g) 0 true) := gr'.get (by simp [RG])
    have gs : (gc n g).set k0 (.bool true) = gc n (updB g k0 true) := gc_set (b := true) a1
    simp [go_sem, storeWp, astore, s1, s2, setCells, hstr', hgone', c1, c2, a1, gc_len, gs, show k0 + 1 ≤ n from a1, i64_suc (show i < 1000000 by omega)]
    refine hnext _ _ v' _ a9 g3 (by simp; omega) h
end Go.Proofs.YtoipleipokpnaaaGreat.Code
end

section
namespace Go.Proofs.YtoipleipokpnaaaGreat.Code
open Go Go.Ab
variable {pure : Bool} {base bar : Nat} {H : Heap} {Q : AV → Heap → Prop} {K : AV → Heap → List Nat → Prop}

theorem k56o {k n : Nat} {v : AV} {l : List ZZ} (g : Own k 2 (prs l) v H) (hl : l.length < 1000) (hn : n ≤ 9) (hv : ∀ x y, tieB l x y = true → y < n) (hbk : bar ≤ k) (hbar : bar ≤ H.length)
    (h : ∀ u H2, isT u n (tidyF (tieB l) n) → H2.length = H.length → (∀ j, idOf v ≠ some j → H2[j]? = H[j]?) → Q u H2) : WpCall E pure base bar 56 [.agg [.int .i64 (n : Nat), v]] H Q := by
  obtain ⟨H2, f1, f2, f3, f4⟩ := g.frz (d := 4) (bar := bar) (by decide) ⟨_, prs_length⟩ prs_plain hbk
  have hq : isP (outL 2 (prs l)) l := isP.out
  have kk := k56 (pure := pure) (base := base) (bar := bar) (H := H2) (Q := Q) hq hl hn hv (by omega) fun u hu => h u H2 hu f3 f4
  rw [show 4 + 3 = 7 from rfl] at f1
  have e1 : frzAll bar H [.agg [.int .i64 (n : Nat), v]] = some ([.agg [.int .i64 (n : Nat), outL 2 (prs l)]], H2) := by simp [frzAll, frz.frzs, frzsW, frz_agg, frz_int, f1]
  have e2 : frzAll bar H2 [.agg [.int .i64 (n : Nat), outL 2 (prs l)]] = some ([.agg [.int .i64 (n : Nat), outL 2 (prs l)]], H2) := by simp [frzAll, frz.frzs, frzsW, frz_agg, frz_int, hq.frz]
  rw [call56, e2] at kk
  rw [call56, e1]
  exact kk

theorem take_same {X : Heap} (hl : H.length ≤ X.length) (h : ∀ j, j < H.length → X[j]? = H[j]?) : X.take H.length = H := by
  apply List.ext_getElem?
  intro j
  rcases Nat.lt_or_ge j H.length with hj | hj
  · rw [List.getElem?_take_of_lt hj]; exact h j hj
  · rw [List.getElem?_eq_none (by rw [List.length_take]; omega), List.getElem?_eq_none hj]
theorem Grow.own {sz : Nat} {cs : List AV} {H0 : Heap} {v : AV} (g : Grow sz cs H0 v H) : Own H0.length sz cs v H := by
  rcases g with ⟨rfl, rfl, rfl⟩ | ⟨ver, fz, h1, h2, rfl, rfl⟩
  · exact .inl ⟨rfl, rfl⟩
  · exact .inr ⟨_, ver, fz, h1, Nat.le_refl _, h2, rfl, by simp⟩

theorem l50c {n gid : Nat} {t4 t5 : AV} {g : Nat → Bool} {H0 : Heap} (hn : n ≤ 9) (hg : H0[gid]? = some (.row 0 (gc n g) 0 true)) (hb : bar ≤ H0.length) (hbase : base ≤ H0.length) {R : PQ} :
    ∀ (k i : Nat), i + k = n → ∀ (v : AV) (H : Heap), Grow 1 (nats ((List.range i).filter fun x => !g x)) H0 v H →
    (∀ v' H', Grow 1 (nats ((List.range n).filter fun x => !g x)) H0 v' H' → R (.exit 4) [(0, .int .i64 (n : Nat)), (4, t4), (5, t5), (6, .vec gid 0 0 n 1), (9, v'), (10, .int .i64 (n : Nat)), (50, .bool false)] H') →
    Wp E base bar (.loop c50_l2) [(0, .int .i64 (n : Nat)), (4, t4), (5, t5), (6, .vec gid 0 0 n 1), (9, v), (10, .int .i64 (i : Nat))] H R := by
  intro k
  induction k with
  | zero =>
    intro i hi v H gr h
    obtain rfl : i = n := by omega
    rw [wp_round c50_l2.eq_1]
    simp [go_sem]
    exact h v H gr
  | succ k ih =>
    intro i hi v H gr h
    have hlt : i < n := by omega
    have hgone := gr.get hg
    have hlen : ((List.range i).filter fun x => !g x).length ≤ i := by
      have := List.length_filter_le (fun x => !g x) (List.range i)
      rwa [List.length_range] at this
    have hr : (List.range (i + 1)).filter (fun x => !g x) = if g i then (List.range i).filter (fun x => !g x) else (List.range i).filter (fun x => !g x) ++ [i] := by
      rw [List.range_succ, List.filter_append, List.filter_cons, List.filter_nil]
      cases g i <;> simp
    have hnext := fun v H gr => ih (i + 1) (by omega) v H gr h
    rw [wp_round c50_l2.eq_1]
    cases hgi : g i with
    | true =>
      rw [hgi, if_pos rfl] at hr
      simp [go_sem, hlt, aload, hgone, gc_getE, gc_len, hgi, i64_suc (show i < 1000000 by omega)]
      exact hnext v H (by rw [hr]; exact gr)
    | false =>
      rw [hgi, if_neg (by simp)] at hr
      simp [go_sem, hlt, aload, hgone, gc_getE, gc_len, hgi, aop, fillA, setCells, AV.cells, chunks]
      refine gr.nat hb hbase (by omega) fun v' H' tc gr' => ?_
      simp [go_sem, i64_suc (show i < 1000000 by omega)]
      exact hnext v' H' (by rw [hr]; exact gr')

theorem filter_two {a c : Nat} (hac : a < c) : ∀ n, (List.range n).filter (fun x => decide (x = a) || decide (x = c)) = if n ≤ a then [] else if n ≤ c then [a] else [a, c]
  | 0 => by simp
  | n + 1 => by
    rw [List.range_succ, List.filter_append, filter_two hac n, List.filter_cons, List.filter_nil]
    by_cases h1 : n < a
    · simp [show n ≤ a by omega, show n + 1 ≤ a by omega, show ¬ n = a by omega, show ¬ n = c by omega]
    · by_cases h2 : n = a
      · subst h2
        simp [show ¬ n + 1 ≤ n by omega, show n + 1 ≤ c by omega]
      · by_cases h3 : n < c
        · simp [show ¬ n ≤ a by omega, show ¬ n + 1 ≤ a by omega, show n ≤ c by omega, show n + 1 ≤ c by omega, h2, show ¬ n = c by omega]
        · by_cases h4 : n = c
          · subst h4
            simp [show ¬ n ≤ a by omega, show ¬ n + 1 ≤ a by omega, show ¬ n + 1 ≤ n by omega]
          · simp [show ¬ n ≤ a by omega, show ¬ n + 1 ≤ a by omega, show ¬ n ≤ c by omega, show ¬ n + 1 ≤ c by omega, h2, h4]

theorem k50 {n : Nat} {lv : AV} {l : List Nat} (hl : isL lv l) (h1 : 1 ≤ n) (hn : n ≤ 9) (hlen : l.length = n - 2) (hv : ∀ x ∈ l, x < n) (hb : bar ≤ H.length)
    (h : ∀ u, isT u n (tidyF (tieB (rdAll n l)) n) → Q u H) : WpCall E pure base bar 50 [.int .i64 (n : Nat), lv] H Q := by
  rw [call50]
  have e0 : frzAll bar H [.int .i64 (n : Nat), lv] = some ([.int .i64 (n : Nat), lv], H) := by simp [frzAll, frz.frzs, frzsW, frz_int, hl.frz]
  rw [e0]
  have hb' : (if pure = true then H.length else bar) ≤ H.length := bar_if hb
  have hz : List.flatten (List.replicate n [AV.bool false]) = gc n fun _ => false := by
    simp [gc, List.flatten_replicate_singleton, List.map_const']
  have hbd : n ≤ 140737488355328 := by omega
  have c1 : (if pure = true then H.length else bar) ≤ H.length + 1 := by omega
  simp [go_sem, WpFun, c50, aop, AV.asNat, hz, hbd, fillA, setCells, storeWp, astore, AV.isTup, AV.cells, hb', c1]
  generalize (if pure = true then H.length else bar) = bar' at hb' c1
  have e1 : H ++ [.row 0 [.int .i64 0, .nils] 0 true, .row 0 [.int .i64 (n : Nat), .nils] 0 true, .row 0 (gc n fun _ => false) 0 true] = RG H n .nils fun _ => false := rfl
  rw [e1]
  by_cases h2 : 2 ≤ n
  · have hR := RI.start h2 hlen hv
    refine l50b hl (by omega) hn hb' l.length 0 (by omega) (fun _ => false) [] .nils _ (by rw [List.drop_zero]; exact hR) (by simpa [prs] using Grow.nil) (by simp) fun g b v H2 e hR2 gr hbl => ?_
    rw [List.drop_zero] at e
    obtain ⟨a, c, f0, f1, f2, f3, f4, f5, f6, f7, f8, f9⟩ := hR2.last
    have hall : rdAll n l = b ++ [((a : Int), (c : Int))] := by unfold rdAll; rw [if_neg (by omega), e, f0]
    have hac : a < c := by
      rcases Nat.lt_or_ge a c with h | h
      · exact h
      · have := f6 c (by omega); rw [f5] at this; cases this
    have hfil : (List.range n).filter (fun x => !g x) = [a, c] := by
      have e2 : (List.range n).filter (fun x => !g x) = (List.range n).filter fun x => decide (x = a) || decide (x = c) := by
        apply List.filter_congr
        intro x hx
        have hx := List.mem_range.1 hx
        cases hgx : g x with
        | true =>
          have n1 : ¬ x = a := fun e => by subst e; rw [f4] at hgx; cases hgx
          have n2 : ¬ x = c := fun e => by subst e; rw [f5] at hgx; cases hgx
          simp [n1, n2]
        | false =>
          rcases f9 x hx hgx with e | e <;> simp [e]
      rw [e2, filter_two hac, if_neg (by omega), if_neg (by omega)]
    have hgone : H2[H.length + 2]? = some (.row 0 (gc n g) 0 true) := gr.get (by simp [RG])
    have grl := gr.len
    have hRl : (RG H n v g).length = H.length + 3 := by simp [RG]
    rw [hRl] at grl
    have own := Grow.own gr
    rw [hRl] at own
    simp [go_sem]
    refine l50c hn hgone (by omega) (by omega) n 0 (by omega) .nils H2 (by simpa [nats] using Grow.nil) fun v9 H3 g9 => ?_
    rw [hfil] at g9
    have hget3 : ∀ j b, H2[j]? = some b → H3[j]? = some b := fun j b hj => g9.get hj
    have hstr : H3[H.length + 1]? = some (.row 0 [.int .i64 (n : Nat), v] 0 true) := hget3 _ _ (gr.get (by simp [RG]))
    have hcell : H3[H.length]? = some (.row 0 [.int .i64 0, .nils] 0 true) := hget3 _ _ (gr.get (by simp [RG]))
    have hP3 : ∀ j, j < H.length → H3[j]? = H[j]? := fun j hj => by
      obtain ⟨b, hbj⟩ : ∃ b, H[j]? = some b := ⟨H[j], List.getElem?_eq_getElem hj⟩
      rw [hbj]
      exact hget3 _ _ (gr.get (by simp [RG]; rw [List.getElem?_append_left hj]; exact hbj))
    have own3 : Own (H.length + 3) 2 (prs b) v H3 := own.mono fun j hj => by
      have hlt := (own.lt hj).2
      obtain ⟨b, hbj⟩ : ∃ b, H2[j]? = some b := ⟨H2[j], List.getElem?_eq_getElem hlt⟩
      rw [hbj]; exact hget3 _ _ hbj
    have hl3 : H2.length ≤ H3.length := g9.len
    rcases g9 with ⟨hnil, _, _⟩ | ⟨ver9, fz9, _, _, rfl, h3⟩
    · simp [nats] at hnil
    · have h9 : H3[H2.length]? = some (.row ver9 (nats [a, c]) fz9 false) := by rw [h3]; simp
      clear h3
      simp [go_sem, aload, hstr, h9, nats, aop, fillA, setCells, AV.cells, chunks]
      have hbl' : b.length ≤ 100 := by omega
      have hids : ∀ j, j < H.length + 3 → idOf v ≠ some j := fun j hj e => by have := (own3.lt e).1; omega
      refine own3.app (by omega) (by decide) ⟨b.length, prs_length⟩ (fun x hx => ?_) (by rfl) ⟨1, by simp [AV.cells]⟩ (by omega) (by omega) ?_ fun v' H4 tc ow4 kp => ?_
      · simp [AV.cells] at hx; rcases hx with rfl | rfl <;> exact Plain.int
      · have : (prs b ++ [AV.agg [AV.int .i64 (a : Int), AV.int .i64 (c : Int)]].flatMap AV.cells).length / 2 = b.length + 1 := by
          simp [prs_length, AV.cells]
        rw [this]; omega
      have ec : prs b ++ [AV.agg [AV.int .i64 (a : Int), AV.int .i64 (c : Int)]].flatMap AV.cells = prs (rdAll n l) := by
        rw [hall]; simp [prs_append, prs_one, zc, AV.cells]
      rw [ec] at ow4
      obtain ⟨s1, s2⟩ := ow4.slot
      have hsame : ∀ j, j < H.length + 3 → H4[j]? = H3[j]? := fun j hj => kp.same j (by omega) (hids j hj)
      have hl4 := kp.len
      have hstr4 : H4[H.length + 1]? = some (.row 0 [.int .i64 (n : Nat), v] 0 true) := by rw [hsame _ (by omega)]; exact hstr
      simp [go_sem, storeWp, astore, s1, s2, setCells, hstr4, c1]
      have ow5 : Own (H.length + 3) 2 (prs (rdAll n l)) v' (H4.set (H.length + 1) (.row 0 [.int .i64 (n : Nat), v'] 0 true)) := ow4.mono fun j hj => by
        have := (ow4.lt hj).1
        rw [List.getElem?_set_ne (by omega)]
      have hstr5 : (H4.set (H.length + 1) (.row 0 [.int .i64 (n : Nat), v'] 0 true))[H.length + 1]? = some (.row 0 [.int .i64 (n : Nat), v'] 0 true) := by
        rw [List.getElem?_set_self (by omega)]
      have hlow : ∀ j, j < H.length + 1 → (H4.set (H.length + 1) (.row 0 [.int .i64 (n : Nat), v'] 0 true))[j]? = H3[j]? := fun j hj => by
        rw [List.getElem?_set_ne (by omega), hsame j (by omega)]
      have hl5 : H.length + 2 ≤ (H4.set (H.length + 1) (.row 0 [.int .i64 (n : Nat), v'] 0 true)).length := by rw [List.length_set]; omega
      generalize H4.set (H.length + 1) (.row 0 [.int .i64 (n : Nat), v'] 0 true) = H5 at *
      have hvt : ∀ x y, tieB (rdAll n l) x y = true → y < n := fun x y hxy => by
        refine (tieB_lt (n := n) (fun p hp => ?_) hxy).2.1
        rw [hall] at hp
        rcases List.mem_append.1 hp with hp | hp
        · exact hR2.ok p hp
        · rw [List.mem_singleton] at hp; subst hp
          exact ⟨by simp, by simp, by simp only; omega, by simp only; omega, by simp only; omega⟩
      simp [go_sem, aload, hstr5]
      refine k56o ow5 (by rw [hall]; simp; omega) hn hvt (by omega) (by omega) fun u H6 hu hl6 hs6 => ?_
      have hk := h u hu
      have hid5 : ∀ j, j < H.length + 3 → idOf v' ≠ some j := fun j hj e => by have := (ow5.lt e).1; omega
      have hcell6 : H6[H.length]? = some (.row 0 [.int .i64 0, .nils] 0 true) := by rw [hs6 _ (hid5 _ (by omega)), hlow _ (by omega)]; exact hcell
      obtain ⟨q', hq', rfl⟩ := hu
      have htake : (H6.set H.length (.row 0 [.int .i64 (n : Nat), q'] 0 true)).take H.length = H := take_same (by rw [List.length_set]; omega) fun j hj => by
        rw [List.getElem?_set_ne (by omega), hs6 _ (hid5 _ (by omega)), hlow _ (by omega)]; exact hP3 j hj
      have hself : (H6.set H.length (.row 0 [.int .i64 (n : Nat), q'] 0 true))[H.length]? = some (.row 0 [.int .i64 (n : Nat), q'] 0 true) := by
        rw [List.getElem?_set_self (by omega)]
      simp only [go_sem]
      simp [go_sem, storeWp, astore, AV.isTup, AV.cells, hcell6, hb']
      generalize H6.set H.length (.row 0 [.int .i64 (n : Nat), q'] 0 true) = H7 at *
      simp [go_sem, aload, hself, frz_agg, hq'.frz, hq'.top, tops_cons, tops_nil, htake]
      exact hk
  · obtain rfl : n = 1 := by omega
    obtain rfl : l = [] := List.length_eq_zero_iff.1 (by omega)
    have hall : rdAll 1 [] = [] := by unfold rdAll; rw [if_pos (Nat.le_refl _)]
    rw [hall] at h
    rw [wp_round c50_l1.eq_1]
    simp [go_sem, hl.len]
    have hRl : (RG H 1 .nils fun _ => false).length = H.length + 3 := by simp [RG]
    refine l50c (base := H.length) (bar := bar') (H0 := RG H 1 .nils fun _ => false) (g := fun _ => false) (n := 1) (gid := H.length + 2) (by decide) (by simp [RG]) (by rw [hRl]; omega) (by rw [hRl]; omega) 1 0 (Nat.zero_add 1) .nils _ (by simpa [nats] using Grow.nil) fun v9 H3 g9 => ?_
    have hfil : (List.range 1).filter (fun x => !(fun _ => false : Nat → Bool) x) = [0] := by decide
    rw [hfil] at g9
    have hstr : H3[H.length + 1]? = some (.row 0 [.int .i64 (1 : Nat), .nils] 0 true) := g9.get (by simp [RG])
    have hcell : H3[H.length]? = some (.row 0 [.int .i64 0, .nils] 0 true) := g9.get (by simp [RG])
    have hP3 : ∀ j, j < H.length → H3[j]? = H[j]? := fun j hj => by
      obtain ⟨b, hbj⟩ : ∃ b, H[j]? = some b := ⟨H[j], List.getElem?_eq_getElem hj⟩
      rw [hbj]
      exact g9.get (by simp [RG]; rw [List.getElem?_append_left hj]; exact hbj)
    have hl3 : H.length + 3 ≤ H3.length := by have := g9.len; omega
    rcases g9 with ⟨hnil, _, _⟩ | ⟨ver9, fz9, _, _, rfl, h3⟩
    · simp [nats] at hnil
    · clear h3
      have hstr' : H3[H.length + 1]? = some (.row 0 [.int .i64 1, .nils] 0 true) := hstr
      simp [go_sem, aload, hstr', nats]
      refine k56 (n := 1) (l := []) isP.nil (by simp) hn (fun x y hxy => by rw [tieB_nil] at hxy; cases hxy) (by omega) fun u hu => ?_
      have hk := h u hu
      obtain ⟨q', hq', rfl⟩ := hu
      have htake : (H3.set H.length (.row 0 [.int .i64 (1 : Nat), q'] 0 true)).take H.length = H := take_same (by rw [List.length_set]; omega) fun j hj => by
        rw [List.getElem?_set_ne (by omega)]; exact hP3 j hj
      have hself : (H3.set H.length (.row 0 [.int .i64 (1 : Nat), q'] 0 true))[H.length]? = some (.row 0 [.int .i64 (1 : Nat), q'] 0 true) := by
        rw [List.getElem?_set_self (by omega)]
      simp only [go_sem]
      simp [go_sem, storeWp, astore, AV.isTup, AV.cells, hcell, hb']
      have e1 : ((1 : Nat) : Int) = 1 := rfl
      rw [e1] at hself htake hk
      generalize H3.set H.length (.row 0 [.int .i64 1, q'] 0 true) = H7 at *
      simp [go_sem, aload, hself, frz_agg, hq'.frz, hq'.top, tops_cons, tops_nil, htake]
      exact hk
end Go.Proofs.YtoipleipokpnaaaGreat.Code
end

section
namespace Go.Proofs.YtoipleipokpnaaaGreat.Code
open Go Go.Ab
variable {pure : Bool} {base bar : Nat} {H : Heap} {Q : AV → Heap → Prop} {K : AV → Heap → List Nat → Prop}

theorem l26 {n : Nat} {v : AV} {l : List Int} (hn : n ≤ 9) (hv : isZ v l) (hl : l.length < 1000) (hb : bar ≤ H.length) {R : PQ} : ∀ (k i : Nat), i + k = l.length →
    ((l.drop i).any (outR n) = false → R (.exit 0) [(0, .int .i64 (n : Nat)), (1, v), (4, .ptr H.length 0 0), (6, .int .i64 (l.length : Nat)), (21, .bool false)] (H ++ [.row 0 [.int .i64 0, .nils] 0 true])) →
    ((l.drop i).any (outR n) = true → R .ret [(4, .ptr H.length 0 0), (5, .int .i64 2)] (H ++ [.row 0 [.int .i64 0, .nils] 0 true])) →
    Wp E H.length bar (.loop c26_l0) [(0, .int .i64 (n : Nat)), (1, v), (4, .ptr H.length 0 0), (6, .int .i64 (i : Nat))] (H ++ [.row 0 [.int .i64 0, .nils] 0 true]) R := by
  intro k
  have hlen := fun (H : Heap) (K : AV → Heap → List Nat → Prop) => hv.len (H := H) (K := K)
  induction k with
  | zero =>
    intro i hi h1 h2
    obtain rfl : i = l.length := by omega
    rw [List.drop_length] at h1
    rw [wp_round c26_l0.eq_1]
    simp [go_sem, hlen]
    exact h1 rfl
  | succ k ih =>
    intro i hi h1 h2
    have hlt : i < l.length := by omega
    rw [List.drop_eq_getElem_cons hlt, List.any_cons] at h1 h2
    have hix := fun (H : Heap) (K : AV → Heap → List Nat → Prop) (k : IntKind) => hv.ix (H := H) (K := K) (k := k) hlt
    have hnext := ih (i + 1) (by omega)
    generalize l[i] = x at *
    have e1 := i64_pred hn
    rw [wp_round c26_l0.eq_1]
    cases hc : outR n x
    · rw [hc] at h1 h2
      simp only [Bool.false_or] at h1 h2
      have hx : (decide (0 ≤ x) && decide (x ≤ (n : Int) - 1)) = true := by simpa [outR] using hc
      simp [go_sem, hlen, hlt, hix, aload, e1, k47, hx, i64_suc (show i < 1000000 by omega)]
      exact hnext h1 h2
    · rw [hc] at h1 h2
      have hx : (decide (0 ≤ x) && decide (x ≤ (n : Int) - 1)) = false := by
        unfold outR at hc
        cases h : (decide (0 ≤ x) && decide (x ≤ (n : Int) - 1)) with
        | false => rfl
        | true => rw [h] at hc; cases hc
      have hh := h2 (by simp)
      simp [go_sem, hlen, hlt, hix, aload, e1, k47, hx, fillA, setCells, storeWp, astore, AV.isTup, AV.cells, hb]
      exact hh

theorem k26 {n : Int} {v : AV} {l : List Int} (hv : isZ v l) (hl : l.length < 1000) (hbar : bar ≤ H.length)
    (h1 : rdE n l ≠ 0 → Q (.tup [.agg [.int .i64 0, .nils], .int .i64 (rdE n l)]) H)
    (h2 : ∀ (m : Nat) (L : List Nat) u, n = m → rdE n l = 0 → l = natsZ L → isT u m (tidyF (tieB (rdAll m L)) m) → Q (.tup [u, .int .i64 0]) H) : WpCall E pure base bar 26 [.int .i64 n, v] H Q := by
  rw [call26]
  have e0 : frzAll bar H [.int .i64 n, v] = some ([.int .i64 n, v], H) := by simp [frzAll, frz.frzs, frzsW, frz_int, hv.frz]
  rw [e0]
  have hb' : (if pure = true then H.length else bar) ≤ H.length := bar_if hbar
  by_cases hr : 1 ≤ n ∧ n ≤ 9
  · obtain ⟨m, rfl⟩ := Int.eq_ofNat_of_zero_le (show 0 ≤ n by omega)
    have hm1 : 1 ≤ m := by omega
    have hm9 : m ≤ 9 := by omega
    have hr' : (decide (1 ≤ (m : Int)) && decide ((m : Int) ≤ 9)) = true := by simp; omega
    have hi2 : IntKind.i64.wrap ((m : Int) - 2) = (m : Int) - 2 := Go.IntWalk.i64_in _ (by omega)
    have hmx : (if 2 < (m : Int) then (m : Int) - 2 else 0) = max 0 ((m : Int) - 2) := by split <;> omega
    by_cases hlen : (l.length : Int) = if 2 < (m : Int) then (m : Int) - 2 else 0
    · simp [go_sem, WpFun, c26, hv.isTup, hv.cells, aload, AV.isTup, AV.cells, k47, hr', aop, Opd.evo, hi2, hv.len]
      rw [if_pos hlen]
      refine l26 hm9 hv hl hb' l.length 0 (by omega) (fun ha => ?_) (fun ha => ?_)
      · rw [List.drop_zero] at ha
        have e : rdE m l = 0 := by unfold rdE; rw [if_neg (by simpa using hr), if_neg (by rw [← hmx]; simpa using hlen), if_neg (by simp [ha])]
        obtain ⟨m', L, em, _, _, hz, hLlen, hLv, _, _⟩ := rdE_ok e
        obtain rfl : m = m' := by omega
        have hvl : isL v L := isZ.l (by rw [← hz]; exact hv)
        simp [go_sem]
        refine k50 hvl hm1 hm9 hLlen hLv (by simp; omega) fun u hu => ?_
        have hk := h2 m L u rfl e hz hu
        obtain ⟨q', hq', rfl⟩ := hu
        simp [go_sem, storeWp, astore, AV.isTup, AV.cells, hb', aload, hq'.isTup, hq'.cells, frz_agg, hq'.frz, hq'.top, tops_cons, tops_nil]
        exact hk
      · rw [List.drop_zero] at ha
        have e : rdE m l = 2 := by unfold rdE; rw [if_neg (by simpa using hr), if_neg (by rw [← hmx]; simpa using hlen), if_pos ha]
        have hh := h1 (by rw [e]; decide)
        rw [e] at hh
        simp [go_sem, aload]
        exact hh
    · have e : rdE m l = 5 := by unfold rdE; rw [if_neg (by simpa using hr), if_pos (by rw [← hmx]; exact hlen)]
      have hh := h1 (by rw [e]; decide)
      rw [e] at hh
      simp [go_sem, WpFun, c26, hv.isTup, hv.cells, aload, AV.isTup, AV.cells, k47, hr', aop, Opd.evo, hi2, hv.len]
      rw [if_neg hlen]
      simp [go_sem, fillA, setCells, storeWp, astore, AV.isTup, AV.cells, hb', aload]
      exact hh
  · have hr' : (decide (1 ≤ n) && decide (n ≤ 9)) = false := by simpa using hr
    have e : rdE n l = 1 := by unfold rdE; rw [if_pos hr]
    have hh := h1 (by rw [e]; decide)
    rw [e] at hh
    simp [go_sem, WpFun, c26, hv.isTup, hv.cells, aload, AV.isTup, AV.cells, k47, hr', fillA, setCells, storeWp, astore, hb']
    exact hh

/-! same, ties, trees, large -/
theorem k7 {n : Int} {q : AV} {l : List ZZ} (hq : isP q l) : WpCall E pure base bar 7 [.agg [.int .i64 n, q]] H Q ↔ Q (.bool (decide (60 < l.length))) H := by
  rw [call7]
  have e0 : frzAll bar H [.agg [.int .i64 n, q]] = some ([.agg [.int .i64 n, q]], H) := by simp [frzAll, frz.frzs, frzsW, frz_agg, frz_int, hq.frz]
  rw [e0]
  by_cases h : 60 < l.length
  · have h' : (60 : Int) < (l.length : Int) := by omega
    simp [go_sem, WpFun, c7, hq.isTup, hq.cells, aload, AV.isTup, AV.cells, hq.len, h, h']
  · have h' : ¬ (60 : Int) < (l.length : Int) := by omega
    simp [go_sem, WpFun, c7, hq.isTup, hq.cells, aload, AV.isTup, AV.cells, hq.len, h, h']

theorem l20 {u v : AV} {l : List Nat} (hu : isL u l) (hv : isL v l) (hl : l.length < 1000) {R : PQ} :
    ∀ (k i : Nat), i + k = l.length → R (.exit 0) [(0, u), (1, v), (5, .int .i64 (l.length : Nat)), (14, .bool false)] H →
    Wp E base bar (.loop c20_l0) [(0, u), (1, v), (5, .int .i64 (i : Nat))] H R := by
  intro k
  have ulen := fun (H : Heap) (K : AV → Heap → List Nat → Prop) => hu.len (H := H) (K := K)
  induction k with
  | zero =>
    intro i hi h
    obtain rfl : i = l.length := by omega
    rw [wp_round c20_l0.eq_1]
    simp [go_sem, ulen]
    exact h
  | succ k ih =>
    intro i hi h
    have hlt : i < l.length := by omega
    have uix := fun (H : Heap) (K : AV → Heap → List Nat → Prop) (k : IntKind) => hu.ix (H := H) (K := K) (k := k) hlt
    have vix := fun (H : Heap) (K : AV → Heap → List Nat → Prop) (k : IntKind) => hv.ix (H := H) (K := K) (k := k) hlt
    have hnext := ih (i + 1) (by omega) h
    generalize l[i] = x at *
    rw [wp_round c20_l0.eq_1]
    simp [go_sem, ulen, hlt, uix, vix, aload, i64_suc (show i < 1000000 by omega)]
    exact hnext
theorem k20 {u v : AV} {l : List Nat} (hu : isL u l) (hv : isL v l) (hl : l.length < 1000) (h : Q (.bool true) H) : WpCall E pure base bar 20 [u, v] H Q := by
  rw [call20]
  have e0 : frzAll bar H [u, v] = some ([u, v], H) := by simp [frzAll, frz.frzs, frzsW, hu.frz, hv.frz]
  rw [e0]
  simp [go_sem, WpFun, c20, hu.len, hv.len]
  refine l20 hu hv hl l.length 0 (by omega) ?_
  simp [go_sem]
  exact h
theorem l33 {u v : AV} {l : List ZZ} (hu : isP u l) (hv : isP v l) (hl : l.length < 1000) {R : PQ} :
    ∀ (k i : Nat), i + k = l.length → R (.exit 0) [(0, u), (1, v), (5, .int .i64 (l.length : Nat)), (14, .bool false)] H →
    Wp E base bar (.loop c33_l0) [(0, u), (1, v), (5, .int .i64 (i : Nat))] H R := by
  intro k
  have ulen := fun (H : Heap) (K : AV → Heap → List Nat → Prop) => hu.len (H := H) (K := K)
  induction k with
  | zero =>
    intro i hi h
    obtain rfl : i = l.length := by omega
    rw [wp_round c33_l0.eq_1]
    simp [go_sem, ulen]
    exact h
  | succ k ih =>
    intro i hi h
    have hlt : i < l.length := by omega
    have uix := fun (H : Heap) (K : AV → Heap → List Nat → Prop) (k : IntKind) => hu.ix (H := H) (K := K) (k := k) hlt
    have vix := fun (H : Heap) (K : AV → Heap → List Nat → Prop) (k : IntKind) => hv.ix (H := H) (K := K) (k := k) hlt
    have hnext := ih (i + 1) (by omega) h
    simp only [zc] at uix vix
    generalize l[i] = x at *
    rw [wp_round c33_l0.eq_1]
    simp [go_sem, ulen, hlt, uix, vix, aload, eqWp_flat2, i64_suc (show i < 1000000 by omega)]
    exact hnext
theorem k33 {u v : AV} {l : List ZZ} (hu : isP u l) (hv : isP v l) (hl : l.length < 1000) (h : Q (.bool true) H) : WpCall E pure base bar 33 [u, v] H Q := by
  rw [call33]
  have e0 : frzAll bar H [u, v] = some ([u, v], H) := by simp [frzAll, frz.frzs, frzsW, hu.frz, hv.frz]
  rw [e0]
  simp [go_sem, WpFun, c33, hu.len, hv.len]
  refine l33 hu hv hl l.length 0 (by omega) ?_
  simp [go_sem]
  exact h
theorem k15 {n : Int} {u v : AV} {l : List ZZ} (hu : isP u l) (hv : isP v l) (hl : l.length < 1000) (h : Q (.bool true) H) : WpCall E pure base bar 15 [.agg [.int .i64 n, u], .agg [.int .i64 n, v]] H Q := by
  rw [call15]
  have e0 : frzAll bar H [.agg [.int .i64 n, u], .agg [.int .i64 n, v]] = some ([.agg [.int .i64 n, u], .agg [.int .i64 n, v]], H) := by simp [frzAll, frz.frzs, frzsW, frz_agg, frz_int, hu.frz, hv.frz]
  rw [e0]
  simp [go_sem, WpFun, c15, hu.isTup, hu.cells, hv.isTup, hv.cells, aload, AV.isTup, AV.cells]
  refine k33 hu hv hl ?_
  simp [go_sem]
  exact h
end Go.Proofs.YtoipleipokpnaaaGreat.Code
end

section
namespace Go.Proofs.YtoipleipokpnaaaGreat.Code
open Go Go.Ab
variable {pure : Bool} {base bar : Nat} {H : Heap} {Q : AV → Heap → Prop} {K : AV → Heap → List Nat → Prop}

theorem wrF_len {n : Nat} : ∀ {t : Nat} {w : Nat → Nat}, (wrF n t w).length ≤ t
  | 0, _ => by simp [wrF]
  | t + 1, w => by
    simp only [wrF]
    split
    · rw [List.length_cons]
      have := wrF_len (n := n) (t := t) (w := tieW w (by assumption) ((bitsN (w (by assumption))).headD 0))
      omega
    · simp

/-- both sides give the same tidy tree -/
theorem tidy_same {n : Int} {q : AV} {l : List ZZ} (hq : isP q l) (hl : l.length < 1000) : ∃ (N : Int) (T : List ZZ), T.length < 1000 ∧
    (∀ (pure : Bool) (base bar : Nat) (H : Heap) (Q : AV → Heap → Prop), bar ≤ H.length → (∀ p, isP p T → Q (.tup [.agg [.int .i64 N, p], .int .i64 (errT n l)]) H) → WpCall E pure base bar 21 [.agg [.int .i64 n, q]] H Q) ∧
    (∀ (pure : Bool) (base bar : Nat) (H : Heap) (Q : AV → Heap → Prop), bar ≤ H.length → (∀ p, isP p T → Q (.tup [.agg [.int .i64 N, p], .int .i64 (errT n l)]) H) → WpCall E pure base bar 22 [.agg [.int .i64 n, q]] H Q) := by
  by_cases he : errT n l = 0
  · obtain ⟨m, hm, p1, p2, _⟩ := errT_ok he
    refine ⟨m, tidyF (tieB l) m, by have := tidyF_len (f := tieB l) (n := m); omega, fun pure base bar H Q hb h => ?_, fun pure base bar H Q hb h => ?_⟩
    · refine k21 hq hl hb (fun h2 => absurd he h2) fun m' u hm' _ hu => ?_
      obtain rfl : m = m' := by omega
      obtain ⟨p, hp, rfl⟩ := hu
      rw [he] at h
      exact h p hp
    · refine k22 hq hl hb (fun h2 => absurd he h2) fun m' u hm' _ hu => ?_
      obtain rfl : m = m' := by omega
      obtain ⟨p, hp, rfl⟩ := hu
      rw [he] at h
      exact h p hp
  · refine ⟨0, [], by simp, fun pure base bar H Q hb h => ?_, fun pure base bar H Q hb h => ?_⟩
    · exact k21 hq hl hb (fun _ => h _ isP.nil) fun m' u hm' h2 hu => absurd h2 he
    · exact k22 hq hl hb (fun _ => h _ isP.nil) fun m' u hm' h2 hu => absurd h2 he
theorem write_same {n : Int} {q : AV} {l : List ZZ} (hq : isP q l) (hl : l.length < 1000) : ∃ L : List Nat, L.length < 1000 ∧
    (∀ (pure : Bool) (base bar : Nat) (H : Heap) (Q : AV → Heap → Prop), bar ≤ H.length → (∀ p, isL p L → Q (.tup [p, .int .i64 (errT n l)]) H) → WpCall E pure base bar 23 [.agg [.int .i64 n, q]] H Q) ∧
    (∀ (pure : Bool) (base bar : Nat) (H : Heap) (Q : AV → Heap → Prop), bar ≤ H.length → (∀ p, isL p L → Q (.tup [p, .int .i64 (errT n l)]) H) → WpCall E pure base bar 24 [.agg [.int .i64 n, q]] H Q) := by
  by_cases he : errT n l = 0
  · obtain ⟨m, hm, p1, p2, _, hE, _, _⟩ := errT_ok he
    obtain ⟨w, k1, k2⟩ := wd_sum p2 (r := l) Wd.nil hE (by simp [bitsN_zero, Sm_zero])
    rw [List.nil_append] at k1
    refine ⟨wrF m (m - 2) w, by have := wrF_len (n := m) (t := m - 2) (w := w); omega, fun pure base bar H Q hb h => ?_, fun pure base bar H Q hb h => ?_⟩
    · refine k23 hq hl hb (fun h2 => absurd he h2) fun m' w' u hm' _ _ _ hw hu => ?_
      obtain rfl : m = m' := by omega
      obtain rfl := wd_unique k1 hw
      rw [he] at h
      exact h _ hu
    · refine k24 hq hl hb (fun h2 => absurd he h2) fun m' w' u hm' _ _ _ hw hu => ?_
      obtain rfl : m = m' := by omega
      obtain rfl := wd_unique k1 hw
      rw [he] at h
      exact h _ hu
  · refine ⟨[], by simp, fun pure base bar H Q hb h => ?_, fun pure base bar H Q hb h => ?_⟩
    · exact k23 hq hl hb (fun _ => h _ isL.nil) fun m' w' u hm' _ _ h2 => absurd h2 he
    · exact k24 hq hl hb (fun _ => h _ isL.nil) fun m' w' u hm' _ _ h2 => absurd h2 he
theorem natsZ_inj : ∀ {a b : List Nat}, natsZ a = natsZ b → a = b
  | [], [], _ => rfl
  | [], _ :: _, h => by simp [natsZ] at h
  | _ :: _, [], h => by simp [natsZ] at h
  | x :: a, y :: b, h => by
    simp only [natsZ, List.map_cons, List.cons.injEq] at h
    obtain ⟨h1, h2⟩ := h
    have := natsZ_inj (a := a) (b := b) h2
    subst this
    rw [Int.ofNat_inj.1 h1]
theorem read_same {n : Int} {v : AV} {l : List Int} (hv : isZ v l) (hl : l.length < 1000) : ∃ (N : Int) (T : List ZZ), T.length < 1000 ∧
    (∀ (pure : Bool) (base bar : Nat) (H : Heap) (Q : AV → Heap → Prop), bar ≤ H.length → (∀ p, isP p T → Q (.tup [.agg [.int .i64 N, p], .int .i64 (rdE n l)]) H) → WpCall E pure base bar 25 [.int .i64 n, v] H Q) ∧
    (∀ (pure : Bool) (base bar : Nat) (H : Heap) (Q : AV → Heap → Prop), bar ≤ H.length → (∀ p, isP p T → Q (.tup [.agg [.int .i64 N, p], .int .i64 (rdE n l)]) H) → WpCall E pure base bar 26 [.int .i64 n, v] H Q) := by
  by_cases he : rdE n l = 0
  · obtain ⟨m, L, hm, p1, p2, hz, _⟩ := rdE_ok he
    refine ⟨m, tidyF (tieB (rdAll m L)) m, by have := tidyF_len (f := tieB (rdAll m L)) (n := m); omega, fun pure base bar H Q hb h => ?_, fun pure base bar H Q hb h => ?_⟩
    · refine k25 hv hl hb (fun h2 => absurd he h2) fun m' L' u hm' _ hz' hu => ?_
      obtain rfl : m = m' := by omega
      obtain rfl : L = L' := natsZ_inj (hz.symm.trans hz')
      obtain ⟨p, hp, rfl⟩ := hu
      rw [he] at h
      exact h p hp
    · refine k26 hv hl hb (fun h2 => absurd he h2) fun m' L' u hm' _ hz' hu => ?_
      obtain rfl : m = m' := by omega
      obtain rfl : L = L' := natsZ_inj (hz.symm.trans hz')
      obtain ⟨p, hp, rfl⟩ := hu
      rw [he] at h
      exact h p hp
  · refine ⟨0, [], by simp, fun pure base bar H Q hb h => ?_, fun pure base bar H Q hb h => ?_⟩
    · exact k25 hv hl hb (fun _ => h _ isP.nil) fun m' L' u hm' h2 => absurd h2 he
    · exact k26 hv hl hb (fun _ => h _ isP.nil) fun m' L' u hm' h2 => absurd h2 he

/-- law 4: BranchWrites -/
theorem writes_true {n a1 : Int} {q v : AV} {l : List ZZ} {m : List Int} (hq : isP q l) (hv : isZ v m) : ∃ f H', acall E f 4 [.agg [.int .i64 n, q], .int .i64 a1, v] [] = some (.bool true, H') := by
  have key : WpCall E false 0 0 4 [.agg [.int .i64 n, q], .int .i64 a1, v] [] (fun v _ => v = .bool true) := by
    rw [call4]
    have e0 : frzAll 0 [] [.agg [.int .i64 n, q], .int .i64 a1, v] = some ([.agg [.int .i64 n, q], .int .i64 a1, v], []) := by simp [frzAll, frz.frzs, frzsW, frz_agg, frz_int, hq.frz, hv.frz]
    rw [e0]
    by_cases h1 : 60 < l.length
    · simp [go_sem, WpFun, c4, hq.isTup, hq.cells, aload, AV.isTup, AV.cells, k7 hq, h1, call8]
    · by_cases h2 : 60 < m.length
      · have h2' : (60 : Int) < (m.length : Int) := by omega
        simp [go_sem, WpFun, c4, hq.isTup, hq.cells, aload, AV.isTup, AV.cells, k7 hq, h1, hv.len, h2, h2', call8]
      · have h2' : ¬ (60 : Int) < (m.length : Int) := by omega
        obtain ⟨N1, T1, t1, t2, t3⟩ := tidy_same (n := n) hq (by omega)
        obtain ⟨L, l1, l2, l3⟩ := write_same (n := n) hq (by omega)
        obtain ⟨N2, T2, r1, r2, r3⟩ := read_same (n := a1) hv (by omega)
        simp [go_sem, WpFun, c4, hq.isTup, hq.cells, aload, AV.isTup, AV.cells, k7 hq, h1, hv.len, h2, h2', storeWp, astore]
        refine t2 _ _ _ _ _ (by simp) fun p1 hp1 => ?_
        simp [go_sem, hp1.isTup, hp1.cells, aload, AV.isTup, AV.cells, storeWp, astore]
        refine t3 _ _ _ _ _ (by simp) fun p2 hp2 => ?_
        simp [go_sem, hp2.isTup, hp2.cells, aload, AV.isTup, AV.cells, storeWp, astore]
        refine l2 _ _ _ _ _ (by simp) fun p3 hp3 => ?_
        simp [go_sem, aload]
        refine l3 _ _ _ _ _ (by simp) fun p4 hp4 => ?_
        simp [go_sem]
        refine r2 _ _ _ _ _ (by simp) fun p5 hp5 => ?_
        simp [go_sem, hp5.isTup, hp5.cells, aload, AV.isTup, AV.cells, storeWp, astore]
        refine r3 _ _ _ _ _ (by simp) fun p6 hp6 => ?_
        simp [go_sem, hp6.isTup, hp6.cells, aload, AV.isTup, AV.cells, storeWp, astore]
        refine k15 hp1 hp2 t1 ?_
        simp [go_sem]
        refine k20 hp3 hp4 l1 ?_
        simp [go_sem, aload]
        refine k15 hp5 hp6 r1 ?_
        simp [go_sem, aload]
        refine k27 hq (by omega) (by simp) ?_
        simp [go_sem, aload]
        refine k28 hq (by omega) (by simp) ?_
        simp [go_sem, call8, hq.noVec]
  obtain ⟨f, v, H', h1, rfl⟩ := key
  exact ⟨f, H', h1⟩
end Go.Proofs.YtoipleipokpnaaaGreat.Code
end

section
namespace Go.Proofs.YtoipleipokpnaaaGreat.Code
open Go Go.Ab Go.RowKit Go.ChangeShapes Go.WideShapes

/-- a list of numbers as an argument -/
theorem ints_vr {H : Type} {enc : TypeId × Value → H} {P : Program} {W : World} {spare : Nat → Bool} {held : Bool} {t e : TypeId} {v : Value} {d : DataW H} {ps : List MemPlace} {r : Reach} {b0 : Nat}
    (ht : P.underlying t = some (.slice e)) (he : P.underlying e = some (.int .i64)) (ce : P.cellsOf e = 1)
    (hval : Value.okWide P W r b0 t v) (hd : DataW.Trod enc P W 0 spare held t v d ps) :
    ∃ q l, VR (ctx0 W) q v ∧ isZ q l := by
  have hok : Cell.okWide P W r b0 t v := by
    unfold Value.okWide at hval
    rw [ht] at hval
    exact hval
  have hcell : v.cells.toList = [v] := by
    cases v with
    | agg cs =>
      unfold Cell.okWide at hok
      rw [ht] at hok
      simp only at hok
      unfold Cell.ok at hok
      rw [ht] at hok
      exact hok.elim
    | _ => rfl
  obtain ⟨fuel, hd⟩ := hd
  rw [hcell] at hd
  have hf : flatT P 1 e = true := by unfold flatT; rw [he]
  obtain ⟨q, q1, q2, q3⟩ := slice_vr (n := 1) ht hf hd hok
  rcases q3 with rfl | ⟨xs, rfl, hxs⟩
  · exact ⟨_, [], q1, .inl ⟨rfl, rfl⟩⟩
  · have each : ∀ x ∈ xs, ∃ z, x = .int .i64 z := fun x hx => by
      obtain ⟨ys, rfl, hs⟩ := hxs x hx
      unfold Sh at hs
      rw [he] at hs
      obtain ⟨z, rfl, _⟩ := hs
      exact ⟨z, by unfold wrapA; rw [he]; rfl⟩
    have all : ∀ {xs : List AV}, (∀ x ∈ xs, ∃ z, x = .int .i64 z) → ∃ l, xs = ints l := by
      intro xs
      induction xs with
      | nil => exact fun _ => ⟨[], rfl⟩
      | cons x r ih =>
        intro h
        obtain ⟨z, rfl⟩ := h x (List.mem_cons_self ..)
        obtain ⟨l, rfl⟩ := ih fun y hy => h y (List.mem_cons_of_mem _ hy)
        exact ⟨z :: l, rfl⟩
    obtain ⟨l, rfl⟩ := all each
    rw [ce] at q1
    exact ⟨_, l, q1, .inr ⟨false, rfl⟩⟩
end Go.Proofs.YtoipleipokpnaaaGreat.Code
end

