/-
  Parts of the proofs about this chapter, joined: contracts of functions and plain laws.
-/
import Derived.Test.YtoipleipokpnaaaGreatWca
import Derived.KernelRfl
set_option linter.all false
section
namespace Go.Proofs.YtoipleipokpnaaaGreat.Code
open Go Go.Ab
variable {pure : Bool} {base bar : Nat} {H : Heap} {Q : AV → Heap → Prop} {K : AV → Heap → List Nat → Prop}
/-! Nth -/
theorem rem_n {x m : Nat} (hm : m ≠ 0) : abin .rem (.int .i64 (x : Int)) (.int .i64 (m : Int)) = some (.int .i64 ((x % m : Nat) : Int)) := by
  show (if (m : Int) = 0 then none else some (AV.int .i64 ((x : Int).tmod (m : Int)))) = _
  rw [if_neg (by omega), Int.tmod_eq_emod_of_nonneg (by omega)]
  rfl
theorem quo_n {x m : Nat} (hx : x < 9223372036854775808) (hm : m ≠ 0) : abin .quo (.int .i64 (x : Int)) (.int .i64 (m : Int)) = some (.int .i64 ((x / m : Nat) : Int)) := by
  have hle : x / m ≤ x := Nat.div_le_self ..
  show (if (m : Int) = 0 then none else some (AV.int .i64 (IntKind.i64.wrap ((x : Int).tdiv (m : Int))))) = _
  rw [if_neg (by omega), Int.tdiv_eq_ediv_of_nonneg (by omega)]
  rw [show (x : Int) / (m : Int) = ((x / m : Nat) : Int) from rfl]
  generalize x / m = y at *
  rw [Go.IntWalk.i64_in _ (by omega)]
def dgP (m : Nat) : Nat → Nat → List Nat
  | 0, _ => []
  | k + 1, x => x / m ^ k :: dgP m k (x % m ^ k)
theorem dgP_len {m : Nat} : ∀ {k x : Nat}, (dgP m k x).length = k
  | 0, _ => rfl
  | k + 1, x => by simp only [dgP, List.length_cons, dgP_len]
theorem dgP_get {m : Nat} (hm : 1 ≤ m) : ∀ {k x j : Nat}, x < m ^ k → j < k → (dgP m k x)[j]? = some (x / m ^ (k - 1 - j) % m)
  | 0, _, _, _, h => by omega
  | k + 1, x, 0, hx, h => by
    simp only [dgP, List.getElem?_cons_zero, Nat.add_sub_cancel, Nat.sub_zero]
    rw [Nat.mod_eq_of_lt]
    rw [Nat.div_lt_iff_lt_mul (Nat.pow_pos hm)]
    rw [Nat.pow_succ, Nat.mul_comm] at hx
    exact hx
  | k + 1, x, j + 1, hx, h => by
    simp only [dgP, List.getElem?_cons_succ]
    rw [dgP_get hm (Nat.mod_lt _ (Nat.pow_pos hm)) (by omega)]
    have e1 : k + 1 - 1 - (j + 1) = k - 1 - j := by omega
    have e2 : m ^ k = m ^ (k - 1 - j) * m ^ (j + 1) := by rw [← Nat.pow_add]; congr 1; omega
    rw [e1, e2, Nat.mod_mul_right_div_self, Nat.mod_mod_of_dvd _ ⟨m ^ j, by rw [Nat.pow_succ, Nat.mul_comm]⟩]
theorem dgP_lt {m k x : Nat} (hm : 1 ≤ m) (hx : x < m ^ k) : ∀ y ∈ dgP m k x, y < m := fun y hy => by
  obtain ⟨j, hj⟩ := List.mem_iff_getElem?.1 hy
  have hlt := (List.getElem?_eq_some_iff.1 hj).1
  rw [dgP_len] at hlt
  rw [dgP_get hm hx hlt] at hj
  cases hj
  exact Nat.mod_lt _ (by omega)
theorem l13 {m : Nat} {H0 : Heap} {t4 : AV} (hm : m ≤ 9) (hb : bar ≤ H0.length) (hbase : base ≤ H0.length) {R : PQ} : ∀ (k x : Nat) (acc : List Nat) (v : AV) (H : Heap), (2 ≤ m ∨ k = 0) → k ≤ 7 → x < 9223372036854775808 → acc.length + k < 100 → Grow 1 (nats acc) H0 v H →
    (∀ x' v' H', Grow 1 (nats (acc ++ dgP m k x)) H0 v' H' → R (.exit 1) [(0, .int .i64 (m : Nat)), (1, .int .i64 (x' : Nat)), (4, t4), (6, .int .i64 1), (8, v'), (27, .bool false)] H') →
    Wp E base bar (.loop c13_l0) [(0, .int .i64 (m : Nat)), (1, .int .i64 (x : Nat)), (4, t4), (6, .int .i64 ((m ^ k : Nat) : Int)), (8, v)] H R := by
  intro k
  induction k with
  | zero =>
    intro x acc v H _ hk hx hl gr h
    simp only [dgP, List.append_nil] at h
    rw [wp_round c13_l0.eq_1]
    simp [go_sem]
    exact h x v H gr
  | succ k ih =>
    intro x acc v H h2 hk hx hl gr h
    have h2 : 2 ≤ m := by omega
    have hp1 : 1 < m ^ (k + 1) := Nat.one_lt_pow (by omega) (by omega)
    have hbd := pow_bd hm (show k + 1 ≤ 7 by omega)
    have hpk : 1 ≤ m ^ k := Nat.pow_pos (by omega)
    have hdiv : m ^ (k + 1) / m = m ^ k := by rw [Nat.pow_succ, Nat.mul_div_cancel _ (by omega)]
    have q1 := quo_n (x := m ^ (k + 1)) (m := m) (by omega) (by omega)
    rw [hdiv] at q1
    have q2 := quo_n (x := x) (m := m ^ k) hx (by omega)
    have q3 := rem_n (x := x) (m := m ^ k) (by omega)
    simp only [dgP] at h
    have hmod : x % m ^ k < 9223372036854775808 := Nat.lt_of_le_of_lt (Nat.mod_le ..) hx
    have hnext := ih (x % m ^ k) (acc ++ [x / m ^ k])
    generalize x / m ^ k = d at *
    generalize x % m ^ k = e at *
    generalize m ^ (k + 1) = P1 at *
    generalize m ^ k = P at *
    have hp1' : (1 : Int) < (P1 : Int) := by omega
    rw [wp_round c13_l0.eq_1]
    simp [go_sem, hp1, hp1', q1, q2, q3, aop, fillA, setCells, AV.cells, chunks]
    refine gr.nat hb hbase (by omega) fun v' H' tc gr' => ?_
    simp [go_sem, q3]
    refine hnext v' H' (.inl h2) (by omega) hmod (by simp; omega) gr' fun x' v'' H'' gr2 => h x' v'' H'' ?_
    simpa using gr2
theorem k48g {m : Nat} {v : AV} {L : List Nat} {H0 : Heap} (gr : Grow 1 (nats L) H0 v H) (h1 : 1 ≤ m) (hm : m ≤ 9) (hlen : L.length = m - 2) (hv : ∀ x ∈ L, x < m) (hb : bar ≤ H0.length)
    (h : ∀ w, Wd m (rdAll m L) w → ∀ H2, H2.length = H.length → H2.take H0.length = H0 → Q (.lst 1 false (wc m w)) H2) : WpCall E pure base bar 48 [.int .i64 (m : Nat), v] H Q := by
  obtain ⟨H2, f1, f2, f3, f4⟩ := gr.frz (d := 5) (bar := bar) (by decide) (Nat.one_dvd _) nats_plain hb
  have gl := gr.len
  have ho : isL (outL 1 (nats L)) L := isL.out
  have kk := k48 (pure := pure) (base := base) (bar := bar) (H := H2) (Q := Q) ho h1 hm hlen hv (by omega) fun w hw => h w hw H2 f3 f4
  have e1 : frzAll bar H [.int .i64 (m : Nat), v] = some ([.int .i64 (m : Nat), outL 1 (nats L)], H2) := by simp [frzAll, frz.frzs, frzsW, frz_int, f1]
  have e2 : frzAll bar H2 [.int .i64 (m : Nat), outL 1 (nats L)] = some ([.int .i64 (m : Nat), outL 1 (nats L)], H2) := by simp [frzAll, frz.frzs, frzsW, frz_int, ho.frz]
  rw [call48, e2] at kk
  rw [call48, e1]
  exact kk
def nthE (n x : Int) : Int := if cntE n ≠ 0 then 1 else if 0 ≤ x ∧ x ≤ (cntV n : Int) - 1 then 0 else 1
theorem k13 {n x : Int} (hbar : bar ≤ H.length)
    (h1 : nthE n x ≠ 0 → Q (.tup [.agg [.int .i64 0, .nils], .int .i64 (nthE n x)]) H)
    (h2 : ∀ (m y : Nat) u, n = m → x = y → nthE n x = 0 → isT u m (tidyF (tieB (rdAll m (dgP m (m - 2) y))) m) → Q (.tup [u, .int .i64 0]) H) : WpCall E pure base bar 13 [.int .i64 n, .int .i64 x] H Q := by
  rw [call13]
  have e0 : frzAll bar H [.int .i64 n, .int .i64 x] = some ([.int .i64 n, .int .i64 x], H) := by simp [frzAll, frz.frzs, frzsW, frz_int]
  rw [e0]
  have hb' : (if pure = true then H.length else bar) ≤ H.length := bar_if hbar
  by_cases hr : 1 ≤ n ∧ n ≤ 9
  · have hE : cntE n = 0 := by unfold cntE; rw [if_pos hr]
    obtain ⟨m, rfl⟩ := Int.eq_ofNat_of_zero_le (show 0 ≤ n by omega)
    have hm1 : 1 ≤ m := by omega
    have hm9 : m ≤ 9 := by omega
    have hV : cntV m = m ^ (m - 2) := by unfold cntV; rw [if_pos hr, Int.toNat_natCast]
    have hVb := pow_bd hm9 (show m - 2 ≤ 7 by omega)
    have hVp : 1 ≤ m ^ (m - 2) := Nat.pow_pos hm1
    have hw : IntKind.i64.wrap ((cntV m : Int) - 1) = (cntV m : Int) - 1 := Go.IntWalk.i64_in _ (by omega)
    by_cases hx : 0 ≤ x ∧ x ≤ (cntV m : Int) - 1
    · have hN : nthE m x = 0 := by unfold nthE; rw [hE]; simp only [ne_eq, not_true_eq_false, if_false]; rw [if_pos hx]
      obtain ⟨y, rfl⟩ := Int.eq_ofNat_of_zero_le hx.1
      have hyl : y < m ^ (m - 2) := by omega
      have hxb : (decide (0 ≤ (y : Int)) && decide ((y : Int) ≤ (cntV m : Int) - 1)) = true := by simp; omega
      simp [go_sem, WpFun, c13]
      refine k9 ?_
      have hx2 : ¬ (cntV m : Int) - 1 < (y : Int) := by omega
      simp [go_sem, hE, hw, k46, hxb, hx2]
      rw [hV]
      refine l13 (H0 := H ++ [.row 0 [.int .i64 0, .nils] 0 true]) hm9 (by rw [List.length_append]; omega) (by simp) (m - 2) y [] .nils _ (by omega) (by omega) (by omega) (by simp; omega) (by simpa [nats] using Grow.nil) fun x' v' H' gr => ?_
      rw [List.nil_append] at gr
      simp [go_sem]
      refine k48g gr hm1 hm9 dgP_len (dgP_lt hm1 hyl) (by rw [List.length_append]; omega) fun w hw H2 f2 f3 => ?_
      have ef : (fun a b => (w a).testBit b) = tieB (rdAll m (dgP m (m - 2) y)) := by funext a b; exact hw.bit a b
      simp [go_sem]
      have hl2 : H.length + 1 ≤ H2.length := by
        have := congrArg List.length f3
        rw [List.length_take, List.length_append, List.length_singleton] at this; omega
      refine k49l hm9 hw.lt (by omega) fun u hu => ?_
      rw [ef] at hu
      have hk := h2 m y u rfl rfl hN hu
      obtain ⟨q', hq', rfl⟩ := hu
      have hcell : H2[H.length]? = some (.row 0 [.int .i64 0, .nils] 0 true) := by
        have : (H2.take (H ++ [Blk.row 0 [.int .i64 0, .nils] 0 true]).length)[H.length]? = some (.row 0 [.int .i64 0, .nils] 0 true) := by rw [f3]; simp
        rw [List.getElem?_take_of_lt (by simp)] at this
        exact this
      have htake : (H2.set H.length (.row 0 [.int .i64 (m : Nat), q'] 0 true)).take H.length = H := take_same (by rw [List.length_set]; omega) fun j hj => by
        rw [List.getElem?_set_ne (by omega)]
        have : (H2.take (H ++ [Blk.row 0 [.int .i64 0, .nils] 0 true]).length)[j]? = H[j]? := by rw [f3, List.getElem?_append_left hj]
        rw [List.getElem?_take_of_lt (by simp; omega)] at this
        exact this
      have hself : (H2.set H.length (.row 0 [.int .i64 (m : Nat), q'] 0 true))[H.length]? = some (.row 0 [.int .i64 (m : Nat), q'] 0 true) := by
        rw [List.getElem?_set_self (by omega)]
      simp only [go_sem]
      simp [go_sem, storeWp, astore, AV.isTup, AV.cells, hcell, hb']
      generalize H2.set H.length (.row 0 [.int .i64 (m : Nat), q'] 0 true) = H7 at *
      simp [go_sem, aload, hself, frz_agg, hq'.frz, hq'.top, tops_cons, tops_nil, htake]
      exact hk
    · have hN : nthE m x = 1 := by unfold nthE; rw [hE]; simp only [ne_eq, not_true_eq_false, if_false]; rw [if_neg hx]
      have hxb : (decide (0 ≤ x) && decide (x ≤ (cntV m : Int) - 1)) = false := by simpa using hx
      have hh := h1 (by rw [hN]; decide)
      rw [hN] at hh
      simp [go_sem, WpFun, c13]
      refine k9 ?_
      simp [go_sem, hE, hw, k46, hxb, fillA, setCells, storeWp, astore, AV.isTup, AV.cells, hb', aload]
      exact hh
  · have hE : cntE n = 1 := by unfold cntE; rw [if_neg hr]
    have hN : nthE n x = 1 := by unfold nthE; rw [hE]; simp
    have hh := h1 (by rw [hN]; decide)
    rw [hN] at hh
    simp [go_sem, WpFun, c13]
    refine k9 ?_
    simp [go_sem, hE, fillA, setCells, storeWp, astore, AV.isTup, AV.cells, hb', aload]
    exact hh
end Go.Proofs.YtoipleipokpnaaaGreat.Code
end
section
namespace Go.Proofs.YtoipleipokpnaaaGreat.Code
open Go Go.Ab
variable {pure : Bool} {base bar : Nat} {H : Heap} {Q : AV → Heap → Prop} {K : AV → Heap → List Nat → Prop}
end Go.Proofs.YtoipleipokpnaaaGreat.Code
end
section
namespace Go.Proofs.YtoipleipokpnaaaGreat.Code
open Go Go.Ab
variable {pure : Bool} {base bar : Nat} {H : Heap} {Q : AV → Heap → Prop} {K : AV → Heap → List Nat → Prop}
end Go.Proofs.YtoipleipokpnaaaGreat.Code
end
section
namespace Go.Proofs.YtoipleipokpnaaaGreat.Code
open Go Go.Ab
variable {pure : Bool} {base bar : Nat} {H : Heap} {Q : AV → Heap → Prop} {K : AV → Heap → List Nat → Prop}
end Go.Proofs.YtoipleipokpnaaaGreat.Code
end
section
namespace Go.Proofs.YtoipleipokpnaaaGreat.Code
open Go Go.Ab
variable {pure : Bool} {base bar : Nat} {H : Heap} {Q : AV → Heap → Prop} {K : AV → Heap → List Nat → Prop}
end Go.Proofs.YtoipleipokpnaaaGreat.Code
end
section
namespace Go.Proofs.YtoipleipokpnaaaGreat.Code
open Go Go.Ab
variable {pure : Bool} {base bar : Nat} {H : Heap} {Q : AV → Heap → Prop} {K : AV → Heap → List Nat → Prop}
end Go.Proofs.YtoipleipokpnaaaGreat.Code
end
section
namespace Go.Proofs.YtoipleipokpnaaaGreat.Code
open Go Go.Ab
variable {pure : Bool} {base bar : Nat} {H : Heap} {Q : AV → Heap → Prop} {K : AV → Heap → List Nat → Prop}
end Go.Proofs.YtoipleipokpnaaaGreat.Code
end
section
namespace Go.Proofs.YtoipleipokpnaaaGreat.Code
open Go Go.Ab
variable {pure : Bool} {base bar : Nat} {H : Heap} {Q : AV → Heap → Prop} {K : AV → Heap → List Nat → Prop}
end Go.Proofs.YtoipleipokpnaaaGreat.Code
end
section
namespace Go.Proofs.YtoipleipokpnaaaGreat.Code
open Go Go.Ab
variable {pure : Bool} {base bar : Nat} {H : Heap} {Q : AV → Heap → Prop} {K : AV → Heap → List Nat → Prop}
/-! names: an order of the knots -/
def LO (k : Nat) (l : List Nat) (v : AV) (H : Heap) : Prop := (l = [] ∧ v = .lst 1 true []) ∨ Own k 1 (nats l) v H
theorem flat_nats : ∀ {b : List Nat}, (nats b).flatMap AV.cells = nats b
  | [] => rfl
  | x :: r => by
    have := flat_nats (b := r)
    simp only [nats, List.map_cons, List.flatMap_cons, AV.cells] at this ⊢; rw [this]; rfl
theorem noVecs_nats : ∀ {b : List Nat}, AV.noVec.noVecs (nats b) = true
  | [] => rfl
  | x :: r => by
    have := noVecs_nats (b := r)
    simp only [nats, List.map_cons] at this ⊢
    simp only [AV.noVec.noVecs, AV.noVec, this, Bool.and_self]
theorem nats_app {a b : List Nat} : nats (a ++ b) = nats a ++ nats b := by simp [nats]
theorem nats_len {a : List Nat} : (nats a).length = a.length := by simp [nats]
theorem LO.app {k : Nat} {l news : List Nat} {v y : AV} (g : LO k l v H) (hk : k ≤ H.length) (hs : asrc H 1 y = some (nats news)) (hb : bar ≤ k) (hbase : base ≤ k) (hlen : l.length + news.length < 1000)
    (h : ∀ v' H' tc, LO k (l ++ news) v' H' → Kept1 v v' H H' tc → K v' H' tc) : appWp base bar 1 8 (some v) (some y) H K := by
  have e : appWp base bar 1 8 (some v) (some y) H K = appWp base bar 1 8 (some v) (some (.lst 1 true (nats news))) H K := by
    simp only [appWp, hs, asrc_lst, flat_nats]
  rw [e]
  rcases g with ⟨rfl, rfl⟩ | g
  · have hz : frzAll bar H (nats news) = some (nats news, H) := by
      have := plains (d := 6) (bar := bar) (H := H) (nats_plain (l := news))
      simpa [frzAll, frz.frzs] using this
    have hdv : ¬ ((1 : Nat) = 0 ∨ ¬ 1 ∣ (nats news).length) := by simp
    by_cases he : news = []
    · subst he
      refine cast ?_ (h (.lst 1 true []) H [] (.inl ⟨rfl, rfl⟩) ⟨Nat.le_refl _, fun _ _ _ => rfl, fun i hi => (by cases hi), fun j hj => (by cases hj)⟩)
      simp [appWp, asrc, hz, aappend, nats, frzAll, frz.frzs, frzsW, AV.noVec.noVecs]
    · have hne : (nats news).isEmpty = false := by cases news with
        | nil => exact absurd rfl he
        | cons a r => rfl
      refine cast ?_ (h (.vec H.length 0 0 news.length 1) (H ++ [.row 0 (nats news) 0 false]) [] (.inr (.inr ⟨H.length, 0, 0, (fun e => by rw [List.nil_append] at e; rw [e] at hne; cases hne), hk, Nat.zero_le _, (by rw [List.nil_append, nats_len, Nat.div_one]), (by simp)⟩)) ⟨(by simp), (fun j hj _ => List.getElem?_append_left hj), (fun i hi => by cases hi), (fun j hj => by cases hj; exact .inr rfl)⟩)
      simp [appWp, asrc_lst, flat_nats, hz, aappend, hne, nats_len, noVecs_nats, show news.length * 8 ≤ 140737488355328 by simp at hlen; omega]
  · refine g.app hk (by decide) (Nat.one_dvd _) (by rw [flat_nats]; exact nats_plain) (by rw [flat_nats]; exact noVecs_nats) (Nat.one_dvd _) hb hbase (by rw [flat_nats, List.length_append, nats_len, nats_len, Nat.div_one]; omega) fun v' H' tc g' kp => h v' H' tc (.inr ?_) kp
    rw [flat_nats, ← nats_app] at g'
    exact g'
end Go.Proofs.YtoipleipokpnaaaGreat.Code
end
section
namespace Go.Proofs.YtoipleipokpnaaaGreat.Code
open Go Go.Ab
variable {pure : Bool} {base bar : Nat} {H : Heap} {Q : AV → Heap → Prop} {K : AV → Heap → List Nat → Prop}
/-- the cells of a twig -/
def tw (f : Nat → Nat) : List AV := (List.range 18).map fun i => .int .u8 ((f i : Nat) : Int)
theorem tw_len {f : Nat → Nat} : (tw f).length = 18 := by simp [tw]
theorem tw_get {f : Nat → Nat} {i : Nat} (hi : i < 18) : (tw f)[i]? = some (.int .u8 ((f i : Nat) : Int)) := by simp [tw, hi]
def nmF (f : Nat → Nat) : Nat → Nat → List Nat → List Nat
  | 0, _, _ => []
  | k + 1, i, left => left.getD (f (9 + i) % left.length) 0 :: nmF f k (i + 1) (left.eraseIdx (f (9 + i) % left.length))
def namesF (f : Nat → Nat) (n : Nat) : List Nat := nmF f n 0 (List.range n)
theorem l63a {n : Nat} {t2 : AV} {H0 : Heap} (hn : n ≤ 9) (hb : bar ≤ H0.length) (hbase : base ≤ H0.length) {R : PQ} : ∀ (k i : Nat), i + k = n → ∀ (v : AV) (H : Heap), Grow 1 (nats (List.range i)) H0 v H →
    (∀ v' H', Grow 1 (nats (List.range n)) H0 v' H' → R (.exit 0) [(1, .int .i64 (n : Nat)), (2, t2), (5, v'), (6, .nils), (10, .int .i64 (n : Nat)), (11, .int .i64 (n : Nat)), (12, .bool false)] H') →
    Wp E base bar (.loop c63_l0) [(1, .int .i64 (n : Nat)), (2, t2), (5, v), (6, .nils), (10, .int .i64 (n : Nat)), (11, .int .i64 (i : Nat))] H R := by
  intro k
  induction k with
  | zero =>
    intro i hi v H gr h
    obtain rfl : i = n := by omega
    rw [wp_round c63_l0.eq_1]
    simp [go_sem]
    exact h v H gr
  | succ k ih =>
    intro i hi v H gr h
    have hlt : i < n := by omega
    have hnext := fun v H gr => ih (i + 1) (by omega) v H gr h
    rw [List.range_succ] at hnext
    rw [wp_round c63_l0.eq_1]
    simp [go_sem, hlt, aop, fillA, setCells, AV.cells, chunks]
    refine gr.nat hb hbase (by simp; omega) fun v' H' tc gr' => ?_
    simp [go_sem, i64_suc (show i < 1000000 by omega)]
    exact hnext v' H' gr'
/-- two lists under construction beside a block -/
structure Two (H0 : Heap) (left out : List Nat) (lv ov : AV) (H : Heap) : Prop where
  l : LO H0.length left lv H
  o : LO H0.length out ov H
  ne : ∀ j, idOf lv = some j → idOf ov ≠ some j
  len : H0.length ≤ H.length
  low : ∀ j, j < H0.length → H[j]? = H0[j]?
theorem LO.lt {k j : Nat} {l : List Nat} {v : AV} (g : LO k l v H) (h : idOf v = some j) : k ≤ j ∧ j < H.length := by
  rcases g with ⟨rfl, rfl⟩ | g
  · cases h
  · exact g.lt h
theorem LO.mono {k : Nat} {l : List Nat} {v : AV} {H' : Heap} (g : LO k l v H) (h : ∀ j, idOf v = some j → H'[j]? = H[j]?) : LO k l v H' := by
  rcases g with g | g
  · exact .inl g
  · exact .inr (g.mono h)
theorem l63b {n p : Nat} {f : Nat → Nat} {H0 : Heap} (hf : ∀ i, f i < 256) (hn : n ≤ 9) (hp : H0[p]? = some (.row 0 (tw f) 0 true)) (hb : bar ≤ H0.length) (hbase : base ≤ H0.length) {R : PQ} : ∀ (k i : Nat), i + k = n → ∀ (left out : List Nat) (lv ov : AV) (H : Heap), left.length = k → out.length = i → Two H0 left out lv ov H →
    (∀ left' lv' ov' H', Two H0 left' (out ++ nmF f k i left) lv' ov' H' → R (.exit 2) [(2, .ptr p 0 0), (5, lv'), (6, ov'), (19, .int .i64 (n : Nat)), (20, .int .i64 (n : Nat)), (21, .bool false)] H') →
    Wp E base bar (.loop c63_l1) [(2, .ptr p 0 0), (5, lv), (6, ov), (19, .int .i64 (n : Nat)), (20, .int .i64 (i : Nat))] H R := by
  have hpl := (List.getElem?_eq_some_iff.1 hp).1
  intro k
  induction k with
  | zero =>
    intro i hi left out lv ov H hl ho hT h
    obtain rfl : i = n := by omega
    simp only [nmF, List.append_nil] at h
    rw [wp_round c63_l1.eq_1]
    simp [go_sem]
    exact h left lv ov H hT
  | succ k ih =>
    intro i hi left out lv ov H hl ho hT h
    have hlt : i < n := by omega
    have hbox : H[p]? = some (.row 0 (tw f) 0 true) := by rw [hT.low p hpl]; exact hp
    have hfi := hf (9 + i)
    have hk0 : f (9 + i) % left.length < left.length := Nat.mod_lt _ (by omega)
    have hrem := rem_n (x := f (9 + i)) (m := left.length) (by omega)
    simp only [nmF] at h
    have hget := tw_get (f := f) (i := 9 + i) (by omega)
    have hwr : IntKind.i64.wrap ((f (9 + i) : Nat) : Int) = ((f (9 + i) : Nat) : Int) := by rw [Go.IntWalk.i64_in _ (by omega)]
    generalize hk : f (9 + i) % left.length = k0 at *
    obtain ⟨id, ver, fz, n1, n2, n3, rfl, n5⟩ : ∃ id ver fz, nats left ≠ [] ∧ H0.length ≤ id ∧ fz ≤ (nats left).length ∧ lv = .vec id ver 0 ((nats left).length / 1) 1 ∧ H[id]? = some (.row ver (nats left) fz false) := by
      rcases hT.l with ⟨e, _⟩ | ⟨e, _⟩ | hh
      · rw [e] at hl; cases hl
      · have := congrArg List.length e; rw [nats_len, List.length_nil] at this; omega
      · exact hh
    have hxg : (nats left)[k0]? = some (.int .i64 ((left.getD k0 0 : Nat) : Int)) := by
      simp [nats, List.getElem?_eq_getElem hk0, List.getD_eq_getElem?_getD]
    rw [nats_len, Nat.div_one] at hT
    rw [nats_len, Nat.div_one]
    generalize left.getD k0 0 = x at *
    rw [wp_round c63_l1.eq_1]
    simp [go_sem, hlt, aload, hbox, Ab.part, hget, hwr, hrem, n5, hxg, hk0, tw_len, show i < 9 by omega, aop, Opd.evo, fillA, setCells, AV.cells, chunks]
    have hxs : asrc H 1 (.lst 1 true [.int .i64 (x : Int)]) = some (nats [x]) := by rw [asrc_lst]; rfl
    have hkl := hT.len
    refine hT.o.app hkl hxs hb hbase (by simp; omega) fun ov' H1 tc ho1 kp => ?_
    have hidov : ∀ j, idOf ov = some j → j ≠ id := fun j hj e => by subst e; exact hT.ne j rfl hj
    have hidlt := (List.getElem?_eq_some_iff.1 n5).1
    have h5 : H1[id]? = some (.row ver (nats left) fz false) := by
      rw [kp.same id hidlt (fun e => hidov id e rfl)]; exact n5
    have hl1 := kp.len
    have sl1 : aslice H1 (.slc 1) (.vec id ver 0 left.length 1) none (some (.int .i64 (k0 : Int))) none = some (.vec id ver 0 k0 1) := by
      simp [aslice, optBound, bound1, AV.asNat, h5, nats_len, Nat.le_of_lt hk0]
    have as1 : asrc H1 1 (.vec id ver 0 k0 1) = some (nats (left.take k0)) := by
      simp [asrc, h5, nats_len, Nat.le_of_lt hk0]
      simp [nats, List.map_take]
    simp [go_sem, aop, Opd.evo, fillA, chunks, sl1]
    refine LO.app (k := H0.length) (.inl ⟨rfl, rfl⟩) (by omega) as1 hb hbase (by simp; omega) fun v1 H2 tc1 g1 kp1 => ?_
    rw [List.nil_append] at g1
    have h6 : H2[id]? = some (.row ver (nats left) fz false) := by
      rw [kp1.same id (by omega) (fun e => by cases e)]; exact h5
    have hl2 := kp1.len
    have ht : ((k0 : Int) + 1).toNat = k0 + 1 := by omega
    have hnn : ¬ (k0 : Int) + 1 < 0 := by omega
    obtain ⟨y, sl2, as2⟩ : ∃ y, (∀ X : Heap, X[id]? = some (.row ver (nats left) fz false) → aslice X (.slc 1) (.vec id ver 0 left.length 1) (some (.int .i64 ((k0 : Int) + 1))) none none = some y) ∧ asrc H2 1 y = some (nats (left.drop (k0 + 1))) := by
      by_cases hkl : k0 + 1 < left.length
      · refine ⟨.vec id ver (k0 + 1) (left.length - (k0 + 1)) 1, fun X hX => ?_, ?_⟩
        · simp [aslice, optBound, bound1, AV.asNat, hX, nats_len, ht, hnn, show 0 ≤ (k0 : Int) + 1 by omega, hkl, Nat.le_of_lt hkl]
          try omega
        · simp [asrc, h6, nats_len, show k0 + 1 + (left.length - (k0 + 1)) ≤ left.length by omega]
          simp [nats, List.map_drop]
          rw [List.take_of_length_le (by simp)]
      · refine ⟨.lst 1 false [], fun X hX => ?_, ?_⟩
        · have : k0 + 1 = left.length := by omega
          simp [aslice, optBound, bound1, AV.asNat, hX, nats_len, ht, hnn, show 0 ≤ (k0 : Int) + 1 by omega, this]
          intro e; subst e; simp at hl
        · rw [asrc_lst, List.drop_eq_nil_of_le (by omega)]; rfl
    have sl2a := sl2 H1 h5
    have sl2b := sl2 H2 h6
    have hk1 : IntKind.i64.wrap ((k0 : Int) + 1) = ((k0 + 1 : Nat) : Int) := i64_suc (by omega)
    obtain rfl : tc1 = [] := by
      cases tc1 with
      | nil => rfl
      | cons a r => have := kp1.tc a (List.mem_cons_self ..); cases this
    have hv1 : ∀ j, idOf v1 = some j → H1.length ≤ j := fun j hj => by
      rcases kp1.id j hj with e | e
      · cases e
      · omega
    simp [go_sem, hk1, sl2a, sl2b, aop, Opd.evo]
    refine LO.app g1 (by omega) as2 hb hbase (by simp; omega) fun v2 H3 tc2 g2 kp2 => ?_
    have hl3 := kp2.len
    have hlen1 : left.length = k + 1 := hl
    have her : left.take k0 ++ left.drop (k0 + 1) = left.eraseIdx k0 := (List.eraseIdx_eq_take_drop_succ ..).symm
    rw [her] at g2
    have hsame : ∀ j, j < H1.length → H3[j]? = H1[j]? := fun j hj => by
      rw [kp2.same j (by omega) (fun e => by have := hv1 j e; omega), kp1.same j hj (fun e => by cases e)]
    have hT2 : Two H0 (left.eraseIdx k0) (out ++ [x]) v2 ov' H3 := by
      refine ⟨g2, ho1.mono fun j hj => hsame j (ho1.lt hj).2, fun j hj e => ?_, by omega, fun j hj => ?_⟩
      · have h1 := (ho1.lt e).2
        rcases kp2.id j hj with e2 | e2
        · have := hv1 j e2; omega
        · omega
      · rw [hsame j (by omega), kp.same j (by omega) (fun e => by have := (hT.o.lt e).1; omega), hT.low j hj]
    simp [go_sem, i64_suc (show i < 1000000 by omega)]
    refine ih (i + 1) (by omega) _ _ v2 ov' H3 (by rw [List.length_eraseIdx_of_lt hk0]; omega) (by simp; omega) hT2 fun left' lv' ov'' H' hT3 => h left' lv' ov'' H' ?_
    simpa using hT3
end Go.Proofs.YtoipleipokpnaaaGreat.Code
end
section
namespace Go.Proofs.YtoipleipokpnaaaGreat.Code
open Go Go.Ab
variable {pure : Bool} {base bar : Nat} {H : Heap} {Q : AV → Heap → Prop} {K : AV → Heap → List Nat → Prop}
theorem LO.frz {k d : Nat} {l : List Nat} {v : AV} (g : LO k l v H) (hb : bar ≤ k) : ∃ u H', frz (d + 3) bar H v = some (u, H') ∧ isL u l ∧ H'.length = H.length ∧ ∀ j, j < k → H'[j]? = H[j]? := by
  rcases g with ⟨rfl, rfl⟩ | g
  · exact ⟨_, _, rfl, .inr ⟨true, rfl⟩, rfl, fun _ _ => rfl⟩
  · obtain ⟨H', f1, f2, f3, f4⟩ := g.frz (d := d) (bar := bar) (by decide) (Nat.one_dvd _) nats_plain hb
    exact ⟨_, H', f1, isL.out, f3, fun j hj => f4 j fun e => by have := (g.lt e).1; omega⟩
theorem tw_plain {f : Nat → Nat} : ∀ c ∈ tw f, Plain c := fun c hc => by
  simp only [tw, List.mem_map] at hc
  obtain ⟨a, _, rfl⟩ := hc; exact Plain.int
theorem nmF_len {f : Nat → Nat} : ∀ {k i : Nat} {left : List Nat}, (nmF f k i left).length = k
  | 0, _, _ => rfl
  | k + 1, i, left => by simp only [nmF, List.length_cons, nmF_len]
/-- names are an order of what is left -/
theorem nmF_perm {f : Nat → Nat} : ∀ {k i : Nat} {left : List Nat}, left.length = k → (nmF f k i left).Perm left
  | 0, _, left, h => by rw [List.length_eq_zero_iff.1 h]; exact List.Perm.refl _
  | k + 1, i, left, h => by
    have hk0 : f (9 + i) % left.length < left.length := Nat.mod_lt _ (by omega)
    simp only [nmF]
    generalize f (9 + i) % left.length = j at *
    have ih := nmF_perm (f := f) (k := k) (i := i + 1) (left := left.eraseIdx j) (by rw [List.length_eraseIdx_of_lt hk0]; omega)
    refine (List.Perm.cons _ ih).trans ?_
    have e1 : left.getD j 0 = left[j] := by simp [List.getD_eq_getElem?_getD, List.getElem?_eq_getElem hk0]
    rw [e1]
    rw [List.eraseIdx_eq_take_drop_succ]
    have e2 : left = left.take j ++ left[j] :: left.drop (j + 1) := by rw [← List.drop_eq_getElem_cons hk0, List.take_append_drop]
    have e3 := (List.perm_middle (a := left[j]) (l₁ := left.take j) (l₂ := left.drop (j + 1))).symm
    rw [← e2] at e3
    exact e3
theorem namesF_perm {f : Nat → Nat} {n : Nat} : (namesF f n).Perm (List.range n) := nmF_perm List.length_range
theorem k63 {n : Nat} {f : Nat → Nat} (hf : ∀ i, f i < 256) (hn : n ≤ 9) (hbar : bar ≤ H.length) (h : ∀ u, isL u (namesF f n) → Q u H) : WpCall E pure base bar 63 [.agg (tw f), .int .i64 (n : Nat)] H Q := by
  rw [call63]
  have e0 : frzAll bar H [.agg (tw f), .int .i64 (n : Nat)] = some ([.agg (tw f), .int .i64 (n : Nat)], H) := by
    simp [frzAll, frz.frzs, frzsW, frz_agg, frz_int, plains (d := 5) tw_plain]
  rw [e0]
  have hb' : (if pure = true then H.length else bar) ≤ H.length := bar_if hbar
  have h0l : (H ++ [Blk.row 0 (tw f) 0 true]).length = H.length + 1 := by simp
  simp [go_sem, WpFun, c63, AV.isTup, AV.cells]
  refine l63a (H0 := H ++ [.row 0 (tw f) 0 true]) hn (by rw [h0l]; omega) (by rw [h0l]; omega) n 0 (by omega) .nils _ (by simpa [nats] using Grow.nil) fun v1 H1 gr => ?_
  have hlow : ∀ j, j < (H ++ [Blk.row 0 (tw f) 0 true]).length → H1[j]? = (H ++ [Blk.row 0 (tw f) 0 true])[j]? := fun j hj => by
    obtain ⟨b, hb⟩ : ∃ b, (H ++ [Blk.row 0 (tw f) 0 true])[j]? = some b := ⟨_, List.getElem?_eq_getElem hj⟩
    rw [hb]; exact gr.get hb
  have hT : Two (H ++ [.row 0 (tw f) 0 true]) (List.range n) [] v1 .nils H1 := ⟨.inr (Grow.own gr), .inr .nil, (fun j _ e => by cases e), gr.len, hlow⟩
  simp [go_sem]
  refine l63b (H0 := H ++ [.row 0 (tw f) 0 true]) (p := H.length) hf hn (by simp) (by rw [h0l]; omega) (by rw [h0l]; omega) n 0 (by omega) _ [] v1 .nils H1 List.length_range rfl hT fun left' lv' ov' H2 hT2 => ?_
  rw [List.nil_append] at hT2
  obtain ⟨u, H3, f1, f2, f3, f4⟩ := hT2.o.frz (d := 5) (bar := if pure = true then H.length else bar) (by rw [h0l]; omega)
  have hk := h u f2
  have hl2 := hT2.len
  rw [h0l] at hl2 f4
  have htake : H3.take H.length = H := take_same (by omega) fun j hj => by
    rw [f4 j (by omega), hT2.low j (by rw [h0l]; omega), List.getElem?_append_left hj]
  simp [go_sem, f1, f2.top, htake]
  exact hk
end Go.Proofs.YtoipleipokpnaaaGreat.Code
end
section
namespace Go.Proofs.YtoipleipokpnaaaGreat.Code
open Go Go.Ab
variable {pure : Bool} {base bar : Nat} {H : Heap} {Q : AV → Heap → Prop} {K : AV → Heap → List Nat → Prop}
theorem tw_getE {f : Nat → Nat} {i : Nat} (h : i < (tw f).length) : (tw f)[i]'h = .int .u8 ((f i : Nat) : Int) := by simp [tw]
/-! the tree of a twig -/
def twTie (f : Nat → Nat) (N : List Nat) (k : Nat) : ZZ := (((N.getD k 0 : Nat) : Int), ((N.getD (f k % k) 0 : Nat) : Int))
def twT (f : Nat → Nat) (n : Nat) : List ZZ := (List.range' 1 (n - 1)).map (twTie f (namesF f n))
theorem l29 {n p : Nat} {f : Nat → Nat} {N : List Nat} {G : Heap} {nv t4 : AV} (hf : ∀ i, f i < 256) (hn : n ≤ 9) (hN : isL nv N) (hNl : N.length = n) (hG : G[p]? = some (.row 0 (tw f) 0 true)) (hbar : bar ≤ G.length) (hbase : base ≤ G.length) {R : PQ} :
    ∀ (k i : Nat), i + k = n → 1 ≤ i → ∀ (acc : List ZZ) (v : AV) (H : Heap), TrG G n acc v H → acc.length + k < 1000 →
    (∀ v' H', TrG G n (acc ++ (List.range' i k).map (twTie f N)) v' H' → R (.exit 0) [(2, .ptr p 0 0), (4, t4), (5, .ptr G.length 0 0), (6, nv), (7, .int .i64 (n : Nat)), (22, .bool false)] H') →
    Wp E base bar (.loop c29_l0) [(2, .ptr p 0 0), (4, t4), (5, .ptr G.length 0 0), (6, nv), (7, .int .i64 (i : Nat))] H R := by
  intro k
  induction k with
  | zero =>
    intro i hi h1 acc v H g hlen h
    obtain rfl : i = n := by omega
    simp only [List.range'_zero, List.map_nil, List.append_nil] at h
    have hget := g.get
    rw [wp_round c29_l0.eq_1]
    simp [go_sem, aload, hget]
    exact h v H g
  | succ k ih =>
    intro i hi h1 acc v H g hlen h
    have hlt : i < n := by omega
    have hget := g.get
    have hbox := g.old hG
    rw [List.range'_succ, List.map_cons] at h
    have hiN : i < N.length := by omega
    have hm : f i % i < i := Nat.mod_lt _ (by omega)
    have hmN : f i % i < N.length := by omega
    have ix1 := fun (H : Heap) (K : AV → Heap → List Nat → Prop) (k : IntKind) => hN.ix (H := H) (K := K) (k := k) hiN
    have ix2 := fun (H : Heap) (K : AV → Heap → List Nat → Prop) (k : IntKind) => hN.ix (H := H) (K := K) (k := k) hmN
    have et : twTie f N i = (((N[i] : Nat) : Int), ((N[f i % i] : Nat) : Int)) := by
      unfold twTie
      simp [List.getD_eq_getElem?_getD, List.getElem?_eq_getElem hiN, List.getElem?_eq_getElem hmN]
    rw [et] at h
    have hfi := hf i
    have hw1 : IntKind.i64.wrap ((i : Int) - 1) = ((i - 1 : Nat) : Int) := by
      rw [Go.IntWalk.i64_in _ (by omega)]; omega
    have hw2 : IntKind.i64.wrap ((f i : Nat) : Int) = ((f i : Nat) : Int) := by rw [Go.IntWalk.i64_in _ (by omega)]
    have hrem := rem_n (x := f i) (m := i) (by omega)
    have htg := tw_get (f := f) (i := i) (by omega)
    have htg' : (tw f)[1 + (i - 1)]? = some (.int .u8 ((f i : Nat) : Int)) := by rw [show 1 + (i - 1) = i by omega]; exact htg
    generalize N[i] = x at *
    generalize N[f i % i] = y at *
    generalize f i % i = j at *
    have hi8 : i - 1 < 8 := by omega
    rw [wp_round c29_l0.eq_1]
    simp [go_sem, aload, hget, hlt, ix1, ix2, hw1, hbox, Ab.part, htg', hw2, hrem, hi8, tw_len, aop, Opd.evo, fillA, setCells, AV.cells, chunks]
    refine g.add (p := ((x : Int), (y : Int))) hbar hbase (by omega) fun v' H' tc hg hv1 hv2 g' => ?_
    simp [go_sem, storeWp, astore, hv1, hv2, setCells, hg, hbar, hbase, i64_suc (show i < 1000000 by omega)]
    refine ih (i + 1) (by omega) (by omega) _ v' _ g' (by simp; omega) fun v'' H'' g'' => h v'' H'' ?_
    simpa using g''
theorem k29 {m n : Nat} {f : Nat → Nat} (hf : ∀ i, f i < 256) (h1 : 1 ≤ m) (h9 : m ≤ 9) (hn : n = f 0 % m + 1) (hbar : bar ≤ H.length) (h : ∀ u, isT u n (twT f n) → Q u H) : WpCall E pure base bar 29 [.agg (tw f), .int .i64 (m : Nat)] H Q := by
  rw [call29]
  have e0 : frzAll bar H [.agg (tw f), .int .i64 (m : Nat)] = some ([.agg (tw f), .int .i64 (m : Nat)], H) := by
    simp [frzAll, frz.frzs, frzsW, frz_agg, frz_int, plains (d := 5) tw_plain]
  rw [e0]
  have hb' : (if pure = true then H.length else bar) ≤ H.length := bar_if hbar
  have hb2 : (if pure = true then H.length else bar) ≤ H.length + 1 := by omega
  have hb3 : (if pure = true then H.length else bar) ≤ H.length + 2 := by omega
  have hm := Nat.mod_lt (f 0) (show 0 < m by omega)
  have hf0 := hf 0
  have hw2 : IntKind.i64.wrap ((f 0 : Nat) : Int) = ((f 0 : Nat) : Int) := by rw [Go.IntWalk.i64_in _ (by omega)]
  have hrem := rem_n (x := f 0) (m := m) (by omega)
  have hw3 : IntKind.i64.wrap (1 + ((f 0 % m : Nat) : Int)) = ((n : Nat) : Int) := by
    rw [Go.IntWalk.i64_in _ (by omega)]; omega
  have htg : (tw f)[0]? = some (.int .u8 ((f 0 : Nat) : Int)) := tw_get (by omega)
  have hn9 : n ≤ 9 := by omega
  generalize f 0 % m = j at *
  simp [go_sem, WpFun, c29, aload, Ab.part, tw_getE, tw_len, hw2, hrem, hw3, fillA, setCells, storeWp, astore, AV.isTup, AV.cells, hb2, hb3, List.take_of_length_le]
  refine k63 hf hn9 (by simp; omega) fun nv hN => ?_
  have hNl : (namesF f n).length = n := nmF_len
  have h2l : (H ++ [Blk.row 0 (tw f) 0 true, .row 0 [.int .i64 0, .nils] 0 true]).length = H.length + 2 := by simp
  have tn : TrG (H ++ [.row 0 (tw f) 0 true, .row 0 [.int .i64 0, .nils] 0 true]) n [] .nils (H ++ [.row 0 (tw f) 0 true, .row 0 [.int .i64 0, .nils] 0 true, .row 0 [.int .i64 (n : Nat), .nils] 0 true]) := by
    have := TrG.nil (G := H ++ [.row 0 (tw f) 0 true, .row 0 [.int .i64 0, .nils] 0 true]) (n := n)
    rw [List.append_assoc] at this
    exact this
  have l' := fun {R : PQ} hr => l29 (base := H.length) (bar := if pure = true then H.length else bar) (G := H ++ [.row 0 (tw f) 0 true, .row 0 [.int .i64 0, .nils] 0 true]) (p := H.length) (t4 := .ptr (H.length + 1) 0 0) hf hn9 hN hNl (by simp) (by rw [h2l]; omega) (by rw [h2l]; omega) (n - 1) 1 (by omega) (Nat.le_refl 1) [] .nils _ tn (by simp; omega) (R := R) hr
  rw [h2l] at l'
  simp [go_sem]
  refine l' fun v' H' g => ?_
  rw [List.nil_append] at g
  have hg := g.get
  rw [h2l] at hg
  simp [go_sem, aload, hg]
  obtain ⟨s1, s2⟩ := Grow.one g
  have hc : H'[H.length + 1]? = some (.row 0 [.int .i64 0, .nils] 0 true) := g.old (by simp)
  rw [storeWp_ptr (size := 2) hc rfl rfl (by omega) (by simp) hb2 (.inl (by omega))]
  have g2 := Grow.set g (i := H.length + 1) (b := .row 0 [.int .i64 (n : Nat), v'] 0 true) (by simp)
  have e2 : (H'.set (H.length + 1) (.row 0 [.int .i64 (n : Nat), v'] 0 true))[H.length + 1]? = some (.row 0 [.int .i64 (n : Nat), v'] 0 true) := Grow.get g2 (by simp [own_set])
  simp [go_sem, aload_ptr e2]
  obtain ⟨H2, f1, f2, f3, f4⟩ := Grow.frz g2 (d := 4) (bar := if pure = true then H.length else bar) (by decide) ⟨_, prs_length⟩ prs_plain (by simp; omega)
  have e3 : H2.take H.length = H := by
    have := congrArg (List.take H.length) f4
    rw [List.take_take] at this
    simp [own_set] at this
    exact this
  rw [show 4 + 3 = 7 from rfl] at f1
  simp only [f1]
  have hk := h _ ⟨_, isP.out, rfl⟩
  simp [go_sem, isP.out.top, e3]
  exact hk
end Go.Proofs.YtoipleipokpnaaaGreat.Code
end
section
namespace Go.Proofs.YtoipleipokpnaaaGreat.Code
open Go Go.Ab
/-! a made tree is a tree -/
def tieG (g h : Nat → Nat) (k : Nat) : ZZ := (((g k : Nat) : Int), ((g (h k) : Nat) : Int))
theorem errL_made {n : Nat} {g h : Nat → Nat} (hg : ∀ k, k < n → g k < n) (inj : ∀ i j, i < n → j < n → g i = g j → i = j) (hh : ∀ k, 1 ≤ k → k < n → h k < k) :
    ∀ (m i : Nat), i + m = n → 1 ≤ i → errL n ((List.range' 1 (i - 1)).map (tieG g h)) ((List.range' i m).map (tieG g h)) = 0
  | 0, i, _, _ => rfl
  | m + 1, i, hi, h1 => by
    have hk := hh i h1 (by omega)
    have g1 := hg i (by omega)
    have g2 := hg (h i) (by omega)
    have hne : g i ≠ g (h i) := fun e => by have := inj _ _ (by omega) (by omega) e; omega
    rw [List.range'_succ, List.map_cons]
    unfold errL
    have hm : mayS n (tieG g h i) = 0 := mayS_ok.2 ⟨by simp [tieG], by simp [tieG], by simp only [tieG]; omega, by simp only [tieG]; omega, by simp only [tieG]; omega⟩
    rw [if_neg (by simp [hm])]
    have ht : tieB ((List.range' 1 (i - 1)).map (tieG g h)) (tieG g h i).1.toNat (tieG g h i).2.toNat = false := by
      cases e : tieB ((List.range' 1 (i - 1)).map (tieG g h)) (tieG g h i).1.toNat (tieG g h i).2.toNat with
      | false => rfl
      | true =>
        rw [tieB_iff] at e
        have key : ∀ p ∈ (List.range' 1 (i - 1)).map (tieG g h), p.1 ≠ ((g i : Nat) : Int) ∧ p.2 ≠ ((g i : Nat) : Int) := fun p hp => by
          obtain ⟨j, hj, rfl⟩ := List.mem_map.1 hp
          obtain ⟨j1, j2⟩ := List.mem_range'_1.1 hj
          have hj' := hh j (by omega) (by omega)
          constructor
          · intro e
            have : g j = g i := by simp only [tieG] at e; omega
            have := inj _ _ (by omega) (by omega) this; omega
          · intro e
            have : g (h j) = g i := by simp only [tieG] at e; omega
            have := inj _ _ (by omega) (by omega) this; omega
        rcases e with e | e
        · exact absurd (by simp [tieG]) (key _ e).1
        · exact absurd (by simp [tieG]) (key _ e).2
    rw [ht, if_neg (by simp)]
    have ih := errL_made hg inj hh m (i + 1) (by omega) (by omega)
    have e2 : (List.range' 1 (i + 1 - 1)).map (tieG g h) = (List.range' 1 (i - 1)).map (tieG g h) ++ [tieG g h i] := by
      have : List.range' 1 (i + 1 - 1) = List.range' 1 (i - 1) ++ [i] := by
        rw [show i + 1 - 1 = (i - 1) + 1 by omega, List.range'_concat]
        congr 2; omega
      rw [this, List.map_append]; rfl
    rw [e2] at ih
    exact ih
theorem errT_made {n : Nat} {g h : Nat → Nat} (h1 : 1 ≤ n) (h9 : n ≤ 9) (hg : ∀ k, k < n → g k < n) (inj : ∀ i j, i < n → j < n → g i = g j → i = j) (sur : ∀ x, x < n → ∃ k, k < n ∧ g k = x) (hh : ∀ k, 1 ≤ k → k < n → h k < k) :
    errT n ((List.range' 1 (n - 1)).map (tieG g h)) = 0 := by
  have hE := errL_made hg inj hh (n - 1) 1 (by omega) (Nat.le_refl 1)
  rw [show (1 : Nat) - 1 = 0 from rfl, List.range'_zero, List.map_nil] at hE
  have hc : Conn n ((List.range' 1 (n - 1)).map (tieG g h)) := by
    have hst : ∀ k, k < n → Rch (tieB ((List.range' 1 (n - 1)).map (tieG g h))) (g 0) (g k) := by
      intro k
      induction k using Nat.strongRecOn with
      | ind k ih =>
        intro hk
        rcases Nat.eq_zero_or_pos k with e | e
        · subst e; exact .refl _
        · have hj := hh k e hk
          refine .step (ih (h k) hj (by omega)) ?_
          rw [tieB_iff]
          right
          exact List.mem_map.2 ⟨k, List.mem_range'_1.2 (by omega), rfl⟩
    intro x hx
    obtain ⟨k, hk, rfl⟩ := sur x hx
    obtain ⟨k0, hk0, e0⟩ := sur 0 (by omega)
    have a := hst k0 hk0
    rw [e0] at a
    exact Rch.trans (Rch.symm (fun a b => tieB_symm) a) (hst k hk)
  unfold errT
  rw [if_neg (by simp; omega), if_neg (by simp [hE]), if_neg (by simp; omega), if_pos (by simpa using hc)]
theorem errT_tw {f : Nat → Nat} {n : Nat} (h1 : 1 ≤ n) (h9 : n ≤ 9) : errT n (twT f n) = 0 := by
  have hp := namesF_perm (f := f) (n := n)
  have hl : (namesF f n).length = n := nmF_len
  have hnd : (namesF f n).Nodup := hp.nodup_iff.2 List.nodup_range
  have hget : ∀ k (hk : k < (namesF f n).length), (namesF f n).getD k 0 = (namesF f n)[k] := fun k hk => by simp [List.getD_eq_getElem?_getD, List.getElem?_eq_getElem hk]
  refine errT_made (g := fun k => (namesF f n).getD k 0) (h := fun k => f k % k) h1 h9 (fun k hk => ?_) (fun i j hi hj e => ?_) (fun x hx => ?_) (fun k a b => Nat.mod_lt _ a)
  · simp only [hget k (by omega)]
    exact List.mem_range.1 (hp.mem_iff.1 (List.getElem_mem _))
  · simp only [hget i (by omega), hget j (by omega)] at e
    have hpw := List.pairwise_iff_getElem.1 hnd
    rcases Nat.lt_trichotomy i j with h | h | h
    · exact absurd e (hpw i j (by omega) (by omega) h)
    · exact h
    · exact absurd e.symm (hpw j i (by omega) (by omega) h)
  · obtain ⟨k, hk, e⟩ := List.getElem_of_mem (hp.mem_iff.2 (List.mem_range.2 hx))
    exact ⟨k, by omega, by simp only [hget k hk]; exact e⟩
end Go.Proofs.YtoipleipokpnaaaGreat.Code
end
section
namespace Go.Proofs.YtoipleipokpnaaaGreat.Code
/-! distances in a tree -/
structure TM (V : Nat → Prop) (f : Nat → Nat → Bool) (D : Nat → Nat → Nat) : Prop where
  symF : ∀ {a b}, f a b = true → f b a = true
  inV : ∀ {a b}, f a b = true → V a ∧ V b ∧ a ≠ b
  zero : ∀ {x}, V x → D x x = 0
  eq : ∀ {x y}, V x → V y → D x y = 0 → x = y
  sym : ∀ {x y}, V x → V y → D x y = D y x
  step : ∀ {x a b}, V x → f a b = true → D x b = D x a + 1 ∨ D x a = D x b + 1
  par : ∀ {x y}, V x → V y → x ≠ y → ∃ b, f y b = true ∧ D x b + 1 = D x y ∧ ∀ c, f y c = true → D x c + 1 = D x y → c = b
theorem TM.single {V : Nat → Prop} {v : Nat} {f : Nat → Nat → Bool} (hV : ∀ x, V x ↔ x = v) (hf : ∀ a b, f a b = false) : TM V f (fun _ _ => 0) where
  symF := fun h => by rw [hf] at h; cases h
  inV := fun h => by rw [hf] at h; cases h
  zero := fun _ => rfl
  eq := fun hx hy _ => by rw [(hV _).1 hx, (hV _).1 hy]
  sym := fun _ _ => rfl
  step := fun _ h => by rw [hf] at h; cases h
  par := fun hx hy hne => absurd (by rw [(hV _).1 hx, (hV _).1 hy]) hne
/-- a leaf more -/
def dLeaf (D : Nat → Nat → Nat) (k to x y : Nat) : Nat := if x = k then (if y = k then 0 else D to y + 1) else if y = k then D x to + 1 else D x y
theorem dLeaf_kk {D : Nat → Nat → Nat} {k to : Nat} : dLeaf D k to k k = 0 := by simp [dLeaf]
theorem dLeaf_ky {D : Nat → Nat → Nat} {k to y : Nat} (h : y ≠ k) : dLeaf D k to k y = D to y + 1 := by simp [dLeaf, h]
theorem dLeaf_xk {D : Nat → Nat → Nat} {k to x : Nat} (h : x ≠ k) : dLeaf D k to x k = D x to + 1 := by simp [dLeaf, h]
theorem dLeaf_xy {D : Nat → Nat → Nat} {k to x y : Nat} (h : x ≠ k) (h' : y ≠ k) : dLeaf D k to x y = D x y := by simp [dLeaf, h, h']
theorem TM.leaf {V V' : Nat → Prop} {k to : Nat} {f f' : Nat → Nat → Bool} {D : Nat → Nat → Nat} (h : TM V f D) (hto : V to) (hk : ¬ V k) (hV : ∀ x, V' x ↔ V x ∨ x = k)
    (hf : ∀ a b, f' a b = true ↔ f a b = true ∨ (a = k ∧ b = to) ∨ (a = to ∧ b = k)) : TM V' f' (dLeaf D k to) := by
  have htk : to ≠ k := fun e => hk (e ▸ hto)
  have hne : ∀ {x}, V x → x ≠ k := fun hx e => hk (e ▸ hx)
  refine ⟨fun {a b} h1 => ?_, fun {a b} h1 => ?_, fun {x} hx => ?_, fun {x y} hx hy e => ?_, fun {x y} hx hy => ?_, fun {x a b} hx h1 => ?_, fun {x y} hx hy hxy => ?_⟩
  · rw [hf] at h1 ⊢
    rcases h1 with h1 | ⟨h1, h2⟩ | ⟨h1, h2⟩
    · exact .inl (h.symF h1)
    · exact .inr (.inr ⟨h2, h1⟩)
    · exact .inr (.inl ⟨h2, h1⟩)
  · rw [hf] at h1
    rw [hV, hV]
    rcases h1 with h1 | ⟨h1, h2⟩ | ⟨h1, h2⟩
    · obtain ⟨p, q, r⟩ := h.inV h1; exact ⟨.inl p, .inl q, r⟩
    · subst h1; subst h2; exact ⟨.inr rfl, .inl hto, fun e => htk e.symm⟩
    · subst h1; subst h2; exact ⟨.inl hto, .inr rfl, htk⟩
  · rcases (hV _).1 hx with hx | rfl
    · rw [dLeaf_xy (hne hx) (hne hx)]; exact h.zero hx
    · exact dLeaf_kk
  · rcases (hV _).1 hx with hx | rfl <;> rcases (hV _).1 hy with hy | rfl
    · rw [dLeaf_xy (hne hx) (hne hy)] at e; exact h.eq hx hy e
    · rw [dLeaf_xk (hne hx)] at e; omega
    · rw [dLeaf_ky (hne hy)] at e; omega
    · rfl
  · rcases (hV _).1 hx with hx | rfl <;> rcases (hV _).1 hy with hy | rfl
    · rw [dLeaf_xy (hne hx) (hne hy), dLeaf_xy (hne hy) (hne hx)]; exact h.sym hx hy
    · rw [dLeaf_xk (hne hx), dLeaf_ky (hne hx), h.sym hx hto]
    · rw [dLeaf_ky (hne hy), dLeaf_xk (hne hy), h.sym hto hy]
    · rfl
  · rw [hf] at h1
    rcases (hV _).1 hx with hx | rfl
    · rcases h1 with h1 | ⟨rfl, rfl⟩ | ⟨rfl, rfl⟩
      · obtain ⟨p, q, r⟩ := h.inV h1
        rw [dLeaf_xy (hne hx) (hne p), dLeaf_xy (hne hx) (hne q)]; exact h.step hx h1
      · rw [dLeaf_xy (hne hx) htk, dLeaf_xk (hne hx)]; exact .inr rfl
      · rw [dLeaf_xy (hne hx) htk, dLeaf_xk (hne hx)]; exact .inl rfl
    · rcases h1 with h1 | ⟨rfl, rfl⟩ | ⟨rfl, rfl⟩
      · obtain ⟨p, q, r⟩ := h.inV h1
        rw [dLeaf_ky (hne p), dLeaf_ky (hne q)]
        have := h.step hto h1
        omega
      · rw [dLeaf_kk, dLeaf_ky htk, h.zero hto]; exact .inl rfl
      · rw [dLeaf_kk, dLeaf_ky htk, h.zero hto]; exact .inr rfl
  · rcases (hV _).1 hx with hx | rfl <;> rcases (hV _).1 hy with hy | rfl
    · obtain ⟨b, b1, b2, b3⟩ := h.par hx hy hxy
      have hb := (h.inV b1).2.1
      refine ⟨b, (hf _ _).2 (.inl b1), ?_, fun c c1 c2 => ?_⟩
      · rw [dLeaf_xy (hne hx) (hne hb), dLeaf_xy (hne hx) (hne hy)]; exact b2
      · rw [hf] at c1
        rcases c1 with c1 | ⟨c1, _⟩ | ⟨rfl, rfl⟩
        · rw [dLeaf_xy (hne hx) (hne (h.inV c1).2.1), dLeaf_xy (hne hx) (hne hy)] at c2
          exact b3 c c1 c2
        · exact absurd c1 (hne hy)
        · rw [dLeaf_xk (hne hx), dLeaf_xy (hne hx) htk] at c2; omega
    · refine ⟨to, (hf _ _).2 (.inr (.inl ⟨rfl, rfl⟩)), ?_, fun c c1 c2 => ?_⟩
      · rw [dLeaf_xy (hne hx) htk, dLeaf_xk (hne hx)]
      · rw [hf] at c1
        rcases c1 with c1 | ⟨_, c1⟩ | ⟨c1, _⟩
        · exact absurd (h.inV c1).1 hk
        · exact c1
        · exact absurd c1.symm htk
    · by_cases hyt : y = to
      · subst hyt
        refine ⟨x, (hf _ _).2 (.inr (.inr ⟨rfl, rfl⟩)), ?_, fun c c1 c2 => ?_⟩
        · rw [dLeaf_kk, dLeaf_ky htk, h.zero hto]
        · rw [dLeaf_ky htk, h.zero hto] at c2
          apply Decidable.byContradiction
          intro e
          rw [dLeaf_ky e] at c2; omega
      · obtain ⟨b, b1, b2, b3⟩ := h.par hto hy (fun e => hyt e.symm)
        have hb := (h.inV b1).2.1
        refine ⟨b, (hf _ _).2 (.inl b1), ?_, fun c c1 c2 => ?_⟩
        · rw [dLeaf_ky (hne hb), dLeaf_ky (hne hy)]; omega
        · rw [hf] at c1
          rcases c1 with c1 | ⟨c1, _⟩ | ⟨c1, _⟩
          · rw [dLeaf_ky (hne (h.inV c1).2.1), dLeaf_ky (hne hy)] at c2
            exact b3 c c1 (by omega)
          · exact absurd c1 (hne hy)
          · exact absurd c1 hyt
    · exact absurd rfl hxy
theorem TM.tri {V : Nat → Prop} {f : Nat → Nat → Bool} {D : Nat → Nat → Nat} (h : TM V f D) {x y : Nat} (hx : V x) (hy : V y) : ∀ (m : Nat) {z : Nat}, V z → D y z = m → D x z ≤ D x y + m
  | 0, z, hz, e => by rw [h.eq hy hz e]; omega
  | m + 1, z, hz, e => by
    have hne : y ≠ z := fun e' => by subst e'; rw [h.zero hy] at e; omega
    obtain ⟨b, b1, b2, _⟩ := h.par hy hz hne
    have := TM.tri h hx hy m (h.inV b1).2.1 (by omega)
    have := h.step hx b1
    omega
theorem TM.adj {V : Nat → Prop} {f : Nat → Nat → Bool} {D : Nat → Nat → Nat} (h : TM V f D) {x y : Nat} (hxy : f x y = true) : D x y = 1 := by
  obtain ⟨p, q, r⟩ := h.inV hxy
  have := h.step p hxy
  rw [h.zero p] at this; omega
end Go.Proofs.YtoipleipokpnaaaGreat.Code
end
section
namespace Go.Proofs.YtoipleipokpnaaaGreat.Code
open Go Go.Ab
theorem Sm_pos {F : Nat → Nat} : ∀ {n : Nat}, 0 < Sm n F → ∃ x, x < n ∧ F x ≠ 0
  | 0, h => by simp [Sm] at h
  | n + 1, h => by
    simp only [Sm] at h
    by_cases e : F n = 0
    · obtain ⟨x, h1, h2⟩ := Sm_pos (F := F) (n := n) (by omega)
      exact ⟨x, by omega, h2⟩
    · exact ⟨n, by omega, e⟩
theorem Sm_none {F : Nat → Nat} {n : Nat} (h : Sm n F = 0) : ∀ x, x < n → F x = 0 := by
  induction n with
  | zero => intro x hx; omega
  | succ n ih =>
    simp only [Sm] at h
    intro x hx
    by_cases e : x = n
    · subst e; omega
    · exact ih (by omega) x (by omega)
theorem Inv.tm {n : Nat} {l : List ZZ} (hn : n ≤ 9) : ∀ (left : Nat) {w : Nat → Nat} {g : Nat → Bool}, Inv n l w g (left + 1) →
    ∃ D, TM (fun x => x < n ∧ g x = false) (fun a b => (w a).testBit b) D ∧ ∀ x y, x < n → g x = false → y < n → g y = false → D x y ≤ left
  | 0, w, g, h => by
    have hs := h.sum
    have hz := Sm_none (n := n) (F := fun x => (bitsN (w x)).length) (by omega)
    have hno : ∀ x b, x < n → (w x).testBit b = false := fun x b hx => by
      cases e : (w x).testBit b with
      | false => rfl
      | true =>
        have h1 := (mem_bitsN (h.lt x)).2 e
        have h2 := hz x hx
        rw [List.length_eq_zero_iff] at h2
        rw [h2] at h1; cases h1
    have hno' : ∀ x b, (w x).testBit b = false := fun x b => by
      cases e : (w x).testBit b with
      | false => rfl
      | true =>
        have e' := e
        rw [h.bit] at e'
        simp only [Bool.and_eq_true] at e'
        rw [hno x b (h.inn _ _ e'.1.1).1] at e; cases e
    have hc := h.cnt
    obtain ⟨v, v1, v2⟩ := Sm_pos (n := n) (F := fun x => if g x then 0 else 1) (by unfold lftN at hc; omega)
    have gv : g v = false := by
      cases e : g v with
      | false => rfl
      | true => simp [e] at v2
    refine ⟨_, TM.single (v := v) (fun x => ⟨fun ⟨x1, x2⟩ => ?_, fun e => by subst e; exact ⟨v1, gv⟩⟩) hno', fun x y _ _ _ _ => Nat.le_refl 0⟩
    have := h.conn v x v1 x1 gv x2
    cases this with
    | refl => rfl
    | step a b => have b' : (w _).testBit x = true := b
                  rw [hno'] at b'; cases b'
  | left + 1, w, g, h => by
    obtain ⟨k, to, hk, hto, hne, gk, _, hb, hI, _⟩ := h.next hn
    obtain ⟨D, hD, hle⟩ := Inv.tm hn left hI
    have hkt : ∀ y, (w k).testBit y = true ↔ y = to := fun y => by rw [← mem_bitsN (h.lt k), hb, List.mem_singleton]
    have gto : g to = false := by
      have := (hkt to).2 rfl
      rw [h.bit] at this
      simp only [Bool.and_eq_true, Bool.not_eq_true'] at this
      exact this.2
    have g' : ∀ x, updB g k true x = false ↔ g x = false ∧ x ≠ k := fun x => by
      unfold updB
      split
      · rename_i e; subst e; simp
      · rename_i e; simp [e]
    refine ⟨dLeaf D k to, TM.leaf hD ⟨hto, (g' _).2 ⟨gto, hne⟩⟩ (fun e => ((g' _).1 e.2).2 rfl) (fun x => ?_) (fun a b => ?_), fun x y x1 x2 y1 y2 => ?_⟩
    · simp only [g']
      constructor
      · rintro ⟨x1, x2⟩
        by_cases e : x = k
        · exact .inr e
        · exact .inl ⟨x1, x2, e⟩
      · rintro (⟨x1, x2, x3⟩ | rfl)
        · exact ⟨x1, x2⟩
        · exact ⟨hk, gk⟩
    · rw [h.bit, hI.bit]
      have ht : tieB l k to = true ∧ g to = false := by
        have := (hkt to).2 rfl
        rw [h.bit] at this
        simp only [Bool.and_eq_true, Bool.not_eq_true'] at this
        exact ⟨this.1.1, this.2⟩
      have hka : ∀ y, (tieB l k y && !g k && !g y) = true ↔ y = to := fun y => by rw [← h.bit]; exact hkt y
      by_cases ea : a = k
      · subst ea
        rw [hka]
        simp [updB, show ¬ a = to from fun e => hne e.symm]
      · by_cases eb : b = k
        · subst eb
          rw [tieB_symm, show (tieB l b a && !g a && !g b) = (tieB l b a && !g b && !g a) from by cases tieB l b a <;> cases g a <;> cases g b <;> rfl, hka]
          simp [updB, ea]
        · simp [updB, ea, eb]
    · by_cases ex : x = k
      · by_cases ey : y = k
        · subst ex; subst ey; rw [dLeaf_kk]; omega
        · subst ex; rw [dLeaf_ky ey]
          have := hle to y hto ((g' _).2 ⟨gto, hne⟩) y1 ((g' _).2 ⟨y2, ey⟩); omega
      · by_cases ey : y = k
        · subst ey; rw [dLeaf_xk ex]
          have := hle x to x1 ((g' _).2 ⟨x2, ex⟩) hto ((g' _).2 ⟨gto, hne⟩); omega
        · rw [dLeaf_xy ex ey]
          have := hle x y x1 ((g' _).2 ⟨x2, ex⟩) y1 ((g' _).2 ⟨y2, ey⟩); omega
theorem TM.congr {V V' : Nat → Prop} {f f' : Nat → Nat → Bool} {D : Nat → Nat → Nat} (h : TM V f D) (hV : ∀ x, V x ↔ V' x) (hf : ∀ a b, f a b = f' a b) : TM V' f' D := by
  obtain rfl : V = V' := funext fun x => propext (hV x)
  obtain rfl : f = f' := funext fun a => funext fun b => hf a b
  exact h
/-- a tree that was checked has distances -/
theorem tree_tm {n : Nat} {l : List ZZ} {w : Nat → Nat} (hn : n ≤ 9) (h1 : 1 ≤ n) (hw : Wd n l w) (he : errL n [] l = 0) (hl : l.length < n) (hc : Conn n l) :
    ∃ D, TM (fun x => x < n) (tieB l) D ∧ ∀ x y, x < n → y < n → D x y < n := by
  obtain ⟨n, rfl⟩ : ∃ m, n = m + 1 := ⟨n - 1, by omega⟩
  obtain ⟨D, d1, d2⟩ := (inv_start hn hw he hl hc).tm hn
  exact ⟨D, d1.congr (fun x => by simp) (fun a b => hw.bit a b), fun x y hx hy => by have := d2 x y hx rfl hy rfl; omega⟩
end Go.Proofs.YtoipleipokpnaaaGreat.Code
end
section
namespace Go.Proofs.YtoipleipokpnaaaGreat.Code
def rs (f : Nat → Nat → Bool) (S : Nat → Bool) (a b : Nat) : Bool := f a b && S a && S b
theorem rs_iff {f : Nat → Nat → Bool} {S : Nat → Bool} {a b : Nat} : rs f S a b = true ↔ f a b = true ∧ S a = true ∧ S b = true := by
  simp [rs, and_assoc]
abbrev TS (f : Nat → Nat → Bool) (S : Nat → Bool) (D : Nat → Nat → Nat) : Prop := TM (fun x => S x = true) (rs f S) D
def LfS (f : Nat → Nat → Bool) (S : Nat → Bool) (x : Nat) : Prop := ∀ a b, rs f S x a = true → rs f S x b = true → a = b
def Off (f : Nat → Nat → Bool) (S S' : Nat → Bool) : Prop := ∀ x, S' x = true ↔ S x = true ∧ ¬ LfS f S x
section
variable {n : Nat} {f : Nat → Nat → Bool} {S S' : Nat → Bool} {D : Nat → Nat → Nat}
/-- a knot between two is no leaf -/
theorem TS.mid (h : TS f S D) {x y b : Nat} (hx : S x = true) (hb : rs f S y b = true) (hd : D x b + 1 = D x y) (hne : b ≠ x) : ¬ LfS f S b := fun hl => by
  have hbS := (rs_iff.1 hb).2.2
  obtain ⟨c, c1, c2, _⟩ := h.par hx hbS (fun e => hne e.symm)
  have := hl c y c1 (h.symF hb)
  subst this
  omega
theorem TS.round (h : TS f S D) (ho : Off f S S') : TS f S' D := by
  refine ⟨fun {a b} h1 => ?_, fun {a b} h1 => ?_, fun {x} hx => h.zero ((ho x).1 hx).1, fun {x y} hx hy e => h.eq ((ho x).1 hx).1 ((ho y).1 hy).1 e, fun {x y} hx hy => h.sym ((ho x).1 hx).1 ((ho y).1 hy).1, fun {x a b} hx h1 => ?_, fun {x y} hx hy hxy => ?_⟩
  · obtain ⟨h1, h2, h3⟩ := rs_iff.1 h1
    have := h.symF (rs_iff.2 ⟨h1, ((ho _).1 h2).1, ((ho _).1 h3).1⟩)
    exact rs_iff.2 ⟨(rs_iff.1 this).1, h3, h2⟩
  · obtain ⟨h1, h2, h3⟩ := rs_iff.1 h1
    have := h.inV (rs_iff.2 ⟨h1, ((ho _).1 h2).1, ((ho _).1 h3).1⟩)
    exact ⟨h2, h3, this.2.2⟩
  · obtain ⟨h1, h2, h3⟩ := rs_iff.1 h1
    exact h.step ((ho _).1 hx).1 (rs_iff.2 ⟨h1, ((ho _).1 h2).1, ((ho _).1 h3).1⟩)
  · obtain ⟨b, b1, b2, b3⟩ := h.par ((ho _).1 hx).1 ((ho _).1 hy).1 hxy
    obtain ⟨q1, q2, q3⟩ := rs_iff.1 b1
    refine ⟨b, rs_iff.2 ⟨q1, hy, ?_⟩, b2, fun c c1 c2 => ?_⟩
    · by_cases e : b = x
      · subst e; exact hx
      · exact (ho _).2 ⟨q3, h.mid ((ho _).1 hx).1 b1 b2 e⟩
    · obtain ⟨r1, r2, r3⟩ := rs_iff.1 c1
      exact b3 c (rs_iff.2 ⟨r1, ((ho _).1 r2).1, ((ho _).1 r3).1⟩) c2
end
end Go.Proofs.YtoipleipokpnaaaGreat.Code
end
section
namespace Go.Proofs.YtoipleipokpnaaaGreat.Code
open Go Go.Ab
/-! the distances of all knots by Floyd and Warshall -/
abbrev Mat := Nat → Nat → Nat
def up2 (M : Mat) (a b v : Nat) : Mat := fun x y => if x = a ∧ y = b then v else M x y
def fwS (k a : Nat) (M : Mat) (b : Nat) : Mat := up2 M a b (min (M a b) (M a k + M k b))
def fwA (n k : Nat) (M : Mat) (a : Nat) : Mat := (List.range n).foldl (fwS k a) M
def fwK (n : Nat) (M : Mat) (k : Nat) : Mat := (List.range n).foldl (fwA n k) M
def fwN (n : Nat) (M : Mat) : Mat := (List.range n).foldl (fwK n) M
def tieM (M : Mat) (p : ZZ) : Mat := up2 (up2 M p.1.toNat p.2.toNat 1) p.2.toNat p.1.toNat 1
def fw0 (l : List ZZ) : Mat := l.foldl tieM fun a b => if a = b then 0 else 100
def farF (n : Nat) (l : List ZZ) : Mat := fwN n (fw0 l)
def Mids (n m : Nat) (D : Mat) (a b : Nat) : Prop := ∀ z, z < n → z ≠ a → z ≠ b → D a z + D z b = D a b → z < m
structure FJ (n m : Nat) (D M : Mat) : Prop where
  ge : ∀ a b, a < n → b < n → D a b ≤ M a b
  eq : ∀ a b, a < n → b < n → Mids n m D a b → M a b = D a b
section
variable {n : Nat} {f : Nat → Nat → Bool} {D M : Mat}
theorem FJ.step {m a b : Nat} (hT : TM (fun x => x < n) f D) (hm : m < n) (ha : a < n) (hb : b < n) (h : FJ n m D M) : FJ n m D (fwS m a M b) := by
  have t := hT.tri ha hm (D m b) hb rfl
  have h1 := h.ge a m ha hm
  have h2 := h.ge m b hm hb
  have h3 := h.ge a b ha hb
  refine ⟨fun x y hx hy => ?_, fun x y hx hy hM => ?_⟩
  · unfold fwS up2
    split
    · rename_i e; obtain ⟨rfl, rfl⟩ := e; omega
    · exact h.ge x y hx hy
  · have := h.eq x y hx hy hM
    unfold fwS up2
    split
    · rename_i e; obtain ⟨rfl, rfl⟩ := e; omega
    · exact this
theorem FJ.hit {m a b : Nat} (hT : TM (fun x => x < n) f D) (hm : m < n) (ha : a < n) (hb : b < n) (h : FJ n m D M) (hM : Mids n (m + 1) D a b) : fwS m a M b a b = D a b := by
  have t := hT.tri ha hm (D m b) hb rfl
  have h1 := h.ge a m ha hm
  have h2 := h.ge m b hm hb
  have h3 := h.ge a b ha hb
  have e0 : fwS m a M b a b = min (M a b) (M a m + M m b) := by unfold fwS up2; rw [if_pos ⟨rfl, rfl⟩]
  rw [e0]
  by_cases hc : m ≠ a ∧ m ≠ b ∧ D a m + D m b = D a b
  · obtain ⟨c1, c2, c3⟩ := hc
    have e1 : M a m = D a m := h.eq a m ha hm fun z hz z1 z2 z3 => by
      have t2 := hT.tri hz hm (D m b) hb rfl
      have t3 := hT.tri ha hz (D z b) hb rfl
      have hzb : z ≠ b := fun e => by
        subst e
        have := hT.sym hb hm
        have : D m z = 0 := by omega
        exact c2 (hT.eq hm hb this)
      have := hM z hz z1 hzb (by omega)
      omega
    have e2 : M m b = D m b := h.eq m b hm hb fun z hz z1 z2 z3 => by
      have t2 := hT.tri ha hm (D m z) hz rfl
      have t3 := hT.tri ha hz (D z b) hb rfl
      have hza : z ≠ a := fun e => by
        subst e
        have := hT.sym hz hm
        have : D z m = 0 := by omega
        exact c1 (hT.eq hz hm this).symm
      have := hM z hz hza z2 (by omega)
      omega
    omega
  · have : M a b = D a b := h.eq a b ha hb fun z hz z1 z2 z3 => by
      have := hM z hz z1 z2 z3
      have : z ≠ m := fun e => by subst e; exact hc ⟨z1, z2, z3⟩
      omega
    omega
theorem fwS_le {m a b x y : Nat} : fwS m a M b x y ≤ M x y := by
  unfold fwS up2
  split
  · rename_i e; obtain ⟨rfl, rfl⟩ := e; omega
  · exact Nat.le_refl _
theorem FJ.row {m a : Nat} (hT : TM (fun x => x < n) f D) (hm : m < n) (ha : a < n) (G : Nat → Nat → Prop) (hG : ∀ x y, G x y → x < n ∧ y < n ∧ Mids n (m + 1) D x y) :
    ∀ (L : List Nat) (M : Mat), (∀ b ∈ L, b < n) → FJ n m D M → (∀ x y, G x y → M x y = D x y) → FJ n m D (L.foldl (fwS m a) M) ∧ (∀ x y, G x y → L.foldl (fwS m a) M x y = D x y) ∧ ∀ b ∈ L, Mids n (m + 1) D a b → L.foldl (fwS m a) M a b = D a b
  | [], M, _, h, hg => ⟨h, hg, fun b hb => by cases hb⟩
  | b :: L, M, hL, h, hg => by
    have hb := hL b (List.mem_cons_self ..)
    have h' := h.step hT hm ha hb
    have hit := fun hM => h.hit hT hm ha hb hM
    have hg' : ∀ x y, G x y ∨ (x = a ∧ y = b ∧ Mids n (m + 1) D a b) → fwS m a M b x y = D x y := fun x y hxy => by
      rcases hxy with e | ⟨rfl, rfl, e⟩
      · obtain ⟨g1, g2, _⟩ := hG x y e
        have q1 := h'.ge x y g1 g2
        have q2 := fwS_le (m := m) (a := a) (b := b) (M := M) (x := x) (y := y)
        have q3 := hg x y e
        omega
      · exact hit e
    obtain ⟨r1, r2, r3⟩ := FJ.row hT hm ha (fun x y => G x y ∨ (x = a ∧ y = b ∧ Mids n (m + 1) D a b)) (fun x y hxy => by
      rcases hxy with e | ⟨rfl, rfl, e⟩
      · exact hG x y e
      · exact ⟨ha, hb, e⟩) L _ (fun c hc => hL c (List.mem_cons_of_mem _ hc)) h' hg'
    refine ⟨r1, fun x y e => r2 x y (.inl e), fun c hc hM => ?_⟩
    rcases List.mem_cons.1 hc with rfl | hc
    · exact r2 a c (.inr ⟨rfl, rfl, hM⟩)
    · exact r3 c hc hM
theorem FJ.rows {m : Nat} (hT : TM (fun x => x < n) f D) (hm : m < n) (G : Nat → Nat → Prop) (hG : ∀ x y, G x y → x < n ∧ y < n ∧ Mids n (m + 1) D x y) :
    ∀ (L : List Nat) (M : Mat), (∀ b ∈ L, b < n) → FJ n m D M → (∀ x y, G x y → M x y = D x y) → FJ n m D (L.foldl (fwA n m) M) ∧ (∀ x y, G x y → L.foldl (fwA n m) M x y = D x y) ∧ ∀ a ∈ L, ∀ b, b < n → Mids n (m + 1) D a b → L.foldl (fwA n m) M a b = D a b
  | [], M, _, h, hg => ⟨h, hg, fun b hb => by cases hb⟩
  | a :: L, M, hL, h, hg => by
    have ha := hL a (List.mem_cons_self ..)
    obtain ⟨p1, p2, p3⟩ := FJ.row hT hm ha G hG (List.range n) M (fun b hb => List.mem_range.1 hb) h hg
    obtain ⟨r1, r2, r3⟩ := FJ.rows hT hm (fun x y => G x y ∨ (x = a ∧ y < n ∧ Mids n (m + 1) D a y)) (fun x y hxy => by
      rcases hxy with e | ⟨rfl, e1, e⟩
      · exact hG x y e
      · exact ⟨ha, e1, e⟩) L (fwA n m M a) (fun c hc => hL c (List.mem_cons_of_mem _ hc)) p1 (fun x y hxy => by
      rcases hxy with e | ⟨rfl, e1, e⟩
      · exact p2 x y e
      · exact p3 y (List.mem_range.2 e1) e)
    refine ⟨r1, fun x y e => r2 x y (.inl e), fun c hc b hb hM => ?_⟩
    rcases List.mem_cons.1 hc with rfl | hc
    · exact r2 c b (.inr ⟨rfl, hb, hM⟩)
    · exact r3 c hc b hb hM
theorem FJ.round {m : Nat} (hT : TM (fun x => x < n) f D) (hm : m < n) (h : FJ n m D M) : FJ n (m + 1) D (fwK n M m) := by
  obtain ⟨r1, _, r3⟩ := FJ.rows hT hm (fun _ _ => False) (fun _ _ e => e.elim) (List.range n) M (fun b hb => List.mem_range.1 hb) h (fun _ _ e => e.elim)
  exact ⟨r1.ge, fun a b ha hb hM => r3 a (List.mem_range.2 ha) b hb hM⟩
theorem FJ.all (hT : TM (fun x => x < n) f D) (h : FJ n 0 D M) : ∀ m, m ≤ n → FJ n m D ((List.range m).foldl (fwK n) M)
  | 0, _ => h
  | m + 1, hm => by
    rw [List.range_succ, List.foldl_append]
    exact FJ.round hT (by omega) (FJ.all hT h m (by omega))
end
theorem up2_get {M : Mat} {a b v x y : Nat} : up2 M a b v x y = if x = a ∧ y = b then v else M x y := rfl
theorem fw0_get {n : Nat} : ∀ {r l : List ZZ} {M : Mat}, (∀ p ∈ r, okP n p) → (∀ a b, M a b = if a = b then 0 else if tieB l a b then 1 else 100) → (∀ p ∈ l, okP n p) → ∀ a b, r.foldl tieM M a b = if a = b then 0 else if tieB (l ++ r) a b then 1 else 100
  | [], l, M, _, h, _, a, b => by rw [List.append_nil]; exact h a b
  | p :: r, l, M, hr, h, hl, a, b => by
    have hp := hr p (List.mem_cons_self ..)
    rw [List.foldl_cons, show l ++ p :: r = (l ++ [p]) ++ r by simp]
    refine fw0_get (l := l ++ [p]) (fun q hq => hr q (List.mem_cons_of_mem _ hq)) (fun x y => ?_) (fun q hq => ?_) a b
    · rw [tieB_snoc]
      obtain ⟨p1, p2⟩ := p
      obtain ⟨q1, q2, q3, q4, q5⟩ := hp
      simp only at q1 q2 q3 q4 q5
      obtain ⟨c, rfl⟩ := Int.eq_ofNat_of_zero_le q1
      obtain ⟨d, rfl⟩ := Int.eq_ofNat_of_zero_le q2
      have hcd : c ≠ d := by omega
      simp only [tieM, up2_get, Int.toNat_natCast]
      have b1 : ∀ u v : Nat, ((u : Int) == (v : Int)) = decide (u = v) := fun u v => by
        rw [Bool.eq_iff_iff, beq_iff_eq, decide_eq_true_iff]; omega
      simp only [b1]
      by_cases h1 : x = d ∧ y = c
      · obtain ⟨rfl, rfl⟩ := h1
        rw [if_pos ⟨rfl, rfl⟩, if_neg (fun e => hcd e.symm)]
        simp
      · rw [if_neg h1]
        by_cases h2 : x = c ∧ y = d
        · obtain ⟨rfl, rfl⟩ := h2
          rw [if_pos ⟨rfl, rfl⟩, if_neg hcd]
          simp
        · rw [if_neg h2, h]
          have : (decide (c = x) && decide (d = y) || decide (c = y) && decide (d = x)) = false := by
            rw [Bool.eq_false_iff]
            intro e
            simp only [Bool.or_eq_true, Bool.and_eq_true, decide_eq_true_eq] at e
            rcases e with ⟨e1, e2⟩ | ⟨e1, e2⟩
            · exact h2 ⟨e1.symm, e2.symm⟩
            · exact h1 ⟨e2.symm, e1.symm⟩
          rw [this, Bool.or_false]
    · rcases List.mem_append.1 hq with hq | hq
      · exact hl q hq
      · rw [List.mem_singleton.1 hq]; exact hp
theorem fw0_eq {n : Nat} {l : List ZZ} (hv : ∀ p ∈ l, okP n p) (a b : Nat) : fw0 l a b = if a = b then 0 else if tieB l a b then 1 else 100 := by
  have := fw0_get (n := n) (r := l) (l := []) (M := fun a b => if a = b then 0 else 100) hv (fun a b => by simp [tieB_nil]) (fun p hp => by cases hp) a b
  rw [List.nil_append] at this
  exact this
theorem farF_tm {n : Nat} {l : List ZZ} {D : Mat} (hT : TM (fun x => x < n) (tieB l) D) (hv : ∀ p ∈ l, okP n p) (hD : ∀ x y, x < n → y < n → D x y ≤ 100) {a b : Nat} (ha : a < n) (hb : b < n) : farF n l a b = D a b := by
  have h0 : FJ n 0 D (fw0 l) := by
    refine ⟨fun a b ha hb => ?_, fun a b ha hb hM => ?_⟩
    · rw [fw0_eq hv]
      split
      · rename_i e; subst e; rw [hT.zero ha]; omega
      · split
        · rename_i e; rw [hT.adj e]; omega
        · exact hD a b ha hb
    · rw [fw0_eq hv]
      split
      · rename_i e; subst e; rw [hT.zero ha]
      · rename_i e
        split
        · rename_i e; rw [hT.adj e]
        · rename_i e2
          obtain ⟨c, c1, c2, _⟩ := hT.par ha hb e
          have hc := (hT.inV c1).2.1
          have hca : c ≠ a := fun e' => by subst e'; exact e2 (hT.symF c1)
          have hcb : c ≠ b := fun e' => (hT.inV c1).2.2 e'.symm
          have := hM c hc hca hcb (by rw [hT.sym hc hb, hT.adj c1]; omega)
          omega
  exact (FJ.all hT h0 n (Nat.le_refl n)).eq a b ha hb fun z hz _ _ _ => hz
/-! what is below 100 can be reached -/
def FR (n : Nat) (f : Nat → Nat → Bool) (M : Mat) : Prop := ∀ a b, M a b < 100 → Rch f a b
theorem FR.step {n k a b : Nat} {f : Nat → Nat → Bool} {M : Mat} (h : FR n f M) : FR n f (fwS k a M b) := fun x y e => by
  unfold fwS up2 at e
  split at e
  · rename_i e'; obtain ⟨rfl, rfl⟩ := e'
    rcases Nat.lt_or_ge (M x y) 100 with h1 | h1
    · exact h x y h1
    · exact Rch.trans (h x k (by omega)) (h k y (by omega))
  · exact h x y e
theorem FR.foldl {n : Nat} {f : Nat → Nat → Bool} {g : Mat → Nat → Mat} (hg : ∀ M c, FR n f M → FR n f (g M c)) : ∀ (L : List Nat) (M : Mat), FR n f M → FR n f (L.foldl g M)
  | [], _, h => h
  | c :: L, M, h => FR.foldl hg L _ (hg M c h)
theorem farF_rch {n : Nat} {l : List ZZ} (hv : ∀ p ∈ l, okP n p) {a b : Nat} (h : farF n l a b < 100) : Rch (tieB l) a b := by
  have h0 : FR n (tieB l) (fw0 l) := fun a b e => by
    rw [fw0_eq hv] at e
    split at e
    · rename_i e'; subst e'; exact .refl _
    · split at e
      · rename_i e'; exact .step (.refl _) e'
      · omega
  exact FR.foldl (fun M k hM => FR.foldl (fun M a hM => FR.foldl (fun M b hM => hM.step) _ _ hM) _ _ hM) _ _ h0 a b h
end Go.Proofs.YtoipleipokpnaaaGreat.Code
end
section
namespace Go.Proofs.YtoipleipokpnaaaGreat.Code
open Go Go.Ab
end Go.Proofs.YtoipleipokpnaaaGreat.Code
end
section
namespace Go.Proofs.YtoipleipokpnaaaGreat.Code
open Go Go.Ab
/-! degrees, and how often knots occur in the list -/
theorem Sm_mono {F G : Nat → Nat} : ∀ {n : Nat}, (∀ y, y < n → G y ≤ F y) → Sm n G ≤ Sm n F
  | 0, _ => Nat.le_refl 0
  | n + 1, h => by
    simp only [Sm]
    have := Sm_mono (F := F) (G := G) (n := n) fun y hy => h y (by omega)
    have := h n (by omega)
    omega
theorem Sm_more {F G : Nat → Nat} {x : Nat} : ∀ {n : Nat}, (∀ y, y < n → G y ≤ F y) → x < n → Sm n G + F x ≤ Sm n F + G x
  | 0, _, h => by omega
  | n + 1, h, hx => by
    simp only [Sm]
    by_cases e : x = n
    · subst e
      have := Sm_mono (F := F) (G := G) (n := x) fun y hy => h y (by omega)
      omega
    · have := Sm_more (x := x) (n := n) (fun y hy => h y (by omega)) (by omega)
      have := h n (by omega)
      omega
theorem Inv.gone {n : Nat} {l : List ZZ} {w : Nat → Nat} {g : Nat → Bool} {left : Nat} (h : Inv n l w g left) {x : Nat} (hg : g x = true) : (bitsN (w x)).length = 0 := by
  rw [List.length_eq_zero_iff]
  apply List.eq_nil_iff_forall_not_mem.2
  intro y hy
  rw [mem_bitsN (h.lt x), h.bit, hg] at hy
  simp at hy
theorem wrF_count {n : Nat} {l : List ZZ} (hn : n ≤ 9) : ∀ (t : Nat) {w : Nat → Nat} {g : Nat → Bool}, Inv n l w g (t + 2) → ∀ x, x < n → (wrF n t w).count x + (if g x then 0 else 1) = (bitsN (w x)).length
  | 0, w, g, h, x, hx => by
    have h1 : (wrF n 0 w).count x = 0 := rfl
    rw [h1, Nat.zero_add]
    cases e : g x with
    | true => rw [h.gone e]; rfl
    | false =>
      have hge : ∀ y, y < n → (if g y then 0 else 1) ≤ (bitsN (w y)).length := fun y hy => by
        cases e2 : g y with
        | true => simp
        | false =>
          obtain ⟨z, hz⟩ := h.last hy e2 (Nat.le_refl 2)
          have := List.length_pos_of_mem ((mem_bitsN (h.lt y)).2 hz)
          simp; omega
      have h2 := Sm_more (F := fun y => (bitsN (w y)).length) (G := fun y => if g y then 0 else 1) hge hx
      have h3 := h.sum
      have h4 := h.cnt
      have h5 := hge x hx
      unfold lftN at h4
      simp only [e] at h2 h5
      simp at h2 h5 ⊢
      omega
  | t + 1, w, g, h, x, hx => by
    obtain ⟨k, to, hk, hto, hne, gk, _, hb, hI, hw⟩ := h.next hn
    have ih := wrF_count hn t hI x hx
    have hkt : ∀ y, (w k).testBit y = true ↔ y = to := fun y => by rw [← mem_bitsN (h.lt k), hb, List.mem_singleton]
    have htb := (hkt to).2 rfl
    have hsym : ∀ x y, (w x).testBit y = (w y).testBit x := fun x y => by
      rw [h.bit, h.bit, tieB_symm]
      cases tieB l y x <;> cases g x <;> cases g y <;> rfl
    have gto : g to = false := by
      have := htb
      rw [h.bit] at this
      simp only [Bool.and_eq_true, Bool.not_eq_true'] at this
      exact this.2
    rw [hw]
    by_cases e1 : x = k
    · subst e1
      rw [List.count_cons_of_ne hne, gk, hb]
      have := hI.gone (x := x) (by simp [updB])
      rw [this] at ih
      simp [updB] at ih ⊢
      exact ih
    · have g1 : updB g k true x = g x := by simp [updB, e1]
      rw [g1] at ih
      by_cases e2 : x = to
      · subst e2
        have hca : upd w k (bxor (w k) (pw x)) x = w x := by unfold upd; rw [if_neg hne]
        have wt : tieW w k x x = bxor (w x) (pw k) := by unfold tieW; rw [hca]; unfold upd; rw [if_pos rfl]
        have c2 := bitsN_clear (w x) (h.lt x) k (by omega) (by rw [hsym]; exact htb)
        rw [wt, gto] at ih
        rw [List.count_cons_self, gto]
        simp at ih ⊢
        omega
      · have wo : tieW w k to x = w x := by
          unfold tieW upd; rw [if_neg e2, if_neg e1]
        rw [wo] at ih
        rw [List.count_cons_of_ne (fun e => e2 e.symm)]; exact ih
def ownC (l : List ZZ) (x : Nat) : Nat := (l.filter fun p => decide (p.1 = (x : Int)) || decide (p.2 = (x : Int))).length
theorem wd_own {n : Nat} (hn : n ≤ 9) : ∀ {r b : List ZZ} {w : Nat → Nat}, Wd n b w → errL n b r = 0 → (∀ x, (bitsN (w x)).length = ownC b x) → ∃ w', Wd n (b ++ r) w' ∧ ∀ x, (bitsN (w' x)).length = ownC (b ++ r) x
  | [], b, w, hw, _, hs => ⟨w, by rw [List.append_nil]; exact ⟨hw, hs⟩⟩
  | p :: r, b, w, hw, he, hs => by
    unfold errL at he
    split at he
    · rename_i h1; exact absurd he h1
    · rename_i h1
      split at he
      · cases he
      · rename_i h2
        have hok := mayS_ok.1 (show mayS n p = 0 by simpa using h1)
        obtain ⟨a, c⟩ := p
        obtain ⟨q1, q2, q3, q4, q5⟩ := hok
        simp only at q1 q2 q3 q4 q5
        obtain ⟨a, rfl⟩ := Int.eq_ofNat_of_zero_le q1
        obtain ⟨c, rfl⟩ := Int.eq_ofNat_of_zero_le q2
        have ha : a < n := by omega
        have hc : c < n := by omega
        have hac : a ≠ c := by omega
        have ht : tieB b a c = false := by simpa using h2
        have hw' := hw.tie hn ha hc hac ht
        have h1 : (w a).testBit c = false := by rw [hw.bit]; exact ht
        have h3 : (w c).testBit a = false := by rw [hw.bit, tieB_symm]; exact ht
        have hca : upd w a (bxor (w a) (pw c)) c = w c := by unfold upd; rw [if_neg (fun e => hac e.symm)]
        have c1 := bitsN_set (w a) (hw.lt a) c (by omega) h1
        have c2 := bitsN_set (w c) (hw.lt c) a (by omega) h3
        have hown : ∀ x, ownC (b ++ [((a : Int), (c : Int))]) x = ownC b x + if x = a ∨ x = c then 1 else 0 := fun x => by
          unfold ownC
          rw [List.filter_append, List.length_append]
          congr 1
          by_cases e1 : x = a
          · subst e1; simp
          · by_cases e2 : x = c
            · subst e2; simp
            · have e1' : ¬ a = x := fun e => e1 e.symm
              have e2' : ¬ c = x := fun e => e2 e.symm
              have e3 : ¬ (a : Int) = (x : Int) := by omega
              have e4 : ¬ (c : Int) = (x : Int) := by omega
              simp [e1, e2, e3, e4]
        have wa : tieW w a c a = bxor (w a) (pw c) := by unfold tieW; rw [hca]; unfold upd; rw [if_neg hac, if_pos rfl]
        have wt : tieW w a c c = bxor (w c) (pw a) := by unfold tieW; rw [hca]; unfold upd; rw [if_pos rfl]
        obtain ⟨w', k1, k2⟩ := wd_own hn (r := r) (b := b ++ [((a : Int), (c : Int))]) hw' he (fun x => by
          rw [hown]
          by_cases e1 : x = a
          · subst e1; rw [wa, c1, hs]; simp
          · by_cases e2 : x = c
            · subst e2; rw [wt, c2, hs]; simp
            · have : tieW w a c x = w x := by unfold tieW upd; rw [if_neg e2, if_neg e1]
              rw [this, hs]; simp [e1, e2])
        refine ⟨w', ?_, ?_⟩
        · simpa using k1
        · simpa using k2
theorem own_bits {n : Nat} {l : List ZZ} {w : Nat → Nat} (hn : n ≤ 9) (hw : Wd n l w) (he : errL n [] l = 0) (x : Nat) : (bitsN (w x)).length = ownC l x := by
  obtain ⟨w', k1, k2⟩ := wd_own hn (r := l) Wd.nil he (fun x => by simp [bitsN_zero, ownC])
  rw [List.nil_append] at k1 k2
  obtain rfl := wd_unique hw k1
  exact k2 x
end Go.Proofs.YtoipleipokpnaaaGreat.Code
end
section
namespace Go.Proofs.YtoipleipokpnaaaGreat.Code
open Go Go.Ab Go.RowKit Go.ChangeShapes Go.WideShapes
variable {H : Type} {enc : TypeId × Value → H} {P : Program} {W W' : World} {base : Nat} {spare : Nat → Bool} {held : Bool}
theorem flat_vr {n : Nat} {t : TypeId} {v : Value} {d : DataW H} {ps : List MemPlace} {r : Reach} {b0 : Nat}
    (hu : (∃ fs, P.underlying t = some (.struct fs)) ∨ ∃ m e, P.underlying t = some (.array m e)) (hf : flatT P n t = true)
    (hval : Value.okWide P W r b0 t v) (hd : DataW.Trod enc P W 0 spare held t v d ps) : ∃ ys, VR (ctx0 W) (.agg ys) v ∧ Sh P n t ys := by
  have hv : ∃ cs, v = .agg cs := by
    unfold Value.okWide at hval
    rcases hu with ⟨fs, hu⟩ | ⟨m, e, hu⟩
    · rw [hu] at hval
      obtain ⟨cs, h, _⟩ := hval
      exact ⟨cs, h⟩
    · rw [hu] at hval
      obtain ⟨cs, h, _⟩ := hval
      exact ⟨cs, h⟩
  obtain ⟨cs, rfl⟩ := hv
  obtain ⟨fuel, hd⟩ := hd
  obtain ⟨ys, h1, h2⟩ := flat_cel (W := W) n t hf _ _ _ hd
  have hc : (Value.agg cs).cells.toList = cs.toList := rfl
  rw [hc] at h2
  exact ⟨ys, .agg ys cs (by rw [h2.len]; simp) h2.one fun i c u hi hu => h2.vr i c u hi (by simpa using hu), h1⟩
theorem sh_nat {n : Nat} {e : TypeId} {k : IntKind} {ys : List AV} (he : P.underlying e = some (.int k)) (hk : k.min = 0) (h : Sh P (n + 1) e ys) : ∃ a : Nat, ys = [.int k a] ∧ (a : Int) ≤ k.max := by
  unfold Sh at h
  rw [he] at h
  obtain ⟨z, rfl, hw⟩ := h
  simp only [Lit.wf, Bool.and_eq_true, decide_eq_true_eq, hk] at hw
  obtain ⟨a, rfl⟩ := Int.eq_ofNat_of_zero_le hw.1
  exact ⟨a, rfl, hw.2⟩
theorem sh_bytes {e : TypeId} {m o : Nat} {ys : List AV} {t : TypeId} (ht : P.underlying t = some (.array m e)) (he : P.underlying e = some (.int .u8)) (ce : P.cellsOf e = 1) (ct : P.cellsOf t = m)
    (hs : Sh P 2 t ((ys.drop o).take m)) : ∀ i, i < m → ∃ a : Nat, ys[o + i]? = some (.int .u8 (a : Nat)) ∧ a < 256 := by
  unfold Sh at hs
  rw [ht] at hs
  obtain ⟨hl, hs⟩ := hs
  intro i hi
  have := hs i hi
  rw [ce, Nat.mul_one] at this
  obtain ⟨a, ha, ha2⟩ := sh_nat he (by decide) this
  have m1 : IntKind.u8.max = 255 := by decide
  refine ⟨a, ?_, by omega⟩
  have h2 : ((((ys.drop o).take m).drop i).take 1)[0]? = some (.int .u8 (a : Nat)) := by rw [ha]; rfl
  rw [List.getElem?_take, if_pos (by decide), List.getElem?_drop, List.getElem?_take, if_pos (by omega), List.getElem?_drop] at h2
  rw [← h2]; rfl
/-- a twig: a byte, eight and nine -/
theorem twig_vr {t e : TypeId} {f0 f1 f2 : Field} {v : Value} {d : DataW H} {ps : List MemPlace} {r : Reach} {b0 : Nat}
    (ht : P.underlying t = some (.struct #[f0, f1, f2])) (o0 : f0.offset = 0) (o1 : f1.offset = 1) (o2 : f2.offset = 9) (c0 : P.cellsOf f0.type = 1) (c1 : P.cellsOf f1.type = 8) (c2 : P.cellsOf f2.type = 9) (ct : P.cellsOf t = 18)
    (h0 : P.underlying f0.type = some (.int .u8)) (h1 : P.underlying f1.type = some (.array 8 e)) (h2 : P.underlying f2.type = some (.array 9 e)) (he : P.underlying e = some (.int .u8)) (ce : P.cellsOf e = 1)
    (hval : Value.okWide P W r b0 t v) (hd : DataW.Trod enc P W 0 spare held t v d ps) :
    ∃ f : Nat → Nat, (∀ i, f i < 256) ∧ VR (ctx0 W) (.agg (tw f)) v := by
  have hf : flatT P 3 t = true := by
    have ge : flatT P 1 e = true := by unfold flatT; rw [he]
    have g0 : flatT P 2 f0.type = true := by unfold flatT; rw [h0]
    have g1 : flatT P 2 f1.type = true := by unfold flatT; rw [h1]; simp [ce, c1, ge]
    have g2 : flatT P 2 f2.type = true := by unfold flatT; rw [h2]; simp [ce, c2, ge]
    unfold flatT; rw [ht]
    simp [rowed, o0, o1, o2, c0, c1, c2, ct, g0, g1, g2]
  obtain ⟨ys, hv, hs⟩ := flat_vr (.inl ⟨_, ht⟩) hf hval hd
  unfold Sh at hs
  rw [ht] at hs
  obtain ⟨hl, hs⟩ := hs
  rw [ct] at hl
  have s0 := hs f0 (by simp)
  have s1 := hs f1 (by simp)
  have s2 := hs f2 (by simp)
  rw [o0, c0] at s0
  rw [o1, c1] at s1
  rw [o2, c2] at s2
  obtain ⟨a0, ha0, hb0⟩ := sh_nat h0 (by decide) s0
  have m1 : IntKind.u8.max = 255 := by decide
  have x1 := sh_bytes h1 he ce c1 s1
  have x2 := sh_bytes h2 he ce c2 s2
  have each : ∀ i, i < 18 → ∃ a : Nat, ys[i]? = some (.int .u8 (a : Nat)) ∧ a < 256 := fun i hi => by
    by_cases e1 : i = 0
    · subst e1
      refine ⟨a0, ?_, by omega⟩
      have h2 : ((ys.drop 0).take 1)[0]? = some (.int .u8 (a0 : Nat)) := by rw [ha0]; rfl
      rw [List.getElem?_take, if_pos (by decide), List.getElem?_drop] at h2
      exact h2
    · by_cases e2 : i < 9
      · have := x1 (i - 1) (by omega)
        rwa [show 1 + (i - 1) = i by omega] at this
      · have := x2 (i - 9) (by omega)
        rwa [show 9 + (i - 9) = i by omega] at this
  obtain ⟨Y, hY⟩ := Go.Deep.choose_lt each
  refine ⟨fun i => if i < 18 then Y i else 0, fun i => ?_, ?_⟩
  · simp only
    split
    · rename_i h; exact (hY i h).2
    · decide
  · have : ys = tw fun i => if i < 18 then Y i else 0 := by
      unfold tw
      apply List.ext_getElem?
      intro i
      by_cases hi : i < 18
      · rw [(hY i hi).1]; simp [hi]
      · rw [List.getElem?_eq_none (by omega), List.getElem?_eq_none (by simp; omega)]
    rw [← this]; exact hv
end Go.Proofs.YtoipleipokpnaaaGreat.Code
end
section
namespace Go.Proofs.YtoipleipokpnaaaGreat.Code
open Go Go.Ab
variable {pure : Bool} {base bar : Nat} {H : Heap} {Q : AV → Heap → Prop} {K : AV → Heap → List Nat → Prop}
/-! far: a square of numbers on the heap -/
def topR (n : Nat) (C : Nat → AV) : List AV := (List.range n).map C
theorem topR_len {n : Nat} {C : Nat → AV} : (topR n C).length = n := by simp [topR]
theorem topR_get {n i : Nat} {C : Nat → AV} (hi : i < n) : (topR n C)[i]? = some (C i) := by simp [topR, hi]
theorem topR_getE {n i : Nat} {C : Nat → AV} (h : i < (topR n C).length) : (topR n C)[i]'h = C i := by simp [topR]
def updC (C : Nat → AV) (i : Nat) (x : AV) : Nat → AV := fun j => if j = i then x else C j
theorem topR_set {n i : Nat} {x : AV} {C : Nat → AV} (hi : i < n) : setCells (topR n C) i [x] = topR n (updC C i x) := by
  simp only [setCells]
  apply List.ext_getElem?
  intro j
  rw [List.getElem?_set]
  by_cases hj : i = j
  · subst hj
    rw [if_pos rfl, if_pos (by rw [topR_len]; exact hi), topR_get hi]; simp [updC]
  · rw [if_neg hj]
    rcases Nat.lt_or_ge j n with h | h
    · rw [topR_get h, topR_get h]; simp [updC, show ¬ j = i by omega]
    · rw [List.getElem?_eq_none (by rw [topR_len]; exact h), List.getElem?_eq_none (by rw [topR_len]; exact h)]
theorem updC_twice {C : Nat → AV} {i : Nat} {x y : AV} : updC (updC C i x) i y = updC C i y := by
  funext j; unfold updC; split <;> rfl
theorem updC_self {C : Nat → AV} {i : Nat} : updC C i (C i) = C := by
  funext j; unfold updC; split
  · rename_i e; rw [e]
  · rfl
/-- a square with rows of their own -/
structure MX (n p : Nat) (vs : Nat → Nat) (M : Mat) (A H : Heap) : Prop where
  base : A.length = p
  len : H.length = p + 1 + n
  low : ∀ j, j < p → H[j]? = A[j]?
  top : H[p]? = some (.row 0 (topR n fun i => .vec (p + 1 + i) (vs i) 0 n 1) 0 true)
  row : ∀ i, i < n → H[p + 1 + i]? = some (.row (vs i) (dc n fun j => ((M i j : Nat) : Int)) 0 false)
/-- the row of a square that is being made -/
structure MB (n p a : Nat) (vs : Nat → Nat) (M : Mat) (A X : Heap) : Prop where
  base : A.length = p
  len : X.length = p + 1 + a
  low : ∀ j, j < p → X[j]? = A[j]?
  top : X[p]? = some (.row 0 (topR n fun i => if i < a then .vec (p + 1 + i) (vs i) 0 n 1 else .nils) 0 true)
  row : ∀ i, i < a → X[p + 1 + i]? = some (.row (vs i) (dc n fun j => ((M i j : Nat) : Int)) 0 false)
def start0 : Mat := fun a b => if a = b then 0 else 100
def rowC (b a : Nat) : List Nat := (List.range b).map (start0 a)
theorem rowC_suc {b a : Nat} : rowC (b + 1) a = rowC b a ++ [start0 a b] := by simp [rowC, List.range_succ]
/-- a list of numbers under construction, nothing of it frozen -/
def Gr0 (l : List Nat) (H0 : Heap) (v : AV) (H : Heap) : Prop := (l = [] ∧ v = .nils ∧ H = H0) ∨ ∃ ver, l ≠ [] ∧ v = .vec H0.length ver 0 l.length 1 ∧ H = H0 ++ [.row ver (nats l) 0 false]
theorem Gr0.nat {l : List Nat} {H0 : Heap} {v : AV} {ex : Bool} {x : Nat} (g : Gr0 l H0 v H) (hb : bar ≤ H0.length) (hbase : base ≤ H0.length) (hlen : l.length < 1000)
    (h : ∀ v' H' tc, Gr0 (l ++ [x]) H0 v' H' → K v' H' tc) : appWp base bar 1 8 (some v) (some (.lst 1 ex [.int .i64 (x : Int)])) H K := by
  have e : asrc H 1 (.lst 1 ex [.int .i64 (x : Int)]) = some [.int .i64 (x : Int)] := by rw [asrc_lst]; rfl
  rcases g with ⟨rfl, rfl, rfl⟩ | ⟨ver, hne, rfl, rfl⟩
  · simp [appWp, e, go_sem, aappend, AV.noVec.noVecs, AV.noVec]
    exact h _ _ _ (.inr ⟨0, by simp, by simp, by simp [nats]⟩)
  · have hl : (nats l).length = l.length := nats_len
    have h1 : ¬ 140737488355328 < (l.length + 1) * 8 := by omega
    have h2 : ¬ l.length + 1 ≤ l.length := by omega
    simp [appWp, e, go_sem, aappend, AV.noVec.noVecs, AV.noVec, hl, h1, h2, hb, hbase, List.take_of_length_le (show (nats l).length ≤ l.length by omega)]
    exact h _ _ _ (.inr ⟨ver + 1, by simp, by simp, by simp [nats]⟩)
theorem Gr0.get {l : List Nat} {H0 : Heap} {v : AV} {i : Nat} {b : Blk} (g : Gr0 l H0 v H) (h : H0[i]? = some b) : H[i]? = some b := by
  rcases g with ⟨rfl, rfl, rfl⟩ | ⟨ver, hne, rfl, rfl⟩
  · exact h
  · rw [List.getElem?_append_left (List.getElem?_eq_some_iff.1 h).1]; exact h
theorem Gr0.set {l : List Nat} {H0 : Heap} {v : AV} {i : Nat} {b : Blk} (g : Gr0 l H0 v H) (hi : i < H0.length) : Gr0 l (H0.set i b) v (H.set i b) := by
  rcases g with ⟨rfl, rfl, rfl⟩ | ⟨ver, hne, rfl, rfl⟩
  · exact .inl ⟨rfl, rfl, rfl⟩
  · refine .inr ⟨ver, hne, by simp, ?_⟩
    rw [List.set_append_left _ _ hi]
theorem Gr0.one {l : List Nat} {H0 : Heap} {v : AV} (g : Gr0 l H0 v H) : v.isTup = false ∧ v.cells = [v] := by
  rcases g with ⟨rfl, rfl, rfl⟩ | ⟨ver, hne, rfl, rfl⟩ <;> exact ⟨rfl, rfl⟩
theorem l31a {n p a : Nat} {v1 : AV} {C : Nat → AV} {X : Heap} (hn : n ≤ 9) (ha : a < n) (hpl : p < X.length) (hb : bar ≤ p) (hbase : base ≤ p) {R : PQ} : ∀ (k b : Nat), b + k = n → ∀ (v : AV) (H : Heap), Gr0 (rowC b a) (X.set p (.row 0 (topR n (updC C a v)) 0 true)) v H →
    (∀ v' H', Gr0 (rowC n a) (X.set p (.row 0 (topR n (updC C a v')) 0 true)) v' H' → R (.exit 2) [(1, v1), (3, .vec p 0 0 n 1), (16, .int .i64 (n : Nat)), (17, .int .i64 (a : Nat)), (4, .int .i64 (a : Nat)), (21, .int .i64 (n : Nat)), (22, .int .i64 (n : Nat)), (23, .bool false)] H') →
    Wp E base bar (.loop c31_l0) [(1, v1), (3, .vec p 0 0 n 1), (16, .int .i64 (n : Nat)), (17, .int .i64 (a : Nat)), (4, .int .i64 (a : Nat)), (21, .int .i64 (n : Nat)), (22, .int .i64 (b : Nat))] H R := by
  intro k
  induction k with
  | zero =>
    intro b hb' v H gr h
    obtain rfl : b = n := by omega
    rw [wp_round c31_l0.eq_1]
    simp [go_sem]
    exact h v H gr
  | succ k ih =>
    intro b hb' v H gr h
    have hlt : b < n := by omega
    have hp := Gr0.get gr (i := p) (b := .row 0 (topR n (updC C a v)) 0 true) (by rw [List.getElem?_set_self hpl])
    have hnext := fun v' H' gr' => ih (b + 1) (by omega) v' H' gr' h
    rw [rowC_suc] at hnext
    have hself : updC C a v a = v := by unfold updC; rw [if_pos rfl]
    have hlenr : (rowC b a).length = b := by simp [rowC]
    have hstep : ∀ (x : Nat), x = start0 a b → ∀ {K : AV → Heap → List Nat → Prop} {ex : Bool}, (∀ v' H' tc, H'[p]? = some (.row 0 (topR n (updC C a v)) 0 true) → v'.isTup = false → v'.cells = [v'] → Wp E base bar (.loop c31_l0) [(1, v1), (3, .vec p 0 0 n 1), (16, .int .i64 (n : Nat)), (17, .int .i64 (a : Nat)), (4, .int .i64 (a : Nat)), (21, .int .i64 (n : Nat)), (22, .int .i64 ((b + 1 : Nat) : Int))] (H'.set p (.row 0 (topR n (updC C a v')) 0 true)) R → K v' H' tc) → appWp base bar 1 8 (some v) (some (.lst 1 ex [.int .i64 (x : Int)])) H K := fun x hx K ex hK => by
      refine Gr0.nat gr (by simp; omega) (by simp; omega) (by omega) fun v' H' tc gr' => ?_
      have hp' := Gr0.get gr' (i := p) (b := .row 0 (topR n (updC C a v)) 0 true) (by rw [List.getElem?_set_self hpl])
      have gr2 := Gr0.set gr' (i := p) (b := .row 0 (topR n (updC C a v')) 0 true) (by rw [List.length_set]; exact hpl)
      rw [List.set_set, hx] at gr2
      exact hK v' H' tc hp' (Gr0.one gr').1 (Gr0.one gr').2 (hnext v' _ gr2)
    rw [wp_round c31_l0.eq_1]
    by_cases e : a = b
    · subst e
      have e0 : start0 a a = 0 := by simp [start0]
      simp [go_sem, hlt, aload, hp, topR_len, topR_getE, hself, aop, fillA, setCells, AV.cells, chunks, Ab.part]
      refine hstep 0 e0.symm fun v' H' tc hp' t1 t2 hw => ?_
      simp [go_sem, storeWp, astore, hp', t1, t2, topR_len, hb, hbase, ha, show a + 1 ≤ n from ha, topR_set, updC_twice, i64_suc (show a < 1000000 by omega)]
      exact hw
    · have e0 : start0 a b = 100 := by simp [start0, e]
      have e' : ¬ (a : Int) = (b : Int) := by omega
      simp [go_sem, hlt, ha, aload, hp, topR_len, topR_get, topR_getE, hself, aop, fillA, setCells, AV.cells, chunks, Ab.part, e, e']
      refine hstep 100 e0.symm fun v' H' tc hp' t1 t2 hw => ?_
      simp [go_sem, storeWp, astore, hp', t1, t2, topR_len, hb, hbase, ha, show a + 1 ≤ n from ha, topR_set, updC_twice, i64_suc (show b < 1000000 by omega)]
      exact hw
end Go.Proofs.YtoipleipokpnaaaGreat.Code
end
section
namespace Go.Proofs.YtoipleipokpnaaaGreat.Code
open Go Go.Ab
variable {pure : Bool} {base bar : Nat} {H : Heap} {Q : AV → Heap → Prop} {K : AV → Heap → List Nat → Prop}
theorem set_same {H : Heap} {p : Nat} {b : Blk} (h : H[p]? = some b) : H.set p b = H := by
  apply List.ext_getElem?
  intro j
  rw [List.getElem?_set]
  by_cases e : p = j
  · subst e
    rw [if_pos rfl, if_pos (List.getElem?_eq_some_iff.1 h).1, h]
  · rw [if_neg e]
theorem rowC_dc {n a : Nat} : nats (rowC n a) = dc n fun j => ((start0 a j : Nat) : Int) := by
  simp [nats, rowC, dc, Function.comp_def]
/-- row by row -/
theorem l31b {n p : Nat} {v1 : AV} {q : AV} {A : Heap} (hn : n ≤ 9) (h1 : 1 ≤ n) (hv1 : v1 = .ptr p 0 0) (hA : A[p]? = some (.row 0 [.int .i64 (n : Nat), q] 0 true)) (hAl : A.length = p + 1) (hb : bar ≤ p + 1) (hbase : base ≤ p + 1) {R : PQ} : ∀ (k a : Nat), a + k = n → ∀ (vs : Nat → Nat) (X : Heap), MB n (p + 1) a vs start0 A X →
    (∀ vs' H', MX n (p + 1) vs' start0 A H' → R (.exit 0) [(1, v1), (3, .vec (p + 1) 0 0 n 1), (16, .int .i64 (n : Nat)), (17, .int .i64 (n : Nat)), (18, .bool false)] H') →
    Wp E base bar (.loop c31_l1) [(1, v1), (3, .vec (p + 1) 0 0 n 1), (16, .int .i64 (n : Nat)), (17, .int .i64 (a : Nat))] X R := by
  intro k
  induction k with
  | zero =>
    intro a ha vs X hX h
    obtain rfl : a = n := by omega
    rw [wp_round c31_l1.eq_1]
    simp [go_sem]
    refine h vs X ⟨hX.base, by rw [hX.len], hX.low, ?_, hX.row⟩
    rw [hX.top]
    have : topR a (fun i => if i < a then AV.vec (p + 1 + 1 + i) (vs i) 0 a 1 else .nils) = topR a fun i => .vec (p + 1 + 1 + i) (vs i) 0 a 1 := by
      unfold topR
      refine List.map_congr_left fun i hi => ?_
      rw [if_pos (List.mem_range.1 hi)]
    rw [this]
  | succ k ih =>
    intro a ha vs X hX h
    have hlt : a < n := by omega
    subst hv1
    have hp : X[p]? = some (.row 0 [.int .i64 (n : Nat), q] 0 true) := by rw [hX.low p (by omega)]; exact hA
    have hXl := hX.len
    have hC : updC (fun i => if i < a then AV.vec (p + 1 + 1 + i) (vs i) 0 n 1 else .nils) a .nils = fun i => if i < a then AV.vec (p + 1 + 1 + i) (vs i) 0 n 1 else .nils := by
      have := updC_self (C := fun i => if i < a then AV.vec (p + 1 + 1 + i) (vs i) 0 n 1 else .nils) (i := a)
      simpa using this
    have la := fun {R : PQ} hR => l31a (R := R) (base := base) (bar := bar) (v1 := .ptr p 0 0) (C := fun i => if i < a then AV.vec (p + 1 + 1 + i) (vs i) 0 n 1 else .nils) (X := X) (p := p + 1) hn hlt (by omega) hb hbase n 0 (by omega) .nils X (by
      rw [hC, set_same hX.top]
      exact .inl ⟨rfl, rfl, rfl⟩) hR
    rw [wp_round c31_l1.eq_1]
    simp [go_sem, hlt, aload, hp, Ab.part]
    refine la fun v' H' g => ?_
    have hne : rowC n a ≠ [] := fun e => by
      have := congrArg List.length e
      simp [rowC] at this; omega
    have hrl : (rowC n a).length = n := by simp [rowC]
    rcases g with ⟨e, _, _⟩ | ⟨ver, _, hv', hH'⟩
    · exact absurd e hne
    · rw [List.length_set, hrl, hXl] at hv'
      have hMB : MB n (p + 1) (a + 1) (fun i => if i = a then ver else vs i) start0 A H' := by
        refine ⟨hX.base, by rw [hH']; simp; omega, fun j hj => ?_, ?_, fun i hi => ?_⟩
        · rw [hH', List.getElem?_append_left (by simp; omega), List.getElem?_set_ne (by omega)]
          exact hX.low j hj
        · rw [hH', List.getElem?_append_left (by simp; omega), List.getElem?_set_self (by omega)]
          have : (updC (fun i => if i < a then AV.vec (p + 1 + 1 + i) (vs i) 0 n 1 else .nils) a v') = fun i => if i < a + 1 then AV.vec (p + 1 + 1 + i) (if i = a then ver else vs i) 0 n 1 else .nils := by
            funext i
            unfold updC
            by_cases e : i = a
            · subst e; rw [if_pos rfl, if_pos (by omega), if_pos rfl, hv']
            · rw [if_neg e, if_neg e]
              by_cases e2 : i < a
              · have e3 : i < a + 1 := by omega
                simp [e2, e3]
              · have e3 : ¬ i < a + 1 := by omega
                simp [e2, e3]
          rw [this]
        · by_cases e : i = a
          · subst e
            rw [if_pos rfl, hH', List.getElem?_append_right (by simp; omega)]
            simp [hXl, rowC_dc]
          · rw [if_neg e, hH', List.getElem?_append_left (by simp; omega), List.getElem?_set_ne (by omega)]
            exact hX.row i (by omega)
      simp [go_sem, i64_suc (show a < 1000000 by omega)]
      exact ih (a + 1) (by omega) _ H' hMB h
/-- a number of the square is set -/
theorem MX.set {n p i j v : Nat} {vs : Nat → Nat} {M : Mat} {A : Heap} (h : MX n p vs M A H) (hi : i < n) : MX n p vs (up2 M i j v) A (H.set (p + 1 + i) (.row (vs i) (dc n (updZ (fun j => ((M i j : Nat) : Int)) j (v : Int))) 0 false)) := by
  have hl := h.len
  refine ⟨h.base, by rw [List.length_set]; exact hl, fun k hk => ?_, ?_, fun k hk => ?_⟩
  · rw [List.getElem?_set_ne (by omega)]; exact h.low k hk
  · rw [List.getElem?_set_ne (by omega)]; exact h.top
  · by_cases e : k = i
    · subst e
      rw [List.getElem?_set_self (by omega)]
      congr 3
      funext j'
      unfold updZ up2
      by_cases e2 : j' = j
      · subst e2; simp
      · simp [e2]
    · rw [List.getElem?_set_ne (by omega), h.row k hk]
      congr 3
      funext j'
      unfold up2
      rw [if_neg (fun e' => e e'.1)]
end Go.Proofs.YtoipleipokpnaaaGreat.Code
end
section
namespace Go.Proofs.YtoipleipokpnaaaGreat.Code
open Go Go.Ab
variable {pure : Bool} {base bar : Nat} {H : Heap} {Q : AV → Heap → Prop} {K : AV → Heap → List Nat → Prop}
theorem dc_set' {n i : Nat} {x : Int} {D : Nat → Int} (hi : i < n) : (dc n D).set i (.int .i64 x) = dc n (updZ D i x) := dc_set hi
abbrev cRow (M : Mat) (i : Nat) : Nat → Int := fun j => ((M i j : Nat) : Int)
theorem l31c {n p : Nat} {vs : Nat → Nat} {q : AV} {l : List ZZ} {A : Heap} (hq : isP q l) (hl : l.length < 1000) (hn : n ≤ 9) (hv : ∀ p ∈ l, okP n p) (hb : bar ≤ p) (hbase : base ≤ p) {R : PQ} : ∀ (k i : Nat), i + k = l.length → ∀ (M : Mat) (H : Heap), MX n p vs M A H →
    (∀ H', MX n p vs ((l.drop i).foldl tieM M) A H' → R (.exit 4) [(3, .vec p 0 0 n 1), (41, q), (42, .int .i64 (l.length : Nat)), (43, .int .i64 (l.length : Nat)), (44, .bool false)] H') →
    Wp E base bar (.loop c31_l2) [(3, .vec p 0 0 n 1), (41, q), (42, .int .i64 (l.length : Nat)), (43, .int .i64 (i : Nat))] H R := by
  intro k
  induction k with
  | zero =>
    intro i hi M H hX h
    obtain rfl : i = l.length := by omega
    rw [List.drop_length] at h
    rw [wp_round c31_l2.eq_1]
    simp [go_sem]
    exact h H hX
  | succ k ih =>
    intro i hi M H hX h
    have hlt : i < l.length := by omega
    rw [List.drop_eq_getElem_cons hlt, List.foldl_cons] at h
    have hvi := hv _ (List.getElem_mem hlt)
    have hix := fun (H : Heap) (K : AV → Heap → List Nat → Prop) => hq.ix (H := H) (K := K) (k := .i64) hlt
    obtain ⟨⟨x, y⟩, hp⟩ : ∃ p, l[i] = p := ⟨_, rfl⟩
    rw [hp] at hvi h
    simp only [hp, zc] at hix
    obtain ⟨q1, q2, q3, q4, q5⟩ := hvi
    simp only at q1 q2 q3 q4 q5
    obtain ⟨x, rfl⟩ := Int.eq_ofNat_of_zero_le q1
    obtain ⟨y, rfl⟩ := Int.eq_ofNat_of_zero_le q2
    have hx : x < n := by omega
    have hy : y < n := by omega
    have hxy : x ≠ y := by omega
    have hM1 := MX.set (v := 1) (j := y) hX hx
    have hM2 := MX.set (v := 1) (j := x) hM1 hy
    have hnext := ih (i + 1) (by omega) _ _ hM2 h
    have hXl := hX.len
    have g0 : ∀ G : Blk, (H ++ [G])[p]? = some (.row 0 (topR n fun i => .vec (p + 1 + i) (vs i) 0 n 1) 0 true) := fun G => by rw [List.getElem?_append_left (by omega)]; exact hX.top
    have g1 : ∀ (G : Blk), (H ++ [G])[p + 1 + x]? = some (.row (vs x) (dc n (cRow M x)) 0 false) := fun G => by rw [List.getElem?_append_left (by omega)]; exact hX.row x hx
    have s1 : ∀ (b G : Blk), (H ++ [G]).set (p + 1 + x) b = H.set (p + 1 + x) b ++ [G] := fun b G => by rw [List.set_append_left _ _ (by omega)]
    have g2 : ∀ (b G : Blk), (H.set (p + 1 + x) b ++ [G])[p + 1 + y]? = some (.row (vs y) (dc n (cRow M y)) 0 false) := fun b G => by
      rw [List.getElem?_append_left (by rw [List.length_set]; omega), List.getElem?_set_ne (by omega)]; exact hX.row y hy
    have g3 : ∀ (b G : Blk), (H.set (p + 1 + x) b ++ [G])[H.length]? = some G := fun b G => by
      rw [List.getElem?_append_right (by simp)]; simp
    have s2 : ∀ (b c G : Blk), (H.set (p + 1 + x) b ++ [G]).set (p + 1 + y) c = (H.set (p + 1 + x) b).set (p + 1 + y) c ++ [G] := fun b c G => by rw [List.set_append_left _ _ (by rw [List.length_set]; omega)]
    have s3 : ∀ (b c G : Blk), ((H.set (p + 1 + x) b).set (p + 1 + y) c ++ [G]).take H.length = (H.set (p + 1 + x) b).set (p + 1 + y) c := fun b c G => by
      rw [List.take_append_of_le_length (by simp), List.take_of_length_le (by simp)]
    have hqt := hq.top
    rw [wp_round c31_l2.eq_1]
    have c1 : y + 1 ≤ n := hy
    have c2 : x + 1 ≤ n := hx
    have c3 : bar ≤ p + 1 + x := by omega
    have c4 : bar ≤ p + 1 + y := by omega
    have c5 : ¬ H.length = p + 1 + x := by omega
    have c6 : max (p + 1) q.top ≤ H.length := by rw [hqt]; omega
    have d1 : ∀ (D : Nat → Int) (z : Int), (dc n D).set y (.int .i64 z) = dc n (updZ D y z) := fun D z => dc_set' hy
    have d2 : ∀ (D : Nat → Int) (z : Int), (dc n D).set x (.int .i64 z) = dc n (updZ D x z) := fun D z => dc_set' hx
    have hM1r : (up2 M x y 1) y = M y := by
      funext j; unfold up2; rw [if_neg (fun e => hxy e.1.symm)]
    rw [hM1r] at hnext
    simp [go_sem, hlt, hix, aload, setCells, AV.cells, storeWp, astore, AV.isTup, show bar ≤ H.length by omega, Ab.part, g0, g1, topR_len, topR_getE, hx, hy]
    simp [dc_len, c1, c2, c3, c4, d1, d2, s1, g2, s2, c5, c6, s3, i64_suc (show i < 1000000 by omega)]
    exact hnext
end Go.Proofs.YtoipleipokpnaaaGreat.Code
end
section
namespace Go.Proofs.YtoipleipokpnaaaGreat.Code
open Go Go.Ab
variable {pure : Bool} {base bar : Nat} {H : Heap} {Q : AV → Heap → Prop} {K : AV → Heap → List Nat → Prop}
def Le100 (M : Mat) : Prop := ∀ i j, M i j ≤ 100
theorem Le100.step {M : Mat} {k a b : Nat} (h : Le100 M) : Le100 (fwS k a M b) := fun i j => Nat.le_trans fwS_le (h i j)
theorem min_castG {m d : Nat} : (if d < m then (d : Int) else (m : Int)) = ((min m d : Nat) : Int) := by split <;> omega
theorem l31d {n p k0 a : Nat} {vs : Nat → Nat} {v66 v71 : AV} {A : Heap} (hn : n ≤ 9) (hk : k0 < n) (ha : a < n) (hb : bar ≤ p) (hbase : base ≤ p) {R : PQ} : ∀ (k b : Nat), b + k = n → ∀ (M : Mat) (H : Heap), Le100 M → MX n p vs M A H →
    (∀ H', MX n p vs ((List.range' b k).foldl (fwS k0 a) M) A H' → Le100 ((List.range' b k).foldl (fwS k0 a) M) → R (.exit 10) [(3, .vec p 0 0 n 1), (65, .int .i64 (n : Nat)), (66, v66), (9, .int .i64 (k0 : Nat)), (70, .int .i64 (n : Nat)), (71, v71), (10, .int .i64 (a : Nat)), (75, .int .i64 (n : Nat)), (76, .int .i64 (n : Nat)), (77, .bool false)] H') →
    Wp E base bar (.loop c31_l3) [(3, .vec p 0 0 n 1), (65, .int .i64 (n : Nat)), (66, v66), (9, .int .i64 (k0 : Nat)), (70, .int .i64 (n : Nat)), (71, v71), (10, .int .i64 (a : Nat)), (75, .int .i64 (n : Nat)), (76, .int .i64 (b : Nat))] H R := by
  intro k
  induction k with
  | zero =>
    intro b hb' M H hL hX h
    obtain rfl : b = n := by omega
    rw [List.range'_zero] at h
    rw [wp_round c31_l3.eq_1]
    simp [go_sem]
    exact h H hX hL
  | succ k ih =>
    intro b hb' M H hL hX h
    have hlt : b < n := by omega
    rw [List.range'_succ, List.foldl_cons] at h
    have hM1 := MX.set (v := min (M a b) (M a k0 + M k0 b)) (j := b) hX ha
    have hnext := ih (b + 1) (by omega) _ _ (hL.step (k := k0) (a := a) (b := b)) hM1 h
    have hXl := hX.len
    have g0 := hX.top
    have ga := hX.row a ha
    have gk := hX.row k0 hk
    have e1 := hL a k0
    have e2 := hL k0 b
    have e3 := hL a b
    have hw : IntKind.i64.wrap (((M a k0 : Nat) : Int) + ((M k0 b : Nat) : Int)) = ((M a k0 + M k0 b : Nat) : Int) := by rw [Go.IntWalk.i64_in _ (by omega)]; rfl
    have c1 : b + 1 ≤ n := hlt
    have c3 : bar ≤ p + 1 + a := by omega
    have c4 : base ≤ p + 1 + a := by omega
    have d1 : ∀ (D : Nat → Int) (z : Int), (dc n D).set b (.int .i64 z) = dc n (updZ D b z) := fun D z => dc_set' hlt
    have hM1' := hnext
    generalize M a k0 + M k0 b = S at *
    rw [wp_round c31_l3.eq_1]
    simp [go_sem, hlt, aload, g0, ga, gk, topR_len, topR_getE, dc_len, dc_getE, ha, hk, Ab.part]
    simp [go_sem, aop, Opd.ev, hw, min_castG]
    generalize min (M a b) S = z at *
    refine ⟨hlt, ?_⟩
    simp [go_sem, storeWp, astore, ga, AV.isTup, AV.cells, dc_len, c1, c3, c4, d1, i64_suc (show b < 1000000 by omega)]
    exact hM1'
/-- one knot for all -/
theorem l31e {n p k0 : Nat} {vs : Nat → Nat} {v66 : AV} {A : Heap} (hn : n ≤ 9) (hk : k0 < n) (hb : bar ≤ p) (hbase : base ≤ p) {R : PQ} : ∀ (k a : Nat), a + k = n → ∀ (M : Mat) (H : Heap), Le100 M → MX n p vs M A H →
    (∀ H', MX n p vs ((List.range' a k).foldl (fwA n k0) M) A H' → Le100 ((List.range' a k).foldl (fwA n k0) M) → R (.exit 8) [(3, .vec p 0 0 n 1), (65, .int .i64 (n : Nat)), (66, v66), (9, .int .i64 (k0 : Nat)), (70, .int .i64 (n : Nat)), (71, .int .i64 (n : Nat)), (72, .bool false)] H') →
    Wp E base bar (.loop c31_l4) [(3, .vec p 0 0 n 1), (65, .int .i64 (n : Nat)), (66, v66), (9, .int .i64 (k0 : Nat)), (70, .int .i64 (n : Nat)), (71, .int .i64 (a : Nat))] H R := by
  intro k
  induction k with
  | zero =>
    intro a ha M H hL hX h
    obtain rfl : a = n := by omega
    rw [List.range'_zero] at h
    rw [wp_round c31_l4.eq_1]
    simp [go_sem]
    exact h H hX hL
  | succ k ih =>
    intro a ha M H hL hX h
    have hlt : a < n := by omega
    rw [List.range'_succ, List.foldl_cons] at h
    have er : List.range' 0 n = List.range n := List.range_eq_range'.symm
    have ld := fun {R : PQ} {v71 : AV} hR => l31d (R := R) (base := base) (bar := bar) (k0 := k0) (v66 := v66) (v71 := v71) hn hk hlt hb hbase n 0 (by omega) M H hL hX hR
    rw [er] at ld
    rw [wp_round c31_l4.eq_1]
    simp [go_sem, hlt]
    refine ld fun H' hX' hL' => ?_
    have hnext := ih (a + 1) (by omega) _ H' hL' hX' h
    simp [go_sem, i64_suc (show a < 1000000 by omega)]
    exact hnext
theorem l31f {n p : Nat} {vs : Nat → Nat} {A : Heap} (hn : n ≤ 9) (hb : bar ≤ p) (hbase : base ≤ p) {R : PQ} : ∀ (k a : Nat), a + k = n → ∀ (M : Mat) (H : Heap), Le100 M → MX n p vs M A H →
    (∀ H', MX n p vs ((List.range' a k).foldl (fwK n) M) A H' → R (.exit 6) [(3, .vec p 0 0 n 1), (65, .int .i64 (n : Nat)), (66, .int .i64 (n : Nat)), (67, .bool false)] H') →
    Wp E base bar (.loop c31_l5) [(3, .vec p 0 0 n 1), (65, .int .i64 (n : Nat)), (66, .int .i64 (a : Nat))] H R := by
  intro k
  induction k with
  | zero =>
    intro a ha M H hL hX h
    obtain rfl : a = n := by omega
    rw [List.range'_zero] at h
    rw [wp_round c31_l5.eq_1]
    simp [go_sem]
    exact h H hX
  | succ k ih =>
    intro a ha M H hL hX h
    have hlt : a < n := by omega
    rw [List.range'_succ, List.foldl_cons] at h
    have er : List.range' 0 n = List.range n := List.range_eq_range'.symm
    have ld := fun {R : PQ} {v66 : AV} hR => l31e (R := R) (base := base) (bar := bar) (k0 := a) (v66 := v66) hn hlt hb hbase n 0 (by omega) M H hL hX hR
    rw [er] at ld
    rw [wp_round c31_l5.eq_1]
    simp [go_sem, hlt]
    refine ld fun H' hX' hL' => ?_
    have hnext := ih (a + 1) (by omega) _ H' hL' hX' h
    simp [go_sem, i64_suc (show a < 1000000 by omega)]
    exact hnext
/-- the square is frozen -/
theorem frz_rows {n p d : Nat} {vs : Nat → Nat} {M : Mat} (hb : bar ≤ p) : ∀ (L : List Nat) (H : Heap), (∀ i ∈ L, ∃ fz, H[p + 1 + i]? = some (.row (vs i) (dc n (cRow M i)) fz false)) → p < H.length →
    ∃ H', frzsW (Go.Ab.frz (d + 3) bar) H (L.map fun i => .vec (p + 1 + i) (vs i) 0 n 1) = some (L.map fun i => .lst 1 false (dc n (cRow M i)), H') ∧ H'.length = H.length ∧ ∀ j, j ≤ p → H'[j]? = H[j]?
  | [], H, _, _ => ⟨H, rfl, rfl, fun _ _ => rfl⟩
  | a :: L, H, h, hp => by
    obtain ⟨fz, ha⟩ := h a (List.mem_cons_self ..)
    have e1 := frz_vec (d := d + 2) (bar := bar) (H := H) (id := p + 1 + a) (ver := vs a) (off := 0) (len := n) (sz := 1) (cs := dc n (cRow M a)) (fz := fz) (ex := false) (xs := dc n (cRow M a)) (H' := H.set (p + 1 + a) (.row (vs a) (dc n (cRow M a)) (max fz (0 + n)) false)) ha (by simp [dc_len]) (by omega) (by
      have e1 : ((dc n (cRow M a)).drop 0).take (n * 1) = dc n (cRow M a) := by
        rw [List.drop_zero, Nat.mul_one, List.take_of_length_le (by rw [dc_len]; exact Nat.le_refl _)]
      rw [e1, plains dc_plain, Nat.mul_one])
    have e2 : chunks 1 n (dc n (cRow M a)) = dc n (cRow M a) := by have := chunks_one (l := dc n (cRow M a)); rwa [dc_len] at this
    rw [e2] at e1
    have hal := (List.getElem?_eq_some_iff.1 ha).1
    obtain ⟨H', f1, f2, f3⟩ := frz_rows (d := d) hb L (H.set (p + 1 + a) (.row (vs a) (dc n (cRow M a)) (max fz (0 + n)) false)) (fun i hi => by
      by_cases e : i = a
      · subst e; exact ⟨_, List.getElem?_set_self hal⟩
      · obtain ⟨fz', hi'⟩ := h i (List.mem_cons_of_mem _ hi)
        exact ⟨fz', by rw [List.getElem?_set_ne (by omega)]; exact hi'⟩) (by simpa using hp)
    refine ⟨H', ?_, by rw [f2, List.length_set], fun j hj => by rw [f3 j hj, List.getElem?_set_ne (by omega)]⟩
    rw [List.map_cons, frzsW, e1]
    simp only [f1]
    rfl
end Go.Proofs.YtoipleipokpnaaaGreat.Code
end
section
namespace Go.Proofs.YtoipleipokpnaaaGreat.Code
open Go Go.Ab
variable {pure : Bool} {base bar : Nat} {H : Heap} {Q : AV → Heap → Prop} {K : AV → Heap → List Nat → Prop}
/-- a square that can be read -/
def isSq (v : AV) (n : Nat) (M : Mat) : Prop := v = .lst 1 false ((List.range n).map fun i => .lst 1 false (dc n (cRow M i)))
theorem isSq.len {v : AV} {n : Nat} {M : Mat} (h : isSq v n M) : lenWp (some v) H K = K (.int .i64 (n : Int)) H [] := by
  subst h; rw [lenWp_lst]; simp
theorem isSq.frz {v : AV} {n : Nat} {M : Mat} (h : isSq v n M) {d : Nat} : Go.Ab.frz (d + 1) bar H v = some (v, H) := by subst h; rfl
theorem isSq.top {v : AV} {n : Nat} {M : Mat} (h : isSq v n M) : v.top = 0 := by
  subst h
  rw [top_lst]
  exact tops_zero fun x hx => by
    obtain ⟨i, _, rfl⟩ := List.mem_map.1 hx
    rw [top_lst]; exact dc_tops
theorem isSq.isTup {v : AV} {n : Nat} {M : Mat} (h : isSq v n M) : v.isTup = false := by subst h; rfl
theorem isSq.cells {v : AV} {n : Nat} {M : Mat} (h : isSq v n M) : v.cells = [v] := by subst h; rfl
theorem isSq.ix {v : AV} {n : Nat} {M : Mat} (h : isSq v n M) {i : Nat} {k : IntKind} (hi : i < n) : ixaSWp 1 (some v) (some (.int k (i : Int))) H K = K (.fp (.lst 1 false (dc n (cRow M i)))) H [] := by
  subst h
  rw [ixaSWp_lst]
  simp [hi, valWp_some]
theorem start_le : ∀ {l : List ZZ} {M : Mat}, Le100 M → Le100 (l.foldl tieM M)
  | [], _, h => h
  | p :: r, M, h => by
    rw [List.foldl_cons]
    refine start_le fun i j => ?_
    unfold tieM up2
    split
    · omega
    · split
      · omega
      · exact h i j
/-- far -/
theorem k31 {n : Nat} {q : AV} {l : List ZZ} (hq : isP q l) (hl : l.length < 1000) (hn : n ≤ 9) (h1 : 1 ≤ n) (hv : ∀ p ∈ l, okP n p) (hbar : bar ≤ H.length)
    (h : ∀ u, isSq u n (farF n l) → Q u H) : WpCall E pure base bar 31 [.agg [.int .i64 (n : Nat), q]] H Q := by
  rw [call31]
  have e0 : frzAll bar H [.agg [.int .i64 (n : Nat), q]] = some ([.agg [.int .i64 (n : Nat), q]], H) := by simp [frzAll, frz.frzs, frzsW, frz_agg, frz_int, hq.frz]
  rw [e0]
  have hb' : (if pure = true then H.length else bar) ≤ H.length := bar_if hbar
  have hz : List.flatten (List.replicate n [AV.nils]) = topR n fun _ => .nils := by
    simp [topR, List.flatten_replicate_singleton, List.map_const']
  have hbd : n * 24 ≤ 140737488355328 := by omega
  have hMB : MB n (H.length + 1) 0 (fun _ => 0) start0 (H ++ [.row 0 [.int .i64 (n : Nat), q] 0 true]) (H ++ [.row 0 [.int .i64 (n : Nat), q] 0 true, .row 0 (topR n fun _ => .nils) 0 true]) := by
    refine ⟨by simp, by simp, fun j hj => ?_, by simp, fun i hi => by omega⟩
    rw [show H ++ [Blk.row 0 [.int .i64 (n : Nat), q] 0 true, .row 0 (topR n fun _ => .nils) 0 true] = (H ++ [Blk.row 0 [.int .i64 (n : Nat), q] 0 true]) ++ [.row 0 (topR n fun _ => .nils) 0 true] by simp]
    rw [List.getElem?_append_left (by simp; omega)]
  have hL0 : Le100 start0 := fun i j => by unfold start0; split <;> omega
  have lb := fun {R : PQ} hb hbase hR => l31b (R := R) (base := H.length) (bar := if pure = true then H.length else bar) (p := H.length) (v1 := .ptr H.length 0 0) (q := q) (A := H ++ [.row 0 [.int .i64 (n : Nat), q] 0 true]) hn h1 rfl (by simp) (by simp) hb hbase n 0 (by omega) (fun _ => 0) _ hMB hR
  simp [go_sem, WpFun, c31, hq.isTup, hq.cells, aload, AV.isTup, AV.cells, Ab.part, aop, AV.asNat, hz, hbd]
  refine lb (by omega) (by omega) fun vs H1 hX => ?_
  have hp1 : H1[H.length]? = some (.row 0 [.int .i64 (n : Nat), q] 0 true) := by rw [hX.low H.length (by omega)]; simp
  have lc := fun {R : PQ} hb hbase hR => l31c (R := R) (base := H.length) (bar := if pure = true then H.length else bar) (p := H.length + 1) (vs := vs) hq hl hn hv hb hbase l.length 0 (by omega) start0 H1 hX hR
  rw [List.drop_zero] at lc
  simp [go_sem, aload, hp1, Ab.part, hq.len]
  refine lc (by omega) (by omega) fun H2 hX2 => ?_
  have lff := fun {R : PQ} hb hbase hR => l31f (R := R) (base := H.length) (bar := if pure = true then H.length else bar) (p := H.length + 1) (vs := vs) hn hb hbase n 0 (by omega) _ H2 (start_le hL0) hX2 hR
  rw [← List.range_eq_range'] at lff
  simp [go_sem]
  refine lff (by omega) (by omega) fun H3 hX3 => ?_
  have eF : (List.range n).foldl (fwK n) (l.foldl tieM start0) = farF n l := rfl
  rw [eF] at hX3
  have hlen := hX3.len
  obtain ⟨H4, r1, r2, r3⟩ := frz_rows (bar := if pure = true then H.length else bar) (p := H.length + 1) (d := 4) (n := n) (vs := vs) (M := farF n l) (by omega) (List.range n) (H3.set (H.length + 1) (.row 0 (topR n fun i => .vec (H.length + 1 + 1 + i) (vs i) 0 n 1) (max 0 (0 + n * 1)) true)) (fun i hi => by
    refine ⟨0, ?_⟩
    rw [List.getElem?_set_ne (by omega)]
    exact hX3.row i (List.mem_range.1 hi)) (by rw [List.length_set]; omega)
  have e1 := frz_vec (d := 7) (bar := if pure = true then H.length else bar) (H := H3) (id := H.length + 1) (ver := 0) (off := 0) (len := n) (sz := 1) (cs := topR n fun i => .vec (H.length + 1 + 1 + i) (vs i) 0 n 1) (fz := 0) (ex := true) (xs := (List.range n).map fun i => .lst 1 false (dc n (cRow (farF n l) i))) (H' := H4) hX3.top (by simp [topR_len]) (by omega) (by
    rw [List.drop_zero, Nat.mul_one, List.take_of_length_le (by rw [topR_len]; exact Nat.le_refl _), ← Nat.mul_one n]
    simpa [topR] using r1)
  have e2 : chunks 1 n ((List.range n).map fun i => AV.lst 1 false (dc n (cRow (farF n l) i))) = (List.range n).map fun i => AV.lst 1 false (dc n (cRow (farF n l) i)) := by
    have := chunks_one (l := (List.range n).map fun i => AV.lst 1 false (dc n (cRow (farF n l) i)))
    simpa using this
  rw [e2] at e1
  have hu : isSq (.lst 1 false ((List.range n).map fun i => .lst 1 false (dc n (cRow (farF n l) i)))) n (farF n l) := rfl
  have e3 : H4.take H.length = H := take_same (by rw [r2, List.length_set]; omega) fun j hj => by
    rw [r3 j (by omega), List.getElem?_set_ne (by omega), hX3.low j (by omega), List.getElem?_append_left hj]
  have hk := h _ hu
  simp [go_sem, e1, hu.top, tops_cons, tops_nil, e3]
  exact hk
end Go.Proofs.YtoipleipokpnaaaGreat.Code
end
section
namespace Go.Proofs.YtoipleipokpnaaaGreat.Code
open Go Go.Ab
variable {pure : Bool} {base bar : Nat} {H : Heap} {Q : AV → Heap → Prop} {K : AV → Heap → List Nat → Prop}
/-! the greatest number of a list -/
theorem l71x {v : AV} {L : List Nat} (hL : isL v L) (hl : L.length < 1000) {R : PQ} : ∀ (k i : Nat), i + k = L.length → ∀ m : Nat, m ∈ L → (∀ x ∈ L.take i, x ≤ m) →
    (∀ m', m' ∈ L → (∀ x ∈ L, x ≤ m') → R (.exit 0) [(0, v), (3, .int .i64 (m' : Nat)), (4, .int .i64 (L.length : Nat)), (15, .bool false)] H) →
    Wp E base bar (.loop c71_l0) [(0, v), (3, .int .i64 (m : Nat)), (4, .int .i64 (i : Nat))] H R := by
  have llen := fun (H : Heap) (K : AV → Heap → List Nat → Prop) => hL.len (H := H) (K := K)
  intro k
  induction k with
  | zero =>
    intro i hi m hm hall h
    obtain rfl : i = L.length := by omega
    rw [List.take_length] at hall
    rw [wp_round c71_l0.eq_1]
    simp [go_sem, llen]
    exact h m hm hall
  | succ k ih =>
    intro i hi m hm hall h
    have hlt : i < L.length := by omega
    have hmem := List.getElem_mem hlt
    have htk : L.take (i + 1) = L.take i ++ [L[i]] := by rw [List.take_add_one, List.getElem?_eq_getElem hlt]; rfl
    have hix := fun (H : Heap) (K : AV → Heap → List Nat → Prop) (k : IntKind) => hL.ix (H := H) (K := K) (k := k) hlt
    have hnext := ih (i + 1) (by omega)
    rw [htk] at hnext
    generalize L[i] = x at *
    rw [wp_round c71_l0.eq_1]
    by_cases hx : m < x
    · have hx' : (m : Int) < (x : Int) := by omega
      simp [go_sem, llen, hlt, hix, aload, aop, Opd.evo, hx, hx', i64_suc (show i < 1000000 by omega)]
      refine hnext x hmem (fun y hy => ?_) h
      rcases List.mem_append.1 hy with hy | hy
      · have := hall y hy; omega
      · rw [List.mem_singleton] at hy; omega
    · have hx' : ¬ (m : Int) < (x : Int) := by omega
      simp [go_sem, llen, hlt, hix, aload, aop, Opd.evo, hx, hx', i64_suc (show i < 1000000 by omega)]
      refine hnext m hm (fun y hy => ?_) h
      rcases List.mem_append.1 hy with hy | hy
      · exact hall y hy
      · rw [List.mem_singleton] at hy; omega
theorem k71x {v : AV} {L : List Nat} (hL : isL v L) (hl : L.length < 1000) (h1 : 1 ≤ L.length) (h : ∀ m, m ∈ L → (∀ x ∈ L, x ≤ m) → Q (.int .i64 (m : Nat)) H) : WpCall E pure base bar 71 [v] H Q := by
  rw [call71]
  have e0 : frzAll bar H [v] = some ([v], H) := by simp [frzAll, frz.frzs, frzsW, hL.frz]
  rw [e0]
  obtain ⟨c, r, rfl⟩ : ∃ c r, L = c :: r := by
    cases L with
    | nil => simp at h1
    | cons c r => exact ⟨c, r, rfl⟩
  have hlen : ¬ ((c :: r).length : Int) < 1 := by rw [List.length_cons]; omega
  have llen := fun (H : Heap) (K : AV → Heap → List Nat → Prop) => hL.len (H := H) (K := K)
  have hix := fun (H : Heap) (K : AV → Heap → List Nat → Prop) (k : IntKind) => hL.ix0 (H := H) (K := K) (k := k)
  have hmain := fun {R : PQ} hr => l71x (H := H) (base := H.length) (bar := if pure = true then H.length else bar) (R := R) hL hl ((c :: r).length - 1) 1 (by rw [List.length_cons]; omega) c (List.mem_cons_self ..) (fun x hx => by simp at hx; omega) hr
  generalize (c :: r).length = len at *
  simp [go_sem, WpFun, c71, llen, hlen, hix, aload]
  refine hmain fun m' hm' hall => ?_
  have hk := h m' hm' hall
  simp [go_sem]
  exact hk
/-! a set as a map -/
def mks (ks : List Nat) : List (AV × AV) := ks.map fun (k : Nat) => (AV.int .i64 (k : Int), AV.bool true)
def addS (ks : List Nat) (k : Nat) : List Nat := if ks.contains k then ks else ks ++ [k]
theorem mfind_mks {k : Nat} : ∀ {ks : List Nat} {i : Nat}, mfind .i64 (k : Int) (mks ks) i = if ks.contains k then some (some (i + ks.idxOf k, .bool true)) else some none
  | [], i => rfl
  | x :: r, i => by
    simp only [mks, List.map_cons, mfind, if_true]
    by_cases h : k = x
    · subst h; simp
    · have hne : ¬ ((k : Int) = (x : Int)) := by omega
      have ih := mfind_mks (k := k) (ks := r) (i := i + 1)
      rw [if_neg hne]
      rw [show (List.map (fun (k : Nat) => (AV.int .i64 (k : Int), AV.bool true)) r) = mks r from rfl, ih]
      have hb : (x == k) = false := by simpa using fun h' => h h'.symm
      have hb' : (k == x) = false := by simpa using h
      have e1 : (x :: r).contains k = r.contains k := by rw [List.contains_cons, hb', Bool.false_or]
      have e2 : (x :: r).idxOf k = r.idxOf k + 1 := by simp [List.idxOf_cons, hb]
      rw [e1, e2, show i + 1 + r.idxOf k = i + (r.idxOf k + 1) by omega]
theorem mks_set {k : Nat} : ∀ {ks : List Nat}, ks.contains k = true → (mks ks).set (ks.idxOf k) (AV.int .i64 (k : Int), AV.bool true) = mks ks
  | [], h => by simp at h
  | x :: r, h => by
    by_cases hx : x = k
    · subst hx; simp [mks]
    · have hb : (x == k) = false := by simpa using hx
      have hr : r.contains k = true := by
        simp only [List.contains_cons, Bool.or_eq_true, beq_iff_eq] at h
        rcases h with h | h
        · exact (hx h.symm).elim
        · simpa using h
      have := mks_set hr
      simp only [List.idxOf_cons, hb, cond_false, mks, List.map_cons, List.set_cons_succ] at this ⊢
      rw [this]
theorem mupd_mks {base bar id : Nat} {H : Heap} {fr : Ab.Frame} {m k v : Opd} {ks : List Nat} {x : Nat} (hm : m.ev fr = some (.mp id)) (hk : k.ev fr = some (.int .i64 (x : Int))) (hv : v.ev fr = some (.bool true)) (hb : bar ≤ id) (hH : H[id]? = some (.map (mks ks))) :
    aop base bar (.mupd m k v) fr H = some (.tup [], H.set id (.map (mks (addS ks x))), [id]) := by
  simp only [aop, hm, hk, hv, hH, mfind_mks]
  have hnv : ¬ ¬ (AV.top (.bool true) = 0 ∧ AV.isTup (.bool true) = false ∧ bar ≤ id) := by simp [hb, AV.top, AV.isTup]
  rw [if_neg hnv]
  cases hc : ks.contains x
  · have e : addS ks x = ks ++ [x] := by unfold addS; rw [hc]; rfl
    rw [e]; simp [mks]
  · have e : addS ks x = ks := by unfold addS; rw [hc]; rfl
    rw [e]
    simp only [if_true, Nat.zero_add]
    rw [mks_set hc]
theorem mupd_wp {base bar id : Nat} {H : Heap} {fr : Ab.Frame} {m k v : Opd} {ks : List Nat} {x : Nat} {K : AV → Heap → List Nat → Prop} (hm : m.ev fr = some (.mp id)) (hk : k.ev fr = some (.int .i64 (x : Int))) (hv : v.ev fr = some (.bool true)) (hb : bar ≤ id) (hH : H[id]? = some (.map (mks ks)))
    (h : K (.tup []) (H.set id (.map (mks (addS ks x)))) [id]) : opWp (aop base bar (.mupd m k v) fr H) K := by
  rw [mupd_mks hm hk hv hb hH]
  exact h
theorem mlook_wp {base bar id : Nat} {H : Heap} {fr : Ab.Frame} {m k : Opd} {ks : List Nat} {x : Nat} {K : AV → Heap → List Nat → Prop} (hm : m.ev fr = some (.mp id)) (hk : k.ev fr = some (.int .i64 (x : Int))) (hH : H[id]? = some (.map (mks ks)))
    (h : K (.bool (ks.contains x)) H []) : opWp (aop base bar (.mlook (.bool false) false m k) fr H) K := by
  have e : aop base bar (.mlook (.bool false) false m k) fr H = some (.bool (ks.contains x), H, []) := by
    simp only [aop, hm, hk, hH, mfind_mks]
    cases ks.contains x <;> rfl
  rw [e]
  exact h
end Go.Proofs.YtoipleipokpnaaaGreat.Code
end
section
namespace Go.Proofs.YtoipleipokpnaaaGreat.Code
open Go Go.Ab
/-! a tie less: two sides -/
end Go.Proofs.YtoipleipokpnaaaGreat.Code
end
section
namespace Go.Proofs.YtoipleipokpnaaaGreat.Code
open Go Go.Ab
/-! ties that differ -/
def sameT (p q : ZZ) : Prop := (p.1 = q.1 ∧ p.2 = q.2) ∨ (p.1 = q.2 ∧ p.2 = q.1)
theorem sameT.symm {p q : ZZ} (h : sameT p q) : sameT q p := by
  rcases h with ⟨h1, h2⟩ | ⟨h1, h2⟩
  · exact .inl ⟨h1.symm, h2.symm⟩
  · exact .inr ⟨h2.symm, h1.symm⟩
theorem tieB_same {n : Nat} {b : List ZZ} {p : ZZ} (hp : okP n p) : tieB b p.1.toNat p.2.toNat = true ↔ ∃ q ∈ b, sameT q p := by
  obtain ⟨q1, q2, _⟩ := hp
  rw [tieB_iff, Int.toNat_of_nonneg q1, Int.toNat_of_nonneg q2]
  constructor
  · rintro (h | h)
    · exact ⟨_, h, .inl ⟨rfl, rfl⟩⟩
    · exact ⟨_, h, .inr ⟨rfl, rfl⟩⟩
  · rintro ⟨⟨c, d⟩, h, ⟨h1, h2⟩ | ⟨h1, h2⟩⟩
    · simp only at h1 h2; subst h1 h2; exact .inl h
    · simp only at h1 h2; subst h1 h2; exact .inr h
theorem errL_iff {n : Nat} : ∀ {r b : List ZZ}, errL n b r = 0 ↔ (∀ p ∈ r, okP n p) ∧ (∀ p ∈ r, ∀ q ∈ b, ¬ sameT q p) ∧ r.Pairwise fun p q => ¬ sameT p q
  | [], b => by simp [errL]
  | p :: r, b => by
    unfold errL
    by_cases h1 : mayS n p = 0
    · rw [if_neg (by simp [h1])]
      have hp := mayS_ok.1 h1
      cases h2 : tieB b p.1.toNat p.2.toNat with
      | true =>
        rw [if_pos rfl]
        obtain ⟨q, hq, hs⟩ := (tieB_same hp).1 h2
        constructor
        · intro e; cases e
        · rintro ⟨_, h3, _⟩; exact absurd hs (h3 p (List.mem_cons_self ..) q hq)
      | false =>
        rw [if_neg (by decide), errL_iff]
        have h3 : ∀ q ∈ b, ¬ sameT q p := fun q hq hs => by
          have := (tieB_same hp).2 ⟨q, hq, hs⟩
          rw [h2] at this; cases this
        constructor
        · rintro ⟨g1, g2, g3⟩
          refine ⟨fun q hq => ?_, fun q hq c hc => ?_, List.pairwise_cons.2 ⟨fun q hq => g2 q hq p (by simp), g3⟩⟩
          · rcases List.mem_cons.1 hq with rfl | hq
            · exact hp
            · exact g1 q hq
          · rcases List.mem_cons.1 hq with rfl | hq
            · exact h3 c hc
            · exact g2 q hq c (List.mem_append_left _ hc)
        · rintro ⟨g1, g2, g3⟩
          obtain ⟨g4, g5⟩ := List.pairwise_cons.1 g3
          refine ⟨fun q hq => g1 q (List.mem_cons_of_mem _ hq), fun q hq c hc => ?_, g5⟩
          rcases List.mem_append.1 hc with hc | hc
          · exact g2 q (List.mem_cons_of_mem _ hq) c hc
          · rw [List.mem_singleton.1 hc]; exact g4 q hq
    · rw [if_pos h1]
      constructor
      · intro e; exact absurd e h1
      · rintro ⟨g1, _⟩; exact absurd (mayS_ok.2 (g1 p (List.mem_cons_self ..))) h1
/-- trees: no tie twice, a tie less than knots, all joined -/
structure Tre (n : Nat) (l : List ZZ) : Prop where
  one : 1 ≤ n
  nine : n ≤ 9
  ok : ∀ p ∈ l, okP n p
  dis : l.Pairwise fun p q => ¬ sameT p q
  len : l.length < n
  conn : Conn n l
theorem Tre.errL {n : Nat} {l : List ZZ} (h : Tre n l) : errL n [] l = 0 := errL_iff.2 ⟨h.ok, (fun _ _ _ hq => by cases hq), h.dis⟩
theorem Tre.errT {n : Nat} {l : List ZZ} (h : Tre n l) : errT n l = 0 := by
  have h1 := h.one
  have h2 := h.nine
  have h3 := h.len
  unfold Code.errT
  rw [if_neg (by simp; omega), if_neg (by simp [h.errL]), if_neg (by simp; omega), if_pos (by simpa using h.conn)]
theorem tre_of {n : Nat} {l : List ZZ} (h : Code.errT n l = 0) : Tre n l := by
  obtain ⟨m, em, h1, h9, hv, hE, hlen, hc⟩ := errT_ok h
  obtain rfl : n = m := by omega
  exact ⟨h1, h9, hv, (errL_iff.1 hE).2.2, hlen, hc⟩
theorem Tre.tm {n : Nat} {l : List ZZ} (h : Tre n l) : ∃ D, TM (fun x => x < n) (tieB l) D ∧ ∀ x y, x < n → y < n → D x y < n := by
  obtain ⟨w', k1, _⟩ := wd_sum h.nine (r := l) Wd.nil h.errL (by simp [bitsN_zero, Sm_zero])
  rw [List.nil_append] at k1
  exact tree_tm h.nine h.one k1 h.errL h.len h.conn
theorem erase_mem {l : List ZZ} {k : Nat} (hk : k < l.length) : l = l.take k ++ l[k] :: l.drop (k + 1) := by
  rw [← List.drop_eq_getElem_cons hk, List.take_append_drop]
def lessT (l : List ZZ) (k : Nat) : List ZZ := l.take k ++ l.drop (k + 1)
theorem lessT_sub {l : List ZZ} {k : Nat} : (lessT l k).Sublist l := by
  unfold lessT
  conv => rhs; rw [← List.take_append_drop k l]
  refine List.Sublist.append (List.Sublist.refl _) ?_
  rw [show k + 1 = 1 + k by omega, ← List.drop_drop]
  have := List.drop_sublist 1 (l.drop k)
  simpa [List.drop_drop, Nat.add_comm] using this
theorem lessT_len {l : List ZZ} {k : Nat} (hk : k < l.length) : (lessT l k).length + 1 = l.length := by
  unfold lessT
  rw [List.length_append, List.length_take, List.length_drop]; omega
end Go.Proofs.YtoipleipokpnaaaGreat.Code
end
section
namespace Go.Proofs.YtoipleipokpnaaaGreat.Code
open Go Go.Ab
/-! tidy ties in order -/
def ltZ (p q : ZZ) : Prop := p.1 < q.1 ∨ (p.1 = q.1 ∧ p.2 < q.2)
theorem ltZ.irr {p : ZZ} : ¬ ltZ p p := by unfold ltZ; omega
theorem ltZ.trans {p q r : ZZ} (h1 : ltZ p q) (h2 : ltZ q r) : ltZ p r := by unfold ltZ at *; omega
theorem ltZ.asymm {p q : ZZ} (h1 : ltZ p q) (h2 : ltZ q p) : False := ltZ.irr (h1.trans h2)
/-- lists in strict order with the same members are the same -/
theorem sort_unique : ∀ {L M : List ZZ}, L.Pairwise ltZ → M.Pairwise ltZ → (∀ p, p ∈ L ↔ p ∈ M) → L = M
  | [], [], _, _, _ => rfl
  | [], q :: M, _, _, h => by have := (h q).2 (List.mem_cons_self ..); cases this
  | p :: L, [], _, _, h => by have := (h p).1 (List.mem_cons_self ..); cases this
  | p :: L, q :: M, hL, hM, h => by
    obtain ⟨l1, l2⟩ := List.pairwise_cons.1 hL
    obtain ⟨m1, m2⟩ := List.pairwise_cons.1 hM
    have e : p = q := by
      rcases List.mem_cons.1 ((h p).1 (List.mem_cons_self ..)) with e | e
      · exact e
      · rcases List.mem_cons.1 ((h q).2 (List.mem_cons_self ..)) with e' | e'
        · exact e'.symm
        · exact (ltZ.asymm (l1 q e') (m1 p e)).elim
    subst e
    congr 1
    refine sort_unique l2 m2 fun r => ?_
    constructor
    · intro hr
      rcases List.mem_cons.1 ((h r).1 (List.mem_cons_of_mem _ hr)) with e' | e'
      · subst e'; exact (ltZ.irr (l1 r hr)).elim
      · exact e'
    · intro hr
      rcases List.mem_cons.1 ((h r).2 (List.mem_cons_of_mem _ hr)) with e' | e'
      · subst e'; exact (ltZ.irr (m1 r hr)).elim
      · exact e'
theorem mem_rowT {f : Nat → Nat → Bool} {a : Nat} {p : ZZ} : p ∈ rowT f a ↔ ∃ b : Nat, p = ((a : Int), (b : Int)) ∧ b < 9 ∧ a < b ∧ f a b = true := by
  unfold rowT
  constructor
  · intro h
    obtain ⟨b, hb, rfl⟩ := List.mem_map.1 h
    obtain ⟨h1, h2⟩ := List.mem_filter.1 hb
    simp only [Bool.and_eq_true, decide_eq_true_eq] at h2
    exact ⟨b, rfl, List.mem_range.1 h1, h2.2, h2.1⟩
  · rintro ⟨b, rfl, h1, h2, h3⟩
    exact List.mem_map.2 ⟨b, List.mem_filter.2 ⟨List.mem_range.2 h1, by simp [h2, h3]⟩, rfl⟩
theorem mem_tidyF {f : Nat → Nat → Bool} {n : Nat} {p : ZZ} : p ∈ tidyF f n ↔ ∃ a b : Nat, p = ((a : Int), (b : Int)) ∧ a < n ∧ b < 9 ∧ a < b ∧ f a b = true := by
  unfold tidyF
  rw [List.mem_flatMap]
  constructor
  · rintro ⟨a, ha, hp⟩
    obtain ⟨b, rfl, h1, h2, h3⟩ := mem_rowT.1 hp
    exact ⟨a, b, rfl, List.mem_range.1 ha, h1, h2, h3⟩
  · rintro ⟨a, b, rfl, h0, h1, h2, h3⟩
    exact ⟨a, List.mem_range.2 h0, mem_rowT.2 ⟨b, rfl, h1, h2, h3⟩⟩
theorem rowT_sorted {f : Nat → Nat → Bool} {a : Nat} : (rowT f a).Pairwise ltZ := by
  unfold rowT
  rw [List.pairwise_map]
  have h : ((List.range 9).filter fun b => f a b && decide (a < b)).Pairwise (· < ·) := (List.pairwise_lt_range).sublist List.filter_sublist
  refine h.imp fun {x y} hxy => .inr ⟨rfl, ?_⟩
  show (x : Int) < (y : Int)
  omega
theorem tidyF_sorted {f : Nat → Nat → Bool} : ∀ {n : Nat}, (tidyF f n).Pairwise ltZ
  | 0 => by simp [tidyF]
  | n + 1 => by
    rw [tidyF_suc, List.pairwise_append]
    refine ⟨tidyF_sorted, rowT_sorted, fun p hp q hq => ?_⟩
    obtain ⟨a, b, rfl, h1, _⟩ := mem_tidyF.1 hp
    obtain ⟨c, rfl, _⟩ := mem_rowT.1 hq
    unfold ltZ; simp only; omega
def normT (p : ZZ) : ZZ := (min p.1 p.2, max p.1 p.2)
theorem normT_or {p : ZZ} : normT p = p ∨ normT p = (p.2, p.1) := by
  unfold normT
  rcases Int.le_total p.1 p.2 with h | h
  · left; rw [Int.min_eq_left h, Int.max_eq_right h]
  · right; rw [Int.min_eq_right h, Int.max_eq_left h]
theorem normT_same {p q : ZZ} (h : normT p = normT q) : sameT p q := by
  rcases normT_or (p := p) with e1 | e1 <;> rcases normT_or (p := q) with e2 | e2
  · rw [e1, e2] at h; exact .inl ⟨by rw [h], by rw [h]⟩
  · rw [e1, e2] at h; exact .inr ⟨by rw [h], by rw [h]⟩
  · rw [e1, e2] at h
    exact .inr ⟨congrArg Prod.snd h, congrArg Prod.fst h⟩
  · rw [e1, e2] at h
    injection h with h1 h2
    exact .inl ⟨h2, h1⟩
/-- what sorting tidied ties gives -/
theorem tidied_eq {n : Nat} {l L : List ZZ} (ht : Tre n l) (hp : L.Perm (l.map normT)) (hs : L.Pairwise fun p q => ¬ ltZ q p) : L = tidyF (tieB l) n := by
  have hnd : (l.map normT).Nodup := by
    unfold List.Nodup
    rw [List.pairwise_map]
    exact ht.dis.imp fun {p q} h e => h (normT_same e)
  have hnd' : L.Nodup := hp.nodup_iff.2 hnd
  have hst : L.Pairwise ltZ := by
    have := hs.and hnd'
    refine this.imp fun {p q} h => ?_
    obtain ⟨h1, h2⟩ := h
    unfold ltZ at *
    have : ¬ (p.1 = q.1 ∧ p.2 = q.2) := fun e => h2 (Prod.ext e.1 e.2)
    omega
  refine sort_unique hst tidyF_sorted fun p => ?_
  rw [hp.mem_iff, mem_tidyF]
  have h9 := ht.nine
  constructor
  · intro h
    obtain ⟨q, hq, rfl⟩ := List.mem_map.1 h
    obtain ⟨q1, q2, q3, q4, q5⟩ := ht.ok q hq
    obtain ⟨c, d⟩ := q
    simp only at q1 q2 q3 q4 q5
    obtain ⟨c, rfl⟩ := Int.eq_ofNat_of_zero_le q1
    obtain ⟨d, rfl⟩ := Int.eq_ofNat_of_zero_le q2
    rcases Nat.lt_or_ge c d with hcd | hcd
    · exact ⟨c, d, by unfold normT; simp only; rw [Int.min_eq_left (by omega), Int.max_eq_right (by omega)], by omega, by omega, hcd, by rw [tieB_iff]; exact .inl hq⟩
    · exact ⟨d, c, by unfold normT; simp only; rw [Int.min_eq_right (by omega), Int.max_eq_left (by omega)], by omega, by omega, by omega, by rw [tieB_iff]; exact .inr hq⟩
  · rintro ⟨a, b, rfl, h1, h2, h3, h4⟩
    rw [tieB_iff] at h4
    rw [List.mem_map]
    rcases h4 with h4 | h4
    · exact ⟨_, h4, by unfold normT; simp only; rw [Int.min_eq_left (by omega), Int.max_eq_right (by omega)]⟩
    · exact ⟨_, h4, by unfold normT; simp only; rw [Int.min_eq_right (by omega), Int.max_eq_left (by omega)]⟩
theorem tidyF_tie {n : Nat} {f : Nat → Nat → Bool} (hs : ∀ a b, f a b = f b a) (hin : ∀ a b, f a b = true → a < n ∧ b < n ∧ a ≠ b) (hn : n ≤ 9) (u v : Nat) : tieB (tidyF f n) u v = f u v := by
  rw [Bool.eq_iff_iff, tieB_iff, mem_tidyF, mem_tidyF]
  constructor
  · rintro (⟨a, b, e, h1, h2, h3, h4⟩ | ⟨a, b, e, h1, h2, h3, h4⟩)
    · injection e with e1 e2
      obtain rfl : u = a := by omega
      obtain rfl : v = b := by omega
      exact h4
    · injection e with e1 e2
      obtain rfl : v = a := by omega
      obtain rfl : u = b := by omega
      rw [hs]; exact h4
  · intro h
    obtain ⟨h1, h2, h3⟩ := hin u v h
    rcases Nat.lt_or_ge u v with e | e
    · exact .inl ⟨u, v, rfl, h1, by omega, e, h⟩
    · exact .inr ⟨v, u, rfl, h2, by omega, by omega, by rw [hs]; exact h⟩
theorem Tre.inn {n : Nat} {l : List ZZ} (h : Tre n l) : ∀ a b, tieB l a b = true → a < n ∧ b < n ∧ a ≠ b := fun a b hab => tieB_lt h.ok hab
theorem Rch.congr {f g : Nat → Nat → Bool} (h : ∀ a b, f a b = g a b) {x y : Nat} (hr : Rch f x y) : Rch g x y := by
  obtain rfl : f = g := funext fun a => funext fun b => h a b
  exact hr
/-- the tidy tree is a tree -/
theorem Tre.tidy {n : Nat} {l : List ZZ} (h : Tre n l) (hlen : (tidyF (tieB l) n).length = l.length) : Tre n (tidyF (tieB l) n) := by
  have ht := tidyF_tie (fun a b => tieB_symm) h.inn h.nine
  refine ⟨h.one, h.nine, fun p hp => ?_, tidyF_sorted.imp_of_mem fun {p q} hp hq hlt hs => ?_, by rw [hlen]; exact h.len, fun x hx => (h.conn x hx).congr fun a b => (ht a b).symm⟩
  · obtain ⟨a, b, rfl, h1, h2, h3, h4⟩ := mem_tidyF.1 hp
    obtain ⟨g1, g2, g3⟩ := h.inn a b h4
    exact ⟨by simp, by simp, by simp only; omega, by simp only; omega, by simp only; omega⟩
  · obtain ⟨a, b, rfl, h1, h2, h3, h4⟩ := mem_tidyF.1 hp
    obtain ⟨c, d, rfl, g1, g2, g3, g4⟩ := mem_tidyF.1 hq
    unfold sameT at hs
    unfold ltZ at hlt
    simp only at hs hlt
    omega
/-- insertion sort of the plain kind, for lengths -/
theorem tidyF_length {n : Nat} {l : List ZZ} (h : Tre n l) : (tidyF (tieB l) n).length = l.length := by
  have hp := List.mergeSort_perm (l.map normT) (fun p q => decide (p.1 < q.1 ∨ (p.1 = q.1 ∧ p.2 ≤ q.2)))
  have hs := List.pairwise_mergeSort (le := fun p q : ZZ => decide (p.1 < q.1 ∨ (p.1 = q.1 ∧ p.2 ≤ q.2))) (fun a b c => by simp only [decide_eq_true_eq]; omega) (fun a b => by simp only [Bool.or_eq_true, decide_eq_true_eq]; omega) (l.map normT)
  rw [← tidied_eq h hp (hs.imp fun {p q} hpq hlt => by
    simp only [decide_eq_true_eq] at hpq
    unfold ltZ at hlt
    omega), hp.length_eq, List.length_map]
end Go.Proofs.YtoipleipokpnaaaGreat.Code
end
section
namespace Go.Proofs.YtoipleipokpnaaaGreat.Code
open Go Go.Ab
variable {pure : Bool} {base bar : Nat} {H : Heap} {Q : AV → Heap → Prop} {K : AV → Heap → List Nat → Prop}
/-! comparing lists -/
def cmpI (a b : Int) : Int := if a < b then -1 else if b < a then 1 else 0
theorem k96 {a : Int} (h : Q (.bool false) H) : WpCall E pure base bar 96 [.int .i64 a] H Q := by
  rw [call96]
  simp [go_sem, WpFun, c96]
  exact h
theorem k83 {a b : Int} (h : Q (.int .i64 (cmpI a b)) H) : WpCall E pure base bar 83 [.int .i64 a, .int .i64 b] H Q := by
  unfold cmpI at h
  rw [call83]
  simp [go_sem, WpFun, c83]
  refine k96 ?_
  simp [go_sem]
  refine k96 ?_
  by_cases h1 : a < b
  · rw [if_pos h1] at h
    simp [go_sem, h1]
    exact h
  · rw [if_neg h1] at h
    by_cases h2 : b < a
    · rw [if_pos h2] at h
      simp [go_sem, h1, h2]
      exact h
    · rw [if_neg h2] at h
      simp [go_sem, h1, h2]
      exact h
def cmpV : List Int → List Int → Int
  | [], [] => 0
  | [], _ :: _ => -1
  | _ :: _, [] => 1
  | x :: xs, y :: ys => if cmpI x y ≠ 0 then cmpI x y else cmpV xs ys
theorem l70 {v w : AV} {l m : List Int} (hv : isZ v l) (hw : isZ w m) (hl : l.length < 1000) {R : PQ} : ∀ (k i : Nat), i + k = l.length →
    (R .ret [(4, .int .i64 (cmpV (l.drop i) (m.drop i)))] H) → (l.length ≤ m.length → (l.length < m.length → cmpV (l.drop i) (m.drop i) = -1 → R (.exit 0) [(0, v), (1, w), (9, v), (10, .int .i64 (l.length : Nat)), (11, .int .i64 (l.length : Nat)), (12, .bool false)] H) ∧ (l.length = m.length → cmpV (l.drop i) (m.drop i) = 0 → R (.exit 0) [(0, v), (1, w), (9, v), (10, .int .i64 (l.length : Nat)), (11, .int .i64 (l.length : Nat)), (12, .bool false)] H)) →
    i ≤ m.length →
    Wp E base bar (.loop c70_l0) [(0, v), (1, w), (9, v), (10, .int .i64 (l.length : Nat)), (11, .int .i64 (i : Nat))] H R := by
  intro k
  induction k with
  | zero =>
    intro i hi h1 h2 hm
    obtain rfl : i = l.length := by omega
    rw [List.drop_length] at h2
    rw [wp_round c70_l0.eq_1]
    simp [go_sem]
    by_cases he : l.length = m.length
    · refine (h2 (by omega)).2 he ?_
      rw [he, List.drop_length]; rfl
    · have hlt : l.length < m.length := by omega
      refine (h2 (by omega)).1 hlt ?_
      rw [List.drop_eq_getElem_cons hlt]; rfl
  | succ k ih =>
    intro i hi h1 h2 hm
    have hlt : i < l.length := by omega
    rw [List.drop_eq_getElem_cons hlt] at h1 h2
    have hix := fun (K : AV → Heap → List Nat → Prop) (k : IntKind) => hv.ix (H := H) (K := K) (k := k) hlt
    have hs := i64_suc (show i < 1000000 by omega)
    rw [wp_round c70_l0.eq_1]
    by_cases him : m.length ≤ i
    · have him1 : (m.length : Int) ≤ (i : Int) := by omega
      rw [List.drop_eq_nil_of_le him] at h1
      simp [go_sem, hlt, hix, hw.len, him]
      exact h1
    · have him0 : i < m.length := by omega
      have hjx := fun (K : AV → Heap → List Nat → Prop) (k : IntKind) => hw.ix (H := H) (K := K) (k := k) him0
      rw [List.drop_eq_getElem_cons him0] at h1 h2
      generalize l[i] = x at *
      generalize m[i] = y at *
      simp only [cmpV] at h1 h2
      simp [go_sem, hlt, hix, hw.len, him, hjx]
      refine k83 ?_
      by_cases hc : cmpI x y = 0
      · simp only [hc, ne_eq, not_true_eq_false, if_false] at h1 h2
        have next := ih (i + 1) (by omega) h1 h2 (by omega)
        simp [go_sem, hc, hs]
        exact next
      · rw [if_pos hc] at h1
        simp [go_sem, hc]
        exact h1
theorem k70 {v w : AV} {l m : List Int} (hv : isZ v l) (hw : isZ w m) (hl : l.length < 1000) (h : Q (.int .i64 (cmpV l m)) H) : WpCall E pure base bar 70 [v, w] H Q := by
  rw [call70]
  simp [go_sem, WpFun, c70, hv.frz, hw.frz, hv.len]
  refine l70 hv hw hl l.length 0 (by omega) ?_ (fun hle => ⟨fun h1 h2 => ?_, fun h1 h2 => ?_⟩) (by omega)
  · rw [List.drop_zero, List.drop_zero]
    simp [go_sem]
    exact h
  · rw [List.drop_zero, List.drop_zero] at h2
    rw [h2] at h
    simp [go_sem, hv.len, hw.len, h1]
    exact h
  · rw [List.drop_zero, List.drop_zero] at h2
    rw [h2] at h
    simp [go_sem, hv.len, hw.len, h1]
    exact h
theorem cmp_lt {p q : ZZ} : cmpV [p.1, p.2] [q.1, q.2] < 0 ↔ ltZ p q := by
  unfold ltZ
  simp only [cmpV, cmpI]
  by_cases h1 : p.1 < q.1
  · simp [h1]
  · by_cases h2 : q.1 < p.1
    · simp [h1, h2]; omega
    · have e : p.1 = q.1 := by omega
      by_cases h3 : p.2 < q.2
      · simp [e, h3]
      · by_cases h4 : q.2 < p.2
        · simp [e, h3, h4]
        · simp [e, h3, h4]
theorem frz_two {id ver fz d : Nat} {ex : Bool} {a b : Int} (h : H[id]? = some (.row ver [.int .i64 a, .int .i64 b] fz ex)) (hbar : bar ≤ id) : Go.Ab.frz (d + 3) bar H (.vec id ver 0 2 1) = some (.lst 1 false [.int .i64 a, .int .i64 b], H.set id (.row ver [.int .i64 a, .int .i64 b] (max fz 2) ex)) := by
  have e := frz_vec (d := d + 2) (bar := bar) (H := H) (id := id) (ver := ver) (off := 0) (len := 2) (sz := 1) (cs := [.int .i64 a, .int .i64 b]) (fz := fz) (ex := ex) (xs := [.int .i64 a, .int .i64 b]) (H' := H.set id (.row ver [.int .i64 a, .int .i64 b] (max fz (0 + 2)) ex)) h (by simp) hbar (by
    have : ∀ c ∈ [AV.int .i64 a, AV.int .i64 b], Plain c := fun c hc => by
      simp at hc
      rcases hc with rfl | rfl <;> exact Plain.int
    simpa using plains this)
  exact e
theorem k70v {i j : Nat} {a b c d : Int} (hi : H[i]? = some (.row 0 [.int .i64 a, .int .i64 b] 0 true)) (hj : H[j]? = some (.row 0 [.int .i64 c, .int .i64 d] 0 true)) (hij : i ≠ j) (hbi : bar ≤ i) (hbj : bar ≤ j)
    (h : Q (.int .i64 (cmpV [a, b] [c, d])) ((H.set i (.row 0 [.int .i64 a, .int .i64 b] 2 true)).set j (.row 0 [.int .i64 c, .int .i64 d] 2 true))) : WpCall E pure base bar 70 [.vec i 0 0 2 1, .vec j 0 0 2 1] H Q := by
  have z1 : isZ (.lst 1 false [.int .i64 a, .int .i64 b]) [a, b] := .inr ⟨false, rfl⟩
  have z2 : isZ (.lst 1 false [.int .i64 c, .int .i64 d]) [c, d] := .inr ⟨false, rfl⟩
  have k := k70 (pure := pure) (base := base) (bar := bar) z1 z2 (by simp) h
  have hjl := (List.getElem?_eq_some_iff.1 hj).1
  have f1 := frz_two (d := 5) (bar := bar) hi hbi
  have f2 := frz_two (d := 5) (bar := bar) (H := H.set i (.row 0 [.int .i64 a, .int .i64 b] (max 0 2) true)) (by rw [List.getElem?_set_ne hij]; exact hj) hbj
  have e1 : frzAll bar H [.vec i 0 0 2 1, .vec j 0 0 2 1] = some ([.lst 1 false [.int .i64 a, .int .i64 b], .lst 1 false [.int .i64 c, .int .i64 d]], (H.set i (.row 0 [.int .i64 a, .int .i64 b] 2 true)).set j (.row 0 [.int .i64 c, .int .i64 d] 2 true)) := by
    simp only [frzAll, frz.frzs, frzsW, f1, f2]; rfl
  have e2 : ∀ G, frzAll bar G [.lst 1 false [.int .i64 a, .int .i64 b], .lst 1 false [.int .i64 c, .int .i64 d]] = some ([.lst 1 false [.int .i64 a, .int .i64 b], .lst 1 false [.int .i64 c, .int .i64 d]], G) := fun _ => rfl
  rw [call70, e2] at k
  rw [call70, e1]
  exact k
theorem k69 {p q : ZZ} (hbar : bar ≤ H.length) (h : Q (.int .i64 (cmpV [p.1, p.2] [q.1, q.2])) H) : WpCall E pure base bar 69 [.agg (zc p), .agg (zc q)] H Q := by
  rw [call69]
  have e0 : frzAll bar H [.agg (zc p), .agg (zc q)] = some ([.agg (zc p), .agg (zc q)], H) := by simp [frzAll, frz.frzs, frzsW, zc, frz_agg, frz_int]
  rw [e0]
  have hb' : (if pure = true then H.length else bar) ≤ H.length := bar_if hbar
  simp [go_sem, WpFun, c69, AV.isTup, AV.cells, aop, zc, Opd.evo, aslice, optBound]
  refine k70v (a := p.1) (b := p.2) (c := q.1) (d := q.2) (i := H.length) (j := H.length + 1) (by simp) (by simp) (by omega) (by omega) (by omega) ?_
  simp [go_sem, own_set, own_set0]
  exact h
/-! pairs in a block -/
theorem prs_drop {L : List ZZ} {i : Nat} : (prs L).drop (2 * i) = prs (L.drop i) := by
  induction i generalizing L with
  | zero => simp
  | succ i ih =>
    cases L with
    | nil => simp [prs]
    | cons p r =>
      rw [List.drop_succ_cons, ← ih]
      show ((zc p) ++ prs r).drop (2 * (i + 1)) = _
      rw [show 2 * (i + 1) = (zc p).length + 2 * i by simp [zc]; omega, ← List.drop_drop, List.drop_left]
theorem prs_part {L : List ZZ} {i : Nat} (hi : i < L.length) : Ab.part ⟨true, 2⟩ (prs L) (2 * i) = some (.agg (zc L[i])) := by
  have hl := prs_length (l := L)
  have e : ((prs L).drop (2 * i)).take 2 = zc L[i] := by
    rw [prs_drop, List.drop_eq_getElem_cons hi]
    show (zc L[i] ++ prs _).take 2 = _
    simp [zc]
  have hlt : 2 * i + 2 ≤ (prs L).length := by omega
  simp [Ab.part, e, hlt]
theorem prs_set {L : List ZZ} {i : Nat} {p : ZZ} (hi : i < L.length) : setCells (prs L) (2 * i) (zc p) = prs (L.set i p) := by
  induction i generalizing L with
  | zero =>
    cases L with
    | nil => simp at hi
    | cons q r => simp [prs, setCells, zc]
  | succ i ih =>
    cases L with
    | nil => simp at hi
    | cons q r =>
      have := ih (L := r) (by simpa using hi)
      rw [List.set_cons_succ]
      show setCells (zc q ++ prs r) (2 * (i + 1)) (zc p) = zc q ++ prs (r.set i p)
      rw [← this]
      simp [zc, setCells, show 2 * (i + 1) = 2 * i + 1 + 1 by omega]
end Go.Proofs.YtoipleipokpnaaaGreat.Code
end
