/-
  Part of the proofs about this chapter: contracts of functions, answers of calls, and plain laws.
-/
import Derived.Test.YtoipleipokpnaaaGreatWb
set_option linter.all false
section
namespace Go.Proofs.YtoipleipokpnaaaGreat.Code
open Go Go.Ab
variable {pure : Bool} {base bar : Nat} {H : Heap} {Q : AV → Heap → Prop} {K : AV → Heap → List Nat → Prop}

/-! Count -/
theorem pow_bd {m i : Nat} (hm : m ≤ 9) (hi : i ≤ 7) : m ^ i ≤ 4782969 := by
  have h1 : m ^ i ≤ 9 ^ i := Nat.pow_le_pow_left hm i
  have h2 : 9 ^ i ≤ 9 ^ 7 := Nat.pow_le_pow_right (by decide) hi
  have h3 : 9 ^ 7 = 4782969 := by decide
  omega
theorem pow_step {m i : Nat} (hm : m ≤ 9) (hi : i < 7) : IntKind.i64.wrap (((m ^ i : Nat) : Int) * (m : Int)) = ((m ^ (i + 1) : Nat) : Int) := by
  have h1 := pow_bd hm (show i + 1 ≤ 7 by omega)
  have e : ((m ^ i : Nat) : Int) * (m : Int) = ((m ^ (i + 1) : Nat) : Int) := by rw [Nat.pow_succ]; exact (Int.natCast_mul ..).symm
  rw [e, Go.IntWalk.i64_in _ (by omega)]
theorem l9 {m : Nat} (hm : m ≤ 9) (h2 : 2 ≤ m) {R : PQ} : ∀ (k i : Nat), i + k = m - 2 → ∀ P : Nat, P = m ^ i →
    R (.exit 0) [(0, .int .i64 (m : Nat)), (4, .int .i64 ((m ^ (m - 2) : Nat) : Int)), (9, .int .i64 ((m : Int) - 2)), (10, .int .i64 ((m - 2 : Nat) : Int)), (11, .bool false)] H →
    Wp E base bar (.loop c9_l0) [(0, .int .i64 (m : Nat)), (4, .int .i64 (P : Nat)), (9, .int .i64 ((m : Int) - 2)), (10, .int .i64 (i : Nat))] H R := by
  intro k
  induction k with
  | zero =>
    intro i hi P hP h
    obtain rfl : i = m - 2 := by omega
    rw [← hP] at h
    have hlt : ¬ ((m - 2 : Nat) : Int) < (m : Int) - 2 := by omega
    generalize m - 2 = j at *
    rw [wp_round c9_l0.eq_1]
    simp [go_sem, hlt]
    exact h
  | succ k ih =>
    intro i hi P hP h
    have hlt : (i : Int) < (m : Int) - 2 := by omega
    have e := pow_step hm (show i < 7 by omega)
    rw [← hP] at e
    have hnext := ih (i + 1) (by omega) _ rfl h
    generalize m ^ (i + 1) = P2 at *
    rw [wp_round c9_l0.eq_1]
    simp [go_sem, hlt, e, i64_suc (show i < 1000000 by omega)]
    exact hnext
def cntE (n : Int) : Int := if 1 ≤ n ∧ n ≤ 9 then 0 else 1
def cntV (n : Int) : Nat := if 1 ≤ n ∧ n ≤ 9 then n.toNat ^ (n.toNat - 2) else 0
theorem k9 {n : Int} (h : Q (.tup [.int .i64 (cntV n : Nat), .int .i64 (cntE n)]) H) : WpCall E pure base bar 9 [.int .i64 n] H Q := by
  rw [call9]
  by_cases hr : 1 ≤ n ∧ n ≤ 9
  · obtain ⟨m, rfl⟩ := Int.eq_ofNat_of_zero_le (show 0 ≤ n by omega)
    have hm9 : m ≤ 9 := by omega
    have hr' : (decide (1 ≤ (m : Int)) && decide ((m : Int) ≤ 9)) = true := by simp; omega
    have hi2 : IntKind.i64.wrap ((m : Int) - 2) = (m : Int) - 2 := Go.IntWalk.i64_in _ (by omega)
    unfold cntE cntV at h
    rw [if_pos hr, if_pos hr, Int.toNat_natCast] at h
    simp [go_sem, WpFun, c9, k46, hr', hi2]
    by_cases h2 : 2 ≤ m
    · refine l9 hm9 h2 (m - 2) 0 (by omega) 1 (by simp) ?_
      generalize m ^ (m - 2) = P at *
      simp [go_sem]
      exact h
    · obtain rfl : m = 1 := by omega
      rw [wp_round c9_l0.eq_1]
      simp [go_sem]
      exact h
  · have hr' : (decide (1 ≤ n) && decide (n ≤ 9)) = false := by simpa using hr
    unfold cntE cntV at h
    rw [if_neg hr, if_neg hr] at h
    simp [go_sem, WpFun, c9, k46, hr']
    exact h
theorem l10 {m : Nat} (hm : m ≤ 9) (h2 : 2 ≤ m) {R : PQ} : ∀ (k i : Nat), i + k = m - 2 → ∀ P : Nat, P = m ^ i →
    R (.exit 0) [(0, .int .i64 (m : Nat)), (4, .int .i64 ((m ^ (m - 2) : Nat) : Int)), (5, .int .i64 ((m - 2 : Nat) : Int)), (12, .bool false)] H →
    Wp E base bar (.loop c10_l0) [(0, .int .i64 (m : Nat)), (4, .int .i64 (P : Nat)), (5, .int .i64 (i : Nat))] H R := by
  have hi2 : IntKind.i64.wrap ((m : Int) - 2) = (m : Int) - 2 := Go.IntWalk.i64_in _ (by omega)
  intro k
  induction k with
  | zero =>
    intro i hi P hP h
    obtain rfl : i = m - 2 := by omega
    rw [← hP] at h
    have hlt : ¬ ((m - 2 : Nat) : Int) < (m : Int) - 2 := by omega
    generalize m - 2 = j at *
    rw [wp_round c10_l0.eq_1]
    simp [go_sem, hi2, hlt]
    exact h
  | succ k ih =>
    intro i hi P hP h
    have hlt : (i : Int) < (m : Int) - 2 := by omega
    have e := pow_step hm (show i < 7 by omega)
    rw [← hP] at e
    have hnext := ih (i + 1) (by omega) _ rfl h
    generalize m ^ (i + 1) = P2 at *
    rw [wp_round c10_l0.eq_1]
    simp [go_sem, hi2, hlt, e, i64_suc (show i < 1000000 by omega)]
    exact hnext
theorem k10 {n : Int} (h : Q (.tup [.int .i64 (cntV n : Nat), .int .i64 (cntE n)]) H) : WpCall E pure base bar 10 [.int .i64 n] H Q := by
  rw [call10]
  by_cases hr : 1 ≤ n ∧ n ≤ 9
  · obtain ⟨m, rfl⟩ := Int.eq_ofNat_of_zero_le (show 0 ≤ n by omega)
    have hm9 : m ≤ 9 := by omega
    have hr' : (decide (1 ≤ (m : Int)) && decide ((m : Int) ≤ 9)) = true := by simp; omega
    unfold cntE cntV at h
    rw [if_pos hr, if_pos hr, Int.toNat_natCast] at h
    simp [go_sem, WpFun, c10, k47, hr']
    by_cases h2 : 2 ≤ m
    · refine l10 hm9 h2 (m - 2) 0 (by omega) 1 (by simp) ?_
      generalize m ^ (m - 2) = P at *
      simp [go_sem]
      exact h
    · obtain rfl : m = 1 := by omega
      rw [wp_round c10_l0.eq_1]
      simp [go_sem]
      exact h
  · have hr' : (decide (1 ≤ n) && decide (n ≤ 9)) = false := by simpa using hr
    unfold cntE cntV at h
    rw [if_neg hr, if_neg hr] at h
    simp [go_sem, WpFun, c10, k47, hr']
    exact h

/-! Number -/
def nW (n : Int) (a : Int) (L : List Nat) : Int := L.foldl (fun (a : Int) (k : Nat) => IntKind.i64.wrap (IntKind.i64.wrap (a * n) + (k : Int))) a
theorem l11 {n : Int} {q v ev : AV} {L : List Nat} (hL : isL v L) (hl : L.length < 1000) {R : PQ} : ∀ (k i : Nat), i + k = L.length → ∀ a : Int,
    R (.exit 0) [(1, .ptr H.length 0 0), (5, ev), (6, .int .i64 (nW n a (L.drop i))), (14, v), (15, .int .i64 (L.length : Nat)), (16, .int .i64 (L.length : Nat)), (17, .bool false)] (H ++ [.row 0 [.int .i64 n, q] 0 true]) →
    Wp E H.length bar (.loop c11_l0) [(1, .ptr H.length 0 0), (5, ev), (6, .int .i64 a), (14, v), (15, .int .i64 (L.length : Nat)), (16, .int .i64 (i : Nat))] (H ++ [.row 0 [.int .i64 n, q] 0 true]) R := by
  intro k
  induction k with
  | zero =>
    intro i hi a h
    obtain rfl : i = L.length := by omega
    rw [List.drop_length] at h
    rw [wp_round c11_l0.eq_1]
    simp [go_sem]
    exact h
  | succ k ih =>
    intro i hi a h
    have hlt : i < L.length := by omega
    rw [List.drop_eq_getElem_cons hlt] at h
    have hix := fun (H : Heap) (K : AV → Heap → List Nat → Prop) (k : IntKind) => hL.ix (H := H) (K := K) (k := k) hlt
    have hnext := ih (i + 1) (by omega) (IntKind.i64.wrap (IntKind.i64.wrap (a * n) + (L[i] : Int))) h
    generalize L[i] = x at *
    rw [wp_round c11_l0.eq_1]
    simp [go_sem, hlt, hix, aload, i64_suc (show i < 1000000 by omega)]
    exact hnext
theorem l12 {n : Int} {q v : AV} {L : List Nat} (hL : isL v L) (hl : L.length < 1000) {R : PQ} : ∀ (k i : Nat), i + k = L.length → ∀ a : Int,
    R (.exit 0) [(1, .ptr H.length 0 0), (4, v), (6, .int .i64 (nW n a (L.drop i))), (7, .int .i64 (L.length : Nat)), (19, .bool false)] (H ++ [.row 0 [.int .i64 n, q] 0 true]) →
    Wp E H.length bar (.loop c12_l0) [(1, .ptr H.length 0 0), (4, v), (6, .int .i64 a), (7, .int .i64 (i : Nat))] (H ++ [.row 0 [.int .i64 n, q] 0 true]) R := by
  have llen := fun (H : Heap) (K : AV → Heap → List Nat → Prop) => hL.len (H := H) (K := K)
  intro k
  induction k with
  | zero =>
    intro i hi a h
    obtain rfl : i = L.length := by omega
    rw [List.drop_length] at h
    rw [wp_round c12_l0.eq_1]
    simp [go_sem, llen]
    exact h
  | succ k ih =>
    intro i hi a h
    have hlt : i < L.length := by omega
    rw [List.drop_eq_getElem_cons hlt] at h
    have hix := fun (H : Heap) (K : AV → Heap → List Nat → Prop) (k : IntKind) => hL.ix (H := H) (K := K) (k := k) hlt
    have hnext := ih (i + 1) (by omega) (IntKind.i64.wrap (IntKind.i64.wrap (a * n) + (L[i] : Int))) h
    generalize L[i] = x at *
    rw [wp_round c12_l0.eq_1]
    simp [go_sem, llen, hlt, hix, aload, i64_suc (show i < 1000000 by omega)]
    exact hnext
theorem number_same {n : Int} {q : AV} {l : List ZZ} (hq : isP q l) (hl : l.length < 1000) : ∃ N : Int,
    (∀ (pure : Bool) (base bar : Nat) (H : Heap) (Q : AV → Heap → Prop), bar ≤ H.length → Q (.tup [.int .i64 N, .int .i64 (errT n l)]) H → WpCall E pure base bar 11 [.agg [.int .i64 n, q]] H Q) ∧
    (∀ (pure : Bool) (base bar : Nat) (H : Heap) (Q : AV → Heap → Prop), bar ≤ H.length → Q (.tup [.int .i64 N, .int .i64 (errT n l)]) H → WpCall E pure base bar 12 [.agg [.int .i64 n, q]] H Q) := by
  obtain ⟨L, l1, l2, l3⟩ := write_same (n := n) hq hl
  by_cases he : errT n l = 0
  · refine ⟨nW n 0 L, fun pure base bar H Q hb h => ?_, fun pure base bar H Q hb h => ?_⟩
    · rw [call11]
      have e0 : frzAll bar H [.agg [.int .i64 n, q]] = some ([.agg [.int .i64 n, q]], H) := by simp [frzAll, frz.frzs, frzsW, frz_agg, frz_int, hq.frz]
      rw [e0]
      have hb' : (if pure = true then H.length else bar) ≤ H.length := bar_if hb
      simp [go_sem, WpFun, c11, hq.isTup, hq.cells, aload, AV.isTup, AV.cells]
      refine l2 _ _ _ _ _ (by simp; omega) fun p hp => ?_
      simp [go_sem, hp.len]
      refine l11 hp l1 L.length 0 (by omega) 0 ?_
      rw [List.drop_zero]
      simp [go_sem]
      exact h
    · rw [call12]
      have e0 : frzAll bar H [.agg [.int .i64 n, q]] = some ([.agg [.int .i64 n, q]], H) := by simp [frzAll, frz.frzs, frzsW, frz_agg, frz_int, hq.frz]
      rw [e0]
      have hb' : (if pure = true then H.length else bar) ≤ H.length := bar_if hb
      simp [go_sem, WpFun, c12, hq.isTup, hq.cells, aload, AV.isTup, AV.cells]
      refine l3 _ _ _ _ _ (by simp; omega) fun p hp => ?_
      rw [he] at h
      simp [go_sem, he]
      refine l12 hp l1 L.length 0 (by omega) 0 ?_
      rw [List.drop_zero]
      simp [go_sem]
      exact h
  · refine ⟨0, fun pure base bar H Q hb h => ?_, fun pure base bar H Q hb h => ?_⟩
    · rw [call11]
      have e0 : frzAll bar H [.agg [.int .i64 n, q]] = some ([.agg [.int .i64 n, q]], H) := by simp [frzAll, frz.frzs, frzsW, frz_agg, frz_int, hq.frz]
      rw [e0]
      have hb' : (if pure = true then H.length else bar) ≤ H.length := bar_if hb
      simp [go_sem, WpFun, c11, hq.isTup, hq.cells, aload, AV.isTup, AV.cells]
      refine k23 hq hl (by simp; omega) (fun _ => ?_) fun m' w' u hm' _ _ h2 => absurd h2 he
      simp [go_sem]
      refine l11 isL.nil (by simp) 0 0 rfl 0 ?_
      simp [go_sem, nW]
      exact h
    · rw [call12]
      have e0 : frzAll bar H [.agg [.int .i64 n, q]] = some ([.agg [.int .i64 n, q]], H) := by simp [frzAll, frz.frzs, frzsW, frz_agg, frz_int, hq.frz]
      rw [e0]
      have hb' : (if pure = true then H.length else bar) ≤ H.length := bar_if hb
      simp [go_sem, WpFun, c12, hq.isTup, hq.cells, aload, AV.isTup, AV.cells]
      refine k24 hq hl (by simp; omega) (fun _ => ?_) fun m' w' u hm' _ _ h2 => absurd h2 he
      simp [go_sem, he]
      exact h
end Go.Proofs.YtoipleipokpnaaaGreat.Code
end

section
namespace Go.Proofs.YtoipleipokpnaaaGreat.Code
open Go Go.Ab
variable {pure : Bool} {base bar : Nat} {H : Heap} {Q : AV → Heap → Prop} {K : AV → Heap → List Nat → Prop}

/-! Nth -/
theorem rem_n {x m : Nat} (hm : m ≠ 0) : abin .rem (.int .i64 (x : Int)) (.int .i64 (m : Int)) = some (.int .i64 ((x % m : Nat) : Int)) := by
  show (if (m : Int) = 0 then none else some (AV.int .i64 ((x : Int).tmod (m : Int)))) = _
  rw [if_neg (by omega), Int.tmod_eq_emod_of_nonneg (by omega)]
  rfl
theorem quo_n {x m : Nat} (hx : x < 9223372036854775808) (hm : m ≠ 0) : abin .quo (.int .i64 (x : Int)) (.int .i64 (m : Int)) = some (.int .i64 ((x / m : Nat) : Int)) := by
  have hle : x / m ≤ x := Nat.div_le_self ..
  show (if (m : Int) = 0 then none else some (AV.int .i64 (IntKind.i64.wrap ((x : Int).tdiv (m : Int))))) = _
  rw [if_neg (by omega), Int.tdiv_eq_ediv_of_nonneg (by omega)]
  rw [show (x : Int) / (m : Int) = ((x / m : Nat) : Int) from rfl]
  generalize x / m = y at *
  rw [Go.IntWalk.i64_in _ (by omega)]

def dgP (m : Nat) : Nat → Nat → List Nat
  | 0, _ => []
  | k + 1, x => x / m ^ k :: dgP m k (x % m ^ k)
theorem dgP_len {m : Nat} : ∀ {k x : Nat}, (dgP m k x).length = k
  | 0, _ => rfl
  | k + 1, x => by simp only [dgP, List.length_cons, dgP_len]
theorem dgP_get {m : Nat} (hm : 1 ≤ m) : ∀ {k x j : Nat}, x < m ^ k → j < k → (dgP m k x)[j]? = some (x / m ^ (k - 1 - j) % m)
  | 0, _, _, _, h => by omega
  | k + 1, x, 0, hx, h => by
    simp only [dgP, List.getElem?_cons_zero, Nat.add_sub_cancel, Nat.sub_zero]
    rw [Nat.mod_eq_of_lt]
    rw [Nat.div_lt_iff_lt_mul (Nat.pow_pos hm)]
    rw [Nat.pow_succ, Nat.mul_comm] at hx
    exact hx
  | k + 1, x, j + 1, hx, h => by
    simp only [dgP, List.getElem?_cons_succ]
    rw [dgP_get hm (Nat.mod_lt _ (Nat.pow_pos hm)) (by omega)]
    have e1 : k + 1 - 1 - (j + 1) = k - 1 - j := by omega
    have e2 : m ^ k = m ^ (k - 1 - j) * m ^ (j + 1) := by rw [← Nat.pow_add]; congr 1; omega
    rw [e1, e2, Nat.mod_mul_right_div_self, Nat.mod_mod_of_dvd _ ⟨m ^ j, by rw [Nat.pow_succ, Nat.mul_comm]⟩]
theorem dgP_lt {m k x : Nat} (hm : 1 ≤ m) (hx : x < m ^ k) : ∀ y ∈ dgP m k x, y < m := fun y hy => by
  obtain ⟨j, hj⟩ := List.mem_iff_getElem?.1 hy
  have hlt := (List.getElem?_eq_some_iff.1 hj).1
  rw [dgP_len] at hlt
  rw [dgP_get hm hx hlt] at hj
  cases hj
  exact Nat.mod_lt _ (by omega)

theorem l13 {m : Nat} {H0 : Heap} {t4 : AV} (hm : m ≤ 9) (hb : bar ≤ H0.length) (hbase : base ≤ H0.length) {R : PQ} : ∀ (k x : Nat) (acc : List Nat) (v : AV) (H : Heap), (2 ≤ m ∨ k = 0) → k ≤ 7 → x < 9223372036854775808 → acc.length + k < 100 → Grow 1 (nats acc) H0 v H →
    (∀ x' v' H', Grow 1 (nats (acc ++ dgP m k x)) H0 v' H' → R (.exit 1) [(0, .int .i64 (m : Nat)), (1, .int .i64 (x' : Nat)), (4, t4), (6, .int .i64 1), (8, v'), (27, .bool false)] H') →
    Wp E base bar (.loop c13_l0) [(0, .int .i64 (m : Nat)), (1, .int .i64 (x : Nat)), (4, t4), (6, .int .i64 ((m ^ k : Nat) : Int)), (8, v)] H R := by
  intro k
  induction k with
  | zero =>
    intro x acc v H _ hk hx hl gr h
    simp only [dgP, List.append_nil] at h
    rw [wp_round c13_l0.eq_1]
    simp [go_sem]
    exact h x v H gr
  | succ k ih =>
    intro x acc v H h2 hk hx hl gr h
    have h2 : 2 ≤ m := by omega
    have hp1 : 1 < m ^ (k + 1) := Nat.one_lt_pow (by omega) (by omega)
    have hbd := pow_bd hm (show k + 1 ≤ 7 by omega)
    have hpk : 1 ≤ m ^ k := Nat.pow_pos (by omega)
    have hdiv : m ^ (k + 1) / m = m ^ k := by rw [Nat.pow_succ, Nat.mul_div_cancel _ (by omega)]
    have q1 := quo_n (x := m ^ (k + 1)) (m := m) (by omega) (by omega)
    rw [hdiv] at q1
    have q2 := quo_n (x := x) (m := m ^ k) hx (by omega)
    have q3 := rem_n (x := x) (m := m ^ k) (by omega)
    simp only [dgP] at h
    have hmod : x % m ^ k < 9223372036854775808 := Nat.lt_of_le_of_lt (Nat.mod_le ..) hx
    have hnext := ih (x % m ^ k) (acc ++ [x / m ^ k])
    generalize x / m ^ k = d at *
    generalize x % m ^ k = e at *
    generalize m ^ (k + 1) = P1 at *
    generalize m ^ k = P at *
    have hp1' : (1 : Int) < (P1 : Int) := by omega
    rw [wp_round c13_l0.eq_1]
    simp [go_sem, hp1, hp1', q1, q2, q3, aop, fillA, setCells, AV.cells, chunks]
    refine gr.nat hb hbase (by omega) fun v' H' tc gr' => ?_
    simp [go_sem, q3]
    refine hnext v' H' (.inl h2) (by omega) hmod (by simp; omega) gr' fun x' v'' H'' gr2 => h x' v'' H'' ?_
    simpa using gr2

theorem k48g {m : Nat} {v : AV} {L : List Nat} {H0 : Heap} (gr : Grow 1 (nats L) H0 v H) (h1 : 1 ≤ m) (hm : m ≤ 9) (hlen : L.length = m - 2) (hv : ∀ x ∈ L, x < m) (hb : bar ≤ H0.length)
    (h : ∀ w, Wd m (rdAll m L) w → ∀ H2, H2.length = H.length → H2.take H0.length = H0 → Q (.lst 1 false (wc m w)) H2) : WpCall E pure base bar 48 [.int .i64 (m : Nat), v] H Q := by
  obtain ⟨H2, f1, f2, f3, f4⟩ := gr.frz (d := 5) (bar := bar) (by decide) (Nat.one_dvd _) nats_plain hb
  have gl := gr.len
  have ho : isL (outL 1 (nats L)) L := isL.out
  have kk := k48 (pure := pure) (base := base) (bar := bar) (H := H2) (Q := Q) ho h1 hm hlen hv (by omega) fun w hw => h w hw H2 f3 f4
  have e1 : frzAll bar H [.int .i64 (m : Nat), v] = some ([.int .i64 (m : Nat), outL 1 (nats L)], H2) := by simp [frzAll, frz.frzs, frzsW, frz_int, f1]
  have e2 : frzAll bar H2 [.int .i64 (m : Nat), outL 1 (nats L)] = some ([.int .i64 (m : Nat), outL 1 (nats L)], H2) := by simp [frzAll, frz.frzs, frzsW, frz_int, ho.frz]
  rw [call48, e2] at kk
  rw [call48, e1]
  exact kk
def nthE (n x : Int) : Int := if cntE n ≠ 0 then 1 else if 0 ≤ x ∧ x ≤ (cntV n : Int) - 1 then 0 else 1
theorem k13 {n x : Int} (hbar : bar ≤ H.length)
    (h1 : nthE n x ≠ 0 → Q (.tup [.agg [.int .i64 0, .nils], .int .i64 (nthE n x)]) H)
    (h2 : ∀ (m y : Nat) u, n = m → x = y → nthE n x = 0 → isT u m (tidyF (tieB (rdAll m (dgP m (m - 2) y))) m) → Q (.tup [u, .int .i64 0]) H) : WpCall E pure base bar 13 [.int .i64 n, .int .i64 x] H Q := by
  rw [call13]
  have e0 : frzAll bar H [.int .i64 n, .int .i64 x] = some ([.int .i64 n, .int .i64 x], H) := by simp [frzAll, frz.frzs, frzsW, frz_int]
  rw [e0]
  have hb' : (if pure = true then H.length else bar) ≤ H.length := bar_if hbar
  by_cases hr : 1 ≤ n ∧ n ≤ 9
  · have hE : cntE n = 0 := by unfold cntE; rw [if_pos hr]
    obtain ⟨m, rfl⟩ := Int.eq_ofNat_of_zero_le (show 0 ≤ n by omega)
    have hm1 : 1 ≤ m := by omega
    have hm9 : m ≤ 9 := by omega
    have hV : cntV m = m ^ (m - 2) := by unfold cntV; rw [if_pos hr, Int.toNat_natCast]
    have hVb := pow_bd hm9 (show m - 2 ≤ 7 by omega)
    have hVp : 1 ≤ m ^ (m - 2) := Nat.pow_pos hm1
    have hw : IntKind.i64.wrap ((cntV m : Int) - 1) = (cntV m : Int) - 1 := Go.IntWalk.i64_in _ (by omega)
    by_cases hx : 0 ≤ x ∧ x ≤ (cntV m : Int) - 1
    · have hN : nthE m x = 0 := by unfold nthE; rw [hE]; simp only [ne_eq, not_true_eq_false, if_false]; rw [if_pos hx]
      obtain ⟨y, rfl⟩ := Int.eq_ofNat_of_zero_le hx.1
      have hyl : y < m ^ (m - 2) := by omega
      have hxb : (decide (0 ≤ (y : Int)) && decide ((y : Int) ≤ (cntV m : Int) - 1)) = true := by simp; omega
      simp [go_sem, WpFun, c13]
      refine k9 ?_
      have hx2 : ¬ (cntV m : Int) - 1 < (y : Int) := by omega
      simp [go_sem, hE, hw, k46, hxb, hx2]
      rw [hV]
      refine l13 (H0 := H ++ [.row 0 [.int .i64 0, .nils] 0 true]) hm9 (by rw [List.length_append]; omega) (by simp) (m - 2) y [] .nils _ (by omega) (by omega) (by omega) (by simp; omega) (by simpa [nats] using Grow.nil) fun x' v' H' gr => ?_
      rw [List.nil_append] at gr
      simp [go_sem]
      refine k48g gr hm1 hm9 dgP_len (dgP_lt hm1 hyl) (by rw [List.length_append]; omega) fun w hw H2 f2 f3 => ?_
      have ef : (fun a b => (w a).testBit b) = tieB (rdAll m (dgP m (m - 2) y)) := by funext a b; exact hw.bit a b
      simp [go_sem]
      have hl2 : H.length + 1 ≤ H2.length := by
        have := congrArg List.length f3
        rw [List.length_take, List.length_append, List.length_singleton] at this; omega
      refine k49l hm9 hw.lt (by omega) fun u hu => ?_
      rw [ef] at hu
      have hk := h2 m y u rfl rfl hN hu
      obtain ⟨q', hq', rfl⟩ := hu
      have hcell : H2[H.length]? = some (.row 0 [.int .i64 0, .nils] 0 true) := by
        have : (H2.take (H ++ [Blk.row 0 [.int .i64 0, .nils] 0 true]).length)[H.length]? = some (.row 0 [.int .i64 0, .nils] 0 true) := by rw [f3]; simp
        rw [List.getElem?_take_of_lt (by simp)] at this
        exact this
      have htake : (H2.set H.length (.row 0 [.int .i64 (m : Nat), q'] 0 true)).take H.length = H := take_same (by rw [List.length_set]; omega) fun j hj => by
        rw [List.getElem?_set_ne (by omega)]
        have : (H2.take (H ++ [Blk.row 0 [.int .i64 0, .nils] 0 true]).length)[j]? = H[j]? := by rw [f3, List.getElem?_append_left hj]
        rw [List.getElem?_take_of_lt (by simp; omega)] at this
        exact this
      have hself : (H2.set H.length (.row 0 [.int .i64 (m : Nat), q'] 0 true))[H.length]? = some (.row 0 [.int .i64 (m : Nat), q'] 0 true) := by
        rw [List.getElem?_set_self (by omega)]
      simp only [go_sem]
      simp [go_sem, storeWp, astore, AV.isTup, AV.cells, hcell, hb']
      generalize H2.set H.length (.row 0 [.int .i64 (m : Nat), q'] 0 true) = H7 at *
      simp [go_sem, aload, hself, frz_agg, hq'.frz, hq'.top, tops_cons, tops_nil, htake]
      exact hk
    · have hN : nthE m x = 1 := by unfold nthE; rw [hE]; simp only [ne_eq, not_true_eq_false, if_false]; rw [if_neg hx]
      have hxb : (decide (0 ≤ x) && decide (x ≤ (cntV m : Int) - 1)) = false := by simpa using hx
      have hh := h1 (by rw [hN]; decide)
      rw [hN] at hh
      simp [go_sem, WpFun, c13]
      refine k9 ?_
      simp [go_sem, hE, hw, k46, hxb, fillA, setCells, storeWp, astore, AV.isTup, AV.cells, hb', aload]
      exact hh
  · have hE : cntE n = 1 := by unfold cntE; rw [if_neg hr]
    have hN : nthE n x = 1 := by unfold nthE; rw [hE]; simp
    have hh := h1 (by rw [hN]; decide)
    rw [hN] at hh
    simp [go_sem, WpFun, c13]
    refine k9 ?_
    simp [go_sem, hE, fillA, setCells, storeWp, astore, AV.isTup, AV.cells, hb', aload]
    exact hh
end Go.Proofs.YtoipleipokpnaaaGreat.Code
end

section
namespace Go.Proofs.YtoipleipokpnaaaGreat.Code
open Go Go.Ab
variable {pure : Bool} {base bar : Nat} {H : Heap} {Q : AV → Heap → Prop} {K : AV → Heap → List Nat → Prop}

/-- a list that is filled from its end: places from i on are digits -/
def dgD (m k x i : Nat) : Nat → Int := fun j => if i ≤ j then ((x / m ^ (k - 1 - j) % m : Nat) : Int) else 0
theorem dgD_step {m k x i : Nat} (hi : i < k) : updZ (dgD m k x (i + 1)) i ((x / m ^ (k - 1 - i) % m : Nat) : Int) = dgD m k x i := by
  funext j
  unfold updZ dgD
  by_cases h : j = i
  · subst h; simp
  · rw [if_neg h]
    by_cases h2 : i + 1 ≤ j
    · rw [if_pos h2, if_pos (by omega)]
    · rw [if_neg h2, if_neg (by omega)]
theorem dgD_all {m k x : Nat} (hm : 1 ≤ m) (hx : x < m ^ k) : dc k (dgD m k x 0) = nats (dgP m k x) := by
  apply List.ext_getElem?
  intro j
  rcases Nat.lt_or_ge j k with h | h
  · rw [dc_get h]
    have := dgP_get hm hx h
    simp only [nats, List.getElem?_map, this, Option.map_some, dgD, Nat.zero_le, if_true]
  · rw [List.getElem?_eq_none (by rw [dc_len]; exact h), List.getElem?_eq_none (by simp [nats, dgP_len]; exact h)]

/-- the heap while the reference finds digits -/
def HD (H : Heap) (k : Nat) (D : Nat → Int) : Heap := H ++ [.row 0 [.int .i64 0, .nils] 0 true, .row 0 (dc k D) 0 true]
theorem l14 {m k x : Nat} (hm : m ≤ 9) (hm1 : 1 ≤ m) (hk : k ≤ 7) (hx : x < 9223372036854775808) (hb : bar ≤ H.length) {R : PQ} : ∀ (i : Nat), i ≤ k → ∀ y, y = x / m ^ (k - i) →
    (∀ y' : Nat, R (.exit 0) [(0, .int .i64 (m : Nat)), (1, .int .i64 (y' : Nat)), (4, .ptr H.length 0 0), (8, .vec (H.length + 1) 0 0 k 1), (9, .int .i64 (-1)), (36, .bool false)] (HD H k (dgD m k x 0))) →
    Wp E H.length bar (.loop c14_l0) [(0, .int .i64 (m : Nat)), (1, .int .i64 (y : Nat)), (4, .ptr H.length 0 0), (8, .vec (H.length + 1) 0 0 k 1), (9, .int .i64 ((i : Int) - 1))] (HD H k (dgD m k x i)) R := by
  intro i
  induction i with
  | zero =>
    intro hi y hy h
    rw [wp_round c14_l0.eq_1]
    simp [go_sem]
    exact h y
  | succ i ih =>
    intro hi y hy h
    have hik : i < k := by omega
    have e0 : ((i + 1 : Nat) : Int) - 1 = (i : Int) := by omega
    rw [e0]
    have hyb : y < 9223372036854775808 := by
      rw [hy]; exact Nat.lt_of_le_of_lt (Nat.div_le_self ..) hx
    have q1 := rem_n (x := y) (m := m) (by omega)
    have q2 := quo_n (x := y) (m := m) hyb (by omega)
    have e1 : y % m = x / m ^ (k - 1 - i) % m := by rw [hy, show k - (i + 1) = k - 1 - i by omega]
    have hst := dgD_step (m := m) (x := x) hik
    rw [← e1] at hst
    have hnext := ih (by omega) (y / m) (by rw [hy, Nat.div_div_eq_div_mul, ← Nat.pow_succ, show (k - (i + 1)).succ = k - i by omega]) h
    rw [← hst] at hnext
    generalize dgD m k x (i + 1) = D at *
    generalize y % m = d at *
    generalize y / m = e at *
    have c1 : bar ≤ H.length + 1 := by omega
    have hg : ∀ D, (HD H k D)[H.length + 1]? = some (.row 0 (dc k D) 0 true) := fun D => by simp [HD]
    have hs : ∀ D D', (HD H k D).set (H.length + 1) (.row 0 (dc k D') 0 true) = HD H k D' := fun D D' => by simp [HD, own_set]
    have hw : IntKind.i64.wrap ((i : Int) - 1) = (i : Int) - 1 := Go.IntWalk.i64_in _ (by omega)
    generalize HD H k = HDf at *
    rw [wp_round c14_l0.eq_1]
    simp [go_sem, q1, q2, hik, storeWp, astore, AV.isTup, AV.cells, hg, dc_len, c1, show i + 1 ≤ k from hik, dc_set, hs, hw]
    exact hnext
theorem k50v {m id k : Nat} {L : List Nat} {D : Nat → Int} (hid : H[id]? = some (.row 0 (dc k D) 0 true)) (hD : dc k D = nats L) (hib : bar ≤ id) (h1 : 1 ≤ m) (hm : m ≤ 9) (hlen : L.length = m - 2) (hv : ∀ x ∈ L, x < m) (hbar : bar ≤ H.length)
    (h : ∀ u b, isT u m (tidyF (tieB (rdAll m L)) m) → Q u (H.set id b)) : WpCall E pure base bar 50 [.int .i64 (m : Nat), .vec id 0 0 k 1] H Q := by
  have hlt := (List.getElem?_eq_some_iff.1 hid).1
  have hk : k = L.length := by
    have := congrArg List.length hD
    rw [dc_len] at this; rw [this]; simp [nats]
  obtain ⟨b, f1⟩ : ∃ b, frz 8 bar H (.vec id 0 0 k 1) = some (.lst 1 false (nats L), H.set id b) := by
    refine ⟨.row 0 (dc k D) (max 0 (0 + k)) true, ?_⟩
    have e := frz_vec (d := 7) (bar := bar) (H := H) (id := id) (ver := 0) (off := 0) (len := k) (sz := 1) (cs := dc k D) (fz := 0) (ex := true) (xs := dc k D) (H' := H.set id (.row 0 (dc k D) (max 0 (0 + k)) true)) hid (by simp [dc_len]) hib (by
      have e1 : ((dc k D).drop 0).take (k * 1) = dc k D := by
        rw [List.drop_zero, Nat.mul_one, List.take_of_length_le (by rw [dc_len]; exact Nat.le_refl _)]
      rw [e1, plains dc_plain, Nat.mul_one])
    have e2 : chunks 1 k (dc k D) = dc k D := by have := chunks_one (l := dc k D); rwa [dc_len] at this
    rw [e2] at e
    rw [e, hD]
  have ho : isL (.lst 1 false (nats L)) L := isL.lst
  have kk := k50 (pure := pure) (base := base) (bar := bar) (H := H.set id b) (Q := Q) ho h1 hm hlen hv (by rw [List.length_set]; exact hbar) fun u hu => h u b hu
  have e1 : frzAll bar H [.int .i64 (m : Nat), .vec id 0 0 k 1] = some ([.int .i64 (m : Nat), .lst 1 false (nats L)], H.set id b) := by simp [frzAll, frz.frzs, frzsW, frz_int, f1]
  have e2 : frzAll bar (H.set id b) [.int .i64 (m : Nat), .lst 1 false (nats L)] = some ([.int .i64 (m : Nat), .lst 1 false (nats L)], H.set id b) := by simp [frzAll, frz.frzs, frzsW, frz_int, ho.frz]
  rw [call50, e2] at kk
  rw [call50, e1]
  exact kk

theorem k14 {n x : Int} (hbar : bar ≤ H.length)
    (h1 : nthE n x ≠ 0 → Q (.tup [.agg [.int .i64 0, .nils], .int .i64 (nthE n x)]) H)
    (h2 : ∀ (m y : Nat) u, n = m → x = y → nthE n x = 0 → isT u m (tidyF (tieB (rdAll m (dgP m (m - 2) y))) m) → Q (.tup [u, .int .i64 0]) H) : WpCall E pure base bar 14 [.int .i64 n, .int .i64 x] H Q := by
  rw [call14]
  have e0 : frzAll bar H [.int .i64 n, .int .i64 x] = some ([.int .i64 n, .int .i64 x], H) := by simp [frzAll, frz.frzs, frzsW, frz_int]
  rw [e0]
  have hb' : (if pure = true then H.length else bar) ≤ H.length := bar_if hbar
  by_cases hr : 1 ≤ n ∧ n ≤ 9
  · have hE : cntE n = 0 := by unfold cntE; rw [if_pos hr]
    obtain ⟨m, rfl⟩ := Int.eq_ofNat_of_zero_le (show 0 ≤ n by omega)
    have hm1 : 1 ≤ m := by omega
    have hm9 : m ≤ 9 := by omega
    have hV : cntV m = m ^ (m - 2) := by unfold cntV; rw [if_pos hr, Int.toNat_natCast]
    have hVb := pow_bd hm9 (show m - 2 ≤ 7 by omega)
    have hVp : 1 ≤ m ^ (m - 2) := Nat.pow_pos hm1
    have hw : IntKind.i64.wrap ((cntV m : Int) - 1) = (cntV m : Int) - 1 := Go.IntWalk.i64_in _ (by omega)
    by_cases hx : 0 ≤ x ∧ x ≤ (cntV m : Int) - 1
    · have hN : nthE m x = 0 := by unfold nthE; rw [hE]; simp only [ne_eq, not_true_eq_false, if_false]; rw [if_pos hx]
      obtain ⟨y, rfl⟩ := Int.eq_ofNat_of_zero_le hx.1
      have hyl : y < m ^ (m - 2) := by omega
      have hxb : (decide (0 ≤ (y : Int)) && decide ((y : Int) ≤ (cntV m : Int) - 1)) = true := by simp; omega
      have hx2 : ¬ (cntV m : Int) - 1 < (y : Int) := by omega
      have hi2 : IntKind.i64.wrap ((m : Int) - 2) = (m : Int) - 2 := Go.IntWalk.i64_in _ (by omega)
      have hmx : (if 2 < (m : Int) then (m : Int) - 2 else 0) = ((m - 2 : Nat) : Int) := by split <;> omega
      have hz : List.flatten (List.replicate (m - 2) [AV.int IntKind.i64 0]) = dc (m - 2) fun _ => 0 := by
        simp [dc, List.flatten_replicate_singleton, List.map_const']
      have hbd : (m - 2) * 8 ≤ 140737488355328 := by omega
      simp [go_sem, WpFun, c14]
      refine k10 ?_
      simp [go_sem, hE, hw, k47, hxb, hx2, hi2, aop, Opd.evo, hmx, AV.asNat, hz, hbd]
      have hw2 : IntKind.i64.wrap (((m - 2 : Nat) : Int) - 1) = ((m - 2 : Nat) : Int) - 1 := Go.IntWalk.i64_in _ (by omega)
      have hd0 : dc (m - 2) (fun _ => 0) = dc (m - 2) (dgD m (m - 2) y (m - 2)) := by
        unfold dc
        apply List.map_congr_left
        intro j hj
        have := List.mem_range.1 hj
        unfold dgD
        rw [if_neg (by omega)]
      rw [hd0, hw2]
      refine l14 hm9 hm1 (by omega) (by omega) hb' (m - 2) (Nat.le_refl _) y (by simp) fun y' => ?_
      have hall := dgD_all hm1 hyl
      simp [go_sem]
      refine k50v (by simp [HD]) hall (by omega) hm1 hm9 dgP_len (dgP_lt hm1 hyl) (by simp [HD]; omega) fun u b hu => ?_
      have hk := h2 m y u rfl rfl hN hu
      obtain ⟨q', hq', rfl⟩ := hu
      have hcell : ((HD H (m - 2) (dgD m (m - 2) y 0)).set (H.length + 1) b)[H.length]? = some (.row 0 [.int .i64 0, .nils] 0 true) := by
        rw [List.getElem?_set_ne (by omega)]; simp [HD]
      have htake : (((HD H (m - 2) (dgD m (m - 2) y 0)).set (H.length + 1) b).set H.length (.row 0 [.int .i64 (m : Nat), q'] 0 true)).take H.length = H := take_same (by simp [HD]) fun j hj => by
        rw [List.getElem?_set_ne (by omega), List.getElem?_set_ne (by omega)]
        unfold HD
        rw [List.getElem?_append_left hj]
      have hself : (((HD H (m - 2) (dgD m (m - 2) y 0)).set (H.length + 1) b).set H.length (.row 0 [.int .i64 (m : Nat), q'] 0 true))[H.length]? = some (.row 0 [.int .i64 (m : Nat), q'] 0 true) := by
        rw [List.getElem?_set_self (by simp [HD])]
      generalize (HD H (m - 2) (dgD m (m - 2) y 0)).set (H.length + 1) b = H2 at *
      simp only [go_sem]
      simp [go_sem, storeWp, astore, AV.isTup, AV.cells, hcell, hb']
      generalize H2.set H.length (.row 0 [.int .i64 (m : Nat), q'] 0 true) = H7 at *
      simp [go_sem, aload, hself, frz_agg, hq'.frz, hq'.top, tops_cons, tops_nil, htake]
      exact hk
    · have hN : nthE m x = 1 := by unfold nthE; rw [hE]; simp only [ne_eq, not_true_eq_false, if_false]; rw [if_neg hx]
      have hxb : (decide (0 ≤ x) && decide (x ≤ (cntV m : Int) - 1)) = false := by simpa using hx
      have hh := h1 (by rw [hN]; decide)
      rw [hN] at hh
      simp [go_sem, WpFun, c14]
      refine k10 ?_
      simp [go_sem, hE, hw, k47, hxb, fillA, setCells, storeWp, astore, AV.isTup, AV.cells, hb', aload]
      exact hh
  · have hE : cntE n = 1 := by unfold cntE; rw [if_neg hr]
    have hN : nthE n x = 1 := by unfold nthE; rw [hE]; simp
    have hh := h1 (by rw [hN]; decide)
    rw [hN] at hh
    simp [go_sem, WpFun, c14]
    refine k10 ?_
    simp [go_sem, hE, fillA, setCells, storeWp, astore, AV.isTup, AV.cells, hb', aload]
    exact hh
end Go.Proofs.YtoipleipokpnaaaGreat.Code
end

section
namespace Go.Proofs.YtoipleipokpnaaaGreat.Code
open Go Go.Ab
variable {pure : Bool} {base bar : Nat} {H : Heap} {Q : AV → Heap → Prop} {K : AV → Heap → List Nat → Prop}

/-! Degrees -/
def dgS (n : Nat) (w : Nat → Nat) : List Nat := (List.range n).map fun a => (bitsN (w a)).length
theorem dgS_suc {n : Nat} {w : Nat → Nat} : dgS (n + 1) w = dgS n w ++ [(bitsN (w n)).length] := by simp [dgS, List.range_succ]
theorem dgS_len {n : Nat} {w : Nat → Nat} : (dgS n w).length = n := by simp [dgS]
theorem l146 {n : Nat} {ex : Bool} {w : Nat → Nat} {H0 : Heap} (hn : n ≤ 9) (hw : ∀ i, w i < 512) (hb : bar ≤ H0.length) (hbase : base ≤ H0.length) {R : PQ} : ∀ (k i : Nat), i + k = n → ∀ (v : AV) (H : Heap), Grow 1 (nats (dgS i w)) H0 v H →
    (∀ v' H', Grow 1 (nats (dgS n w)) H0 v' H' → R (.exit 0) [(5, v'), (8, .lst 1 ex (wc n w)), (9, .int .i64 (n : Nat)), (10, .int .i64 (n : Nat)), (11, .bool false)] H') →
    Wp E base bar (.loop c146_l0) [(5, v), (8, .lst 1 ex (wc n w)), (9, .int .i64 (n : Nat)), (10, .int .i64 (i : Nat))] H R := by
  intro k
  induction k with
  | zero =>
    intro i hi v H gr h
    obtain rfl : i = n := by omega
    rw [wp_round c146_l0.eq_1]
    simp [go_sem]
    exact h v H gr
  | succ k ih =>
    intro i hi v H gr h
    have hlt : i < n := by omega
    have hout : isL (outL 1 (nats (bitsN (w i)))) (bitsN (w i)) := isL.out
    have gl := gr.len
    have hnext := fun v H gr => ih (i + 1) (by omega) v H gr h
    rw [dgS_suc] at hnext
    rw [wp_round c146_l0.eq_1]
    simp [go_sem, hlt, wc_getE, wc_len, aload]
    refine k74 (hw i) (by omega) ?_
    simp [go_sem, hout.len, aop, fillA, setCells, AV.cells, chunks]
    refine gr.nat hb hbase (by rw [dgS_len]; omega) fun v' H' tc gr' => ?_
    simp [go_sem, i64_suc (show i < 1000000 by omega)]
    exact hnext v' H' gr'
theorem k146 {n : Nat} {w : Nat → Nat} {ex : Bool} (hn : n ≤ 9) (hw : ∀ i, w i < 512) (hbar : bar ≤ H.length)
    (h : ∀ u, isL u (dgS n w) → Q (.ifc 25 u) H) : WpCall E pure base bar 146 [.agg [], .lst 1 ex (wc n w)] H Q := by
  rw [call146]
  have e0 : frzAll bar H [.agg [], .lst 1 ex (wc n w)] = some ([.agg [], .lst 1 ex (wc n w)], H) := rfl
  rw [e0]
  have hb' : (if pure = true then H.length else bar) ≤ H.length := bar_if hbar
  simp [go_sem, WpFun, c146, aload, AV.isTup, AV.cells, wc_len]
  refine l146 (H0 := H ++ [.row 0 [] 0 true]) hn hw (by rw [List.length_append]; omega) (by simp) n 0 (by omega) .nils _ (by simpa [nats, dgS] using Grow.nil) fun v' H' gr => ?_
  obtain ⟨H2, f1, f2, f3, f4⟩ := gr.frz (d := 5) (bar := if pure = true then H.length else bar) (by decide) (Nat.one_dvd _) nats_plain (by rw [List.length_append]; omega)
  have hu : isL (outL 1 (nats (dgS n w))) (dgS n w) := isL.out
  have hk := h _ hu
  have e3 : H2.take H.length = H := by
    have := congrArg (List.take H.length) f4
    rw [List.take_take] at this
    simp at this
    exact this
  simp [go_sem, aop, Opd.evo, (Grow.one gr).1, f1, ifc_frz hu, ifc_top hu, e3]
  exact hk

theorem k146v {id ver n fz : Nat} {w : Nat → Nat} {ex : Bool} (hid : H[id]? = some (.row ver (wc n w) fz ex)) (hib : bar ≤ id) (hn : n ≤ 9) (h1 : 1 ≤ n) (hw : ∀ i, w i < 512)
    (h : ∀ u b, isL u (dgS n w) → Q (.ifc 25 u) (H.set id b)) : WpCall E pure base bar 146 [.agg [], .vec id ver 0 n 1] H Q := by
  have hlt := (List.getElem?_eq_some_iff.1 hid).1
  obtain ⟨b, f1⟩ := wood_frz (d := 5) hid hib
  have k := k146 (pure := pure) (base := base) (bar := bar) (H := H.set id b) (Q := Q) (ex := false) hn hw (by simp; omega) fun u hu => h u b hu
  have e1 : frzAll bar H [.agg [], .vec id ver 0 n 1] = some ([.agg [], .lst 1 false (wc n w)], H.set id b) := by
    have : frz 8 bar H (.agg []) = some (.agg [], H) := rfl
    simp [frzAll, frz.frzs, frzsW, f1, this]
  have e2 : frzAll bar (H.set id b) [.agg [], .lst 1 false (wc n w)] = some ([.agg [], .lst 1 false (wc n w)], H.set id b) := rfl
  rw [call146, e2] at k
  rw [call146, e1]
  exact k

theorem k78d {n : Int} {q : AV} {l : List ZZ} (hq : isP q l) (hl : l.length < 1000) (hbar : bar ≤ H.length)
    (h1 : errT n l ≠ 0 → Q (.tup [.nili, .int .i64 (errT n l)]) H)
    (h2 : ∀ (m : Nat) w u, n = m → 1 ≤ m → m ≤ 9 → errT n l = 0 → Wd m l w → isL u (dgS m w) → Q (.tup [.ifc 25 u, .int .i64 0]) H) : WpCall E pure base bar 78 [.agg [.int .i64 n, q], .ifc 82 (.agg [])] H Q := by
  rw [call78]
  have e0 : frzAll bar H [.agg [.int .i64 n, q], .ifc 82 (.agg [])] = some ([.agg [.int .i64 n, q], .ifc 82 (.agg [])], H) := by simp [frzAll, frz.frzs, frzsW, frz_agg, frz_int, hq.frz, frz_q0]
  rw [e0]
  have hb' : (if pure = true then H.length else bar) ≤ H.length := bar_if hbar
  simp [go_sem, WpFun, c78, hq.isTup, hq.cells, aload, AV.isTup, AV.cells]
  refine k55 hq hl (by simp; omega) (fun G he => ?_) (fun m w hm p1 p2 hw he => ?_)
  · have hh := h1 he
    simp [go_sem, he, frz_nili]
    exact hh
  · have hh := h2 m w
    have hE := he
    obtain ⟨m', em, _, _, hv, hE, hlen, hc⟩ := errT_ok he
    obtain rfl : m = m' := by omega
    simp [go_sem, Nat.add_assoc]
    refine k146v (fz := 0) (ex := true) (w := w) (by simp [own_get]) (by omega) p2 p1 hw.lt fun u b hu => ?_
    have hk := hh u hm p1 p2 he hw hu
    simp [go_sem, ifc_frz hu, ifc_top hu, tops_cons, tops_nil, own_set]
    exact hk

theorem k51d {n : Int} {q : AV} {l : List ZZ} (hq : isP q l) (hl : l.length < 1000) (hbar : bar ≤ H.length)
    (h1 : errT n l ≠ 0 → Q (.tup [.nils, .int .i64 (errT n l)]) H)
    (h2 : ∀ (m : Nat) w u, n = m → 1 ≤ m → m ≤ 9 → errT n l = 0 → Wd m l w → isL u (dgS m w) → Q (.tup [u, .int .i64 0]) H) : WpCall E pure base bar 51 [.agg [.int .i64 n, q], .ifc 82 (.agg [])] H Q := by
  rw [call51]
  have e0 : frzAll bar H [.agg [.int .i64 n, q], .ifc 82 (.agg [])] = some ([.agg [.int .i64 n, q], .ifc 82 (.agg [])], H) := by simp [frzAll, frz.frzs, frzsW, frz_agg, frz_int, hq.frz, frz_q0]
  rw [e0]
  have hb' : (if pure = true then H.length else bar) ≤ H.length := bar_if hbar
  simp [go_sem, WpFun, c51, hq.isTup, hq.cells, aload, AV.isTup, AV.cells]
  refine k78d hq hl (by simp; omega) (fun he => ?_) (fun m w u hm p1 p2 he hw hu => ?_)
  · have hh := h1 he
    simp [go_sem, aop, Opd.evo, mres]
    exact hh
  · have hh := h2 m w u hm p1 p2 he hw hu
    simp [go_sem, aop, Opd.evo, mres, hu.frz, hu.top, tops_cons, tops_nil]
    exact hh

theorem k16 {n : Int} {q : AV} {l : List ZZ} (hq : isP q l) (hl : l.length < 1000) (hbar : bar ≤ H.length)
    (h1 : errT n l ≠ 0 → Q (.tup [.nils, .int .i64 (errT n l)]) H)
    (h2 : ∀ (m : Nat) w u, n = m → 1 ≤ m → m ≤ 9 → errT n l = 0 → Wd m l w → isL u (dgS m w) → Q (.tup [u, .int .i64 0]) H) : WpCall E pure base bar 16 [.agg [.int .i64 n, q]] H Q := by
  rw [call16]
  have e0 : frzAll bar H [.agg [.int .i64 n, q]] = some ([.agg [.int .i64 n, q]], H) := by simp [frzAll, frz.frzs, frzsW, frz_agg, frz_int, hq.frz]
  rw [e0]
  have hb' : (if pure = true then H.length else bar) ≤ H.length := bar_if hbar
  simp [go_sem, WpFun, c16, hq.isTup, hq.cells, aload, AV.isTup, AV.cells, aop, Opd.evo, fillA, setCells]
  refine k51d hq hl (by simp; omega) (fun he => ?_) (fun m w u hm p1 p2 he hw hu => ?_)
  · have hh := h1 he
    simp [go_sem]
    exact hh
  · have hh := h2 m w u hm p1 p2 he hw hu
    simp [go_sem, hu.frz, hu.top, tops_cons, tops_nil]
    exact hh

theorem l17 {n p k0 : Nat} {q : AV} {l : List ZZ} {w : Nat → Nat} {b0 : Nat → Option Blk} (hq : isP q l) (hl : l.length < 1000) (hn : n ≤ 9) (hI : Inv n l w (fun _ => false) n) (hpk : p < k0) (hp : b0 p = some (.row 0 [.int .i64 (n : Nat), q] 0 true)) (hb : bar ≤ k0) (hbase : base ≤ k0) {R : PQ} : ∀ (k i : Nat), i + k = n → ∀ (v : AV) (H : Heap), Own k0 1 (nats (dgS i w)) v H → k0 ≤ H.length → (∀ j, j < k0 → H[j]? = b0 j) →
    (∀ v' H', Own k0 1 (nats (dgS n w)) v' H' → k0 ≤ H'.length → (∀ j, j < k0 → H'[j]? = b0 j) → R (.exit 0) [(1, .ptr p 0 0), (5, v'), (6, .int .i64 (n : Nat)), (15, .bool false)] H') →
    Wp E base bar (.loop c17_l0) [(1, .ptr p 0 0), (5, v), (6, .int .i64 (i : Nat))] H R := by
  intro k
  induction k with
  | zero =>
    intro i hi v H ow hk hlow h
    obtain rfl : i = n := by omega
    have hbox : H[p]? = some (.row 0 [.int .i64 (i : Nat), q] 0 true) := by rw [hlow p hpk]; exact hp
    rw [wp_round c17_l0.eq_1]
    simp [go_sem, aload, hbox]
    exact h v H ow hk hlow
  | succ k ih =>
    intro i hi v H ow hk hlow h
    have hlt : i < n := by omega
    have hbox : H[p]? = some (.row 0 [.int .i64 (n : Nat), q] 0 true) := by rw [hlow p hpk]; exact hp
    have hz : List.flatten (List.replicate n [AV.bool false]) = gc n fun _ => false := by
      simp [gc, List.flatten_replicate_singleton, List.map_const']
    have hbd : n ≤ 140737488355328 := by omega
    have hnext := fun v H ow hk hlow => ih (i + 1) (by omega) v H ow hk hlow h
    rw [dgS_suc] at hnext
    have hout : isL (outL 1 (nats (othF n l i fun _ => false))) (bitsN (w i)) := by rw [← oth_bits hn hI rfl]; exact isL.out
    have ow1 : Own k0 1 (nats (dgS i w)) v (H ++ [.row 0 (gc n fun _ => false) 0 true]) := ow.mono fun j hj => by
      rw [List.getElem?_append_left (ow.lt hj).2]
    rw [wp_round c17_l0.eq_1]
    simp [go_sem, aload, hbox, hlt, aop, Opd.evo, AV.asNat, hz, hbd]
    refine k52 (gx := true) (g := fun _ => false) hq hl hn (by simp) (by simp; try omega) ?_
    simp [go_sem, hout.len, aop, Opd.evo, fillA, setCells, AV.cells, chunks]
    refine ow1.app (xs := [.int .i64 ((bitsN (w i)).length : Nat)]) (by simp; omega) (by decide) (Nat.one_dvd _) (fun x hx => ?_) (by rfl) (Nat.one_dvd _) hb hbase ?_ fun v' H' tc ow2 kp => ?_
    · simp [AV.cells] at hx; subst hx; exact Plain.int
    · simp [nats, AV.cells, dgS_len]; omega
    have ec : nats (dgS i w) ++ [AV.int .i64 ((bitsN (w i)).length : Int)].flatMap AV.cells = nats (dgS i w ++ [(bitsN (w i)).length]) := by simp [nats, AV.cells]
    rw [ec] at ow2
    have hl' := kp.len
    rw [List.length_append, List.length_singleton] at hl'
    have hlow' : ∀ j, j < k0 → H'[j]? = b0 j := fun j hj => by
      rw [kp.same j (by simp; omega) (fun e => by have := (ow1.lt e).1; omega), List.getElem?_append_left (by omega), hlow j hj]
    simp [go_sem, i64_suc (show i < 1000000 by omega)]
    exact hnext v' H' ow2 (by omega) hlow'
theorem k17 {n : Int} {q : AV} {l : List ZZ} (hq : isP q l) (hl : l.length < 1000) (hbar : bar ≤ H.length)
    (h1 : errT n l ≠ 0 → Q (.tup [.nils, .int .i64 (errT n l)]) H)
    (h2 : ∀ (m : Nat) w u, n = m → 1 ≤ m → m ≤ 9 → errT n l = 0 → Wd m l w → isL u (dgS m w) → Q (.tup [u, .int .i64 0]) H) : WpCall E pure base bar 17 [.agg [.int .i64 n, q]] H Q := by
  rw [call17]
  have e0 : frzAll bar H [.agg [.int .i64 n, q]] = some ([.agg [.int .i64 n, q]], H) := by simp [frzAll, frz.frzs, frzsW, frz_agg, frz_int, hq.frz]
  rw [e0]
  have hb' : (if pure = true then H.length else bar) ≤ H.length := bar_if hbar
  simp [go_sem, WpFun, c17, hq.isTup, hq.cells, aload, AV.isTup, AV.cells]
  refine k28 hq hl (by simp; omega) ?_
  by_cases he : errT n l = 0
  · obtain ⟨m, rfl, p1, p2, hv, hE, hlen, hc⟩ := errT_ok he
    obtain ⟨w, k1, k2⟩ := wd_sum p2 (r := l) Wd.nil hE (by simp [bitsN_zero, Sm_zero])
    rw [List.nil_append] at k1
    have hI := inv_start p2 k1 hE hlen hc
    simp [go_sem, he]
    refine l17 (k0 := H.length + 1) (p := H.length) (b0 := fun j => (H ++ [Blk.row 0 [.int .i64 (m : Nat), q] 0 true])[j]?) hq hl p2 hI (by omega) (by simp) (by omega) (by omega) m 0 (by omega) .nils _ (by simpa [nats, dgS] using Own.nil) (by simp) (fun j hj => rfl) fun v' H' ow hk' hlow => ?_
    have hu : isL (outL 1 (nats (dgS m w))) (dgS m w) := isL.out
    have hh := h2 m w _ rfl p1 p2 he k1 hu
    obtain ⟨H2, f1, f2, f3, f4⟩ := ow.frz (d := 5) (bar := if pure = true then H.length else bar) (by decide) (Nat.one_dvd _) nats_plain (by omega)
    have e3 : H2.take H.length = H := take_same (by omega) fun j hj => by
      rw [f4 j (fun e => by have := (ow.lt e).1; omega), hlow j (by omega)]
      show (H ++ [Blk.row 0 [.int .i64 (m : Nat), q] 0 true])[j]? = H[j]?
      rw [List.getElem?_append_left hj]
    simp [go_sem, f1, hu.top, tops_cons, tops_nil, e3]
    exact hh
  · have hh := h1 he
    simp [go_sem, he]
    exact hh

theorem degrees_same {n : Int} {q : AV} {l : List ZZ} (hq : isP q l) (hl : l.length < 1000) : ∃ L : List Nat, L.length < 1000 ∧
    (∀ (pure : Bool) (base bar : Nat) (H : Heap) (Q : AV → Heap → Prop), bar ≤ H.length → (∀ p, isL p L → Q (.tup [p, .int .i64 (errT n l)]) H) → WpCall E pure base bar 16 [.agg [.int .i64 n, q]] H Q) ∧
    (∀ (pure : Bool) (base bar : Nat) (H : Heap) (Q : AV → Heap → Prop), bar ≤ H.length → (∀ p, isL p L → Q (.tup [p, .int .i64 (errT n l)]) H) → WpCall E pure base bar 17 [.agg [.int .i64 n, q]] H Q) := by
  by_cases he : errT n l = 0
  · obtain ⟨m, hm, p1, p2, _, hE, _, _⟩ := errT_ok he
    obtain ⟨w, k1, k2⟩ := wd_sum p2 (r := l) Wd.nil hE (by simp [bitsN_zero, Sm_zero])
    rw [List.nil_append] at k1
    refine ⟨dgS m w, by rw [dgS_len]; omega, fun pure base bar H Q hb h => ?_, fun pure base bar H Q hb h => ?_⟩
    · refine k16 hq hl hb (fun h2 => absurd he h2) fun m' w' u hm' _ _ _ hw hu => ?_
      obtain rfl : m = m' := by omega
      obtain rfl := wd_unique k1 hw
      rw [he] at h
      exact h _ hu
    · refine k17 hq hl hb (fun h2 => absurd he h2) fun m' w' u hm' _ _ _ hw hu => ?_
      obtain rfl : m = m' := by omega
      obtain rfl := wd_unique k1 hw
      rw [he] at h
      exact h _ hu
  · refine ⟨[], by simp, fun pure base bar H Q hb h => ?_, fun pure base bar H Q hb h => ?_⟩
    · exact k16 hq hl hb (fun _ => h _ isL.nil) fun m' w' u hm' _ _ h2 => absurd h2 he
    · exact k17 hq hl hb (fun _ => h _ isL.nil) fun m' w' u hm' _ _ h2 => absurd h2 he
end Go.Proofs.YtoipleipokpnaaaGreat.Code
end

section
namespace Go.Proofs.YtoipleipokpnaaaGreat.Code
open Go Go.Ab
variable {pure : Bool} {base bar : Nat} {H : Heap} {Q : AV → Heap → Prop} {K : AV → Heap → List Nat → Prop}

/-! With -/
def fac : Nat → Nat
  | 0 => 1
  | n + 1 => (n + 1) * fac n
def ch : Nat → Nat → Nat
  | _, 0 => 1
  | 0, _ + 1 => 0
  | n + 1, k + 1 => ch n k + ch n (k + 1)
theorem ch_step : ∀ P, P ≤ 7 → ∀ i, i < P → ch P i * (P - i) = ch P (i + 1) * (i + 1) := by decide
theorem ch_fac : ∀ P, P ≤ 7 → ∀ i, i ≤ P → ch P i * fac i * fac (P - i) = fac P := by decide
theorem ch_le : ∀ P, P ≤ 7 → ∀ i, i ≤ P → ch P i ≤ fac P := by decide
theorem fac_le : ∀ n, n ≤ 9 → 1 ≤ fac n ∧ fac n ≤ 362880 := by decide
theorem fac_le7 : ∀ n, n ≤ 7 → 1 ≤ fac n ∧ fac n ≤ 5040 := by decide

theorem l54f {n : Nat} (hn : n ≤ 9) (h2 : 1 ≤ n) {R : PQ} : ∀ (k i : Nat), i + k = n + 1 → 2 ≤ i → ∀ P : Nat, P = fac (i - 1) → R (.exit 0) [(0, .int .i64 (n : Nat)), (3, .int .i64 (fac n : Nat)), (4, .int .i64 ((n + 1 : Nat) : Int)), (7, .bool false)] H →
    Wp E base bar (.loop c54_l0) [(0, .int .i64 (n : Nat)), (3, .int .i64 (P : Nat)), (4, .int .i64 (i : Nat))] H R := by
  intro k
  induction k with
  | zero =>
    intro i hi h2 P hP h
    obtain rfl : i = n + 1 := by omega
    rw [Nat.add_sub_cancel] at hP
    rw [← hP] at h
    have hle : ¬ ((n + 1 : Nat) : Int) ≤ (n : Int) := by omega
    generalize n + 1 = j at *
    rw [wp_round c54_l0.eq_1]
    simp [go_sem, hle]
    exact h
  | succ k ih =>
    intro i hi h2 P hP h
    have hle : (i : Int) ≤ (n : Int) := by omega
    have hfi : fac i = P * i := by
      obtain ⟨j, rfl⟩ : ∃ j, i = j + 1 := ⟨i - 1, by omega⟩
      rw [hP, Nat.add_sub_cancel, Nat.mul_comm]; rfl
    have hb := fac_le i (by omega)
    have hw : IntKind.i64.wrap ((P : Int) * (i : Int)) = ((fac i : Nat) : Int) := by
      rw [show (P : Int) * (i : Int) = ((fac i : Nat) : Int) by rw [hfi]; exact (Int.natCast_mul ..).symm, Go.IntWalk.i64_in _ (by omega)]
    have hnext := ih (i + 1) (by omega) (by omega) (fac i) (by rw [Nat.add_sub_cancel]) h
    generalize fac i = P2 at *
    rw [wp_round c54_l0.eq_1]
    simp [go_sem, hle, hw, show i ≤ n by omega, i64_suc (show i < 1000000 by omega)]
    exact hnext
theorem k54f {n : Nat} (hn : n ≤ 9) (h : Q (.int .i64 (fac n : Nat)) H) : WpCall E pure base bar 54 [.int .i64 (n : Nat)] H Q := by
  rw [call54]
  by_cases h1 : 1 ≤ n
  · simp [go_sem, WpFun, c54]
    refine l54f hn h1 (n - 1) 2 (by omega) (by omega) 1 rfl ?_
    simp [go_sem]
    exact h
  · obtain rfl : n = 0 := by omega
    simp [go_sem, WpFun, c54]
    rw [wp_round c54_l0.eq_1]
    simp [go_sem]
    exact h

theorem l53m {v : AV} {L : List Nat} (hL : isL v L) (hl : L.length < 1000) {R : PQ} : ∀ (k i : Nat), i + k = L.length → ∀ m : Nat, m ∈ L → (∀ x ∈ L.take i, m ≤ x) →
    (∀ m', m' ∈ L → (∀ x ∈ L, m' ≤ x) → R (.exit 0) [(0, v), (3, .int .i64 (m' : Nat)), (4, .int .i64 (L.length : Nat)), (15, .bool false)] H) →
    Wp E base bar (.loop c53_l0) [(0, v), (3, .int .i64 (m : Nat)), (4, .int .i64 (i : Nat))] H R := by
  have llen := fun (H : Heap) (K : AV → Heap → List Nat → Prop) => hL.len (H := H) (K := K)
  intro k
  induction k with
  | zero =>
    intro i hi m hm hall h
    obtain rfl : i = L.length := by omega
    rw [List.take_length] at hall
    rw [wp_round c53_l0.eq_1]
    simp [go_sem, llen]
    exact h m hm hall
  | succ k ih =>
    intro i hi m hm hall h
    have hlt : i < L.length := by omega
    have hmem := List.getElem_mem hlt
    have htk : L.take (i + 1) = L.take i ++ [L[i]] := by rw [List.take_add_one, List.getElem?_eq_getElem hlt]; rfl
    have hix := fun (H : Heap) (K : AV → Heap → List Nat → Prop) (k : IntKind) => hL.ix (H := H) (K := K) (k := k) hlt
    have hnext := ih (i + 1) (by omega)
    rw [htk] at hnext
    generalize L[i] = x at *
    rw [wp_round c53_l0.eq_1]
    by_cases hx : x < m
    · have hx' : (x : Int) < (m : Int) := by omega
      simp [go_sem, llen, hlt, hix, aload, aop, Opd.evo, hx, hx', i64_suc (show i < 1000000 by omega)]
      refine hnext x hmem (fun y hy => ?_) h
      rcases List.mem_append.1 hy with hy | hy
      · have := hall y hy; omega
      · rw [List.mem_singleton] at hy; omega
    · have hx' : ¬ (x : Int) < (m : Int) := by omega
      simp [go_sem, llen, hlt, hix, aload, aop, Opd.evo, hx, hx', i64_suc (show i < 1000000 by omega)]
      refine hnext m hm (fun y hy => ?_) h
      rcases List.mem_append.1 hy with hy | hy
      · exact hall y hy
      · rw [List.mem_singleton] at hy; omega
theorem k53m {v : AV} {L : List Nat} (hL : isL v L) (hl : L.length < 1000) (h1 : 1 ≤ L.length) (h : ∀ m, m ∈ L → (∀ x ∈ L, m ≤ x) → Q (.int .i64 (m : Nat)) H) : WpCall E pure base bar 53 [v] H Q := by
  rw [call53]
  have e0 : frzAll bar H [v] = some ([v], H) := by simp [frzAll, frz.frzs, frzsW, hL.frz]
  rw [e0]
  obtain ⟨c, r, rfl⟩ : ∃ c r, L = c :: r := by
    cases L with
    | nil => simp at h1
    | cons c r => exact ⟨c, r, rfl⟩
  have hlen : ¬ ((c :: r).length : Int) < 1 := by rw [List.length_cons]; omega
  have llen := fun (H : Heap) (K : AV → Heap → List Nat → Prop) => hL.len (H := H) (K := K)
  have hix := fun (H : Heap) (K : AV → Heap → List Nat → Prop) (k : IntKind) => hL.ix0 (H := H) (K := K) (k := k)
  have hmain := fun {R : PQ} hr => l53m (H := H) (base := H.length) (bar := if pure = true then H.length else bar) (R := R) hL hl ((c :: r).length - 1) 1 (by rw [List.length_cons]; omega) c (List.mem_cons_self ..) (fun x hx => by simp at hx; omega) hr
  generalize (c :: r).length = len at *
  simp [go_sem, WpFun, c53, llen, hlen, hix, aload]
  refine hmain fun m' hm' hall => ?_
  have hk := h m' hm' hall
  simp [go_sem]
  exact hk
end Go.Proofs.YtoipleipokpnaaaGreat.Code
end

section
namespace Go.Proofs.YtoipleipokpnaaaGreat.Code
open Go Go.Ab
variable {pure : Bool} {base bar : Nat} {H : Heap} {Q : AV → Heap → Prop} {K : AV → Heap → List Nat → Prop}

theorem outR_in {m : Nat} {x : Int} (h : outR m x = false) : 0 ≤ x ∧ x ≤ (m : Int) - 1 := by
  unfold outR at h
  simpa using h
theorem outR_b {m : Nat} {x : Int} {b : Bool} (h : outR m x = b) : (decide (0 ≤ x) && decide (x ≤ (m : Int) - 1)) = !b := by
  rw [← h]; unfold outR; simp only [Bool.not_not]
theorem l18a {v : AV} {l : List Int} (hv : isZ v l) (hm : l.length ≤ 9) {R : PQ} : ∀ (k i : Nat), i + k = l.length → ∀ s : Int, 0 ≤ s → s ≤ 9 * i →
    ((l.drop i).any (outR l.length) = false → R (.exit 0) [(0, v), (4, .int .i64 (l.length : Nat)), (5, .int .i64 (s + (l.drop i).sum)), (18, v), (19, .int .i64 (l.length : Nat)), (20, .int .i64 (l.length : Nat)), (21, .bool false)] H) →
    ((l.drop i).any (outR l.length) = true → R .ret [(2, .int .i64 0), (3, .int .i64 2)] H) →
    Wp E base bar (.loop c18_l0) [(0, v), (4, .int .i64 (l.length : Nat)), (5, .int .i64 s), (18, v), (19, .int .i64 (l.length : Nat)), (20, .int .i64 (i : Nat))] H R := by
  intro k
  induction k with
  | zero =>
    intro i hi s s1 s2 h1 h2
    obtain rfl : i = l.length := by omega
    rw [List.drop_length] at h1
    rw [wp_round c18_l0.eq_1]
    simp [go_sem]
    simpa using h1 rfl
  | succ k ih =>
    intro i hi s s1 s2 h1 h2
    have hlt : i < l.length := by omega
    rw [List.drop_eq_getElem_cons hlt, List.any_cons] at h1 h2
    rw [List.sum_cons] at h1
    have hix := fun (H : Heap) (K : AV → Heap → List Nat → Prop) (k : IntKind) => hv.ix (H := H) (K := K) (k := k) hlt
    have hnext := ih (i + 1) (by omega)
    have e1 := i64_pred hm
    generalize l[i] = x at *
    rw [wp_round c18_l0.eq_1]
    cases hc : outR l.length x
    · rw [hc] at h1 h2
      simp only [Bool.false_or] at h1 h2
      have hx := outR_b hc
      have hr := outR_in hc
      have hw : IntKind.i64.wrap (s + x) = s + x := Go.IntWalk.i64_in _ (by omega)
      have hn2 := hnext (s + x) (by omega) (by omega) (fun h => by rw [Int.add_assoc]; exact h1 h) h2
      generalize hlen : l.length = m at *
      simp [go_sem, hlt, hix, aload, e1, k46, hx, hw, i64_suc (show i < 1000000 by omega)]
      exact hn2
    · rw [hc] at h1 h2
      have hx := outR_b hc
      have hh := h2 (by simp)
      generalize hlen : l.length = m at *
      simp [go_sem, hlt, hix, aload, e1, k46, hx]
      exact hh
theorem l19a {v : AV} {l : List Int} (hv : isZ v l) (hm : l.length ≤ 9) {R : PQ} : ∀ (k i : Nat), i + k = l.length → ∀ s : Int, 0 ≤ s → s ≤ 9 * i →
    ((l.drop i).any (outR l.length) = false → R (.exit 0) [(0, v), (4, .int .i64 (l.length : Nat)), (5, .int .i64 (s + (l.drop i).sum)), (6, .int .i64 (l.length : Nat)), (16, .bool false)] H) →
    ((l.drop i).any (outR l.length) = true → R .ret [(2, .int .i64 0), (3, .int .i64 2)] H) →
    Wp E base bar (.loop c19_l0) [(0, v), (4, .int .i64 (l.length : Nat)), (5, .int .i64 s), (6, .int .i64 (i : Nat))] H R := by
  intro k
  induction k with
  | zero =>
    intro i hi s s1 s2 h1 h2
    obtain rfl : i = l.length := by omega
    rw [List.drop_length] at h1
    rw [wp_round c19_l0.eq_1]
    simp [go_sem]
    simpa using h1 rfl
  | succ k ih =>
    intro i hi s s1 s2 h1 h2
    have hlt : i < l.length := by omega
    rw [List.drop_eq_getElem_cons hlt, List.any_cons] at h1 h2
    rw [List.sum_cons] at h1
    have hix := fun (H : Heap) (K : AV → Heap → List Nat → Prop) (k : IntKind) => hv.ix (H := H) (K := K) (k := k) hlt
    have hnext := ih (i + 1) (by omega)
    have e1 := i64_pred hm
    generalize l[i] = x at *
    rw [wp_round c19_l0.eq_1]
    cases hc : outR l.length x
    · rw [hc] at h1 h2
      simp only [Bool.false_or] at h1 h2
      have hx := outR_b hc
      have hr := outR_in hc
      have hw : IntKind.i64.wrap (s + x) = s + x := Go.IntWalk.i64_in _ (by omega)
      have hn2 := hnext (s + x) (by omega) (by omega) (fun h => by rw [Int.add_assoc]; exact h1 h) h2
      generalize hlen : l.length = m at *
      simp [go_sem, hlt, hix, aload, e1, k47, hx, hw, i64_suc (show i < 1000000 by omega)]
      exact hn2
    · rw [hc] at h1 h2
      have hx := outR_b hc
      have hh := h2 (by simp)
      generalize hlen : l.length = m at *
      simp [go_sem, hlt, hix, aload, e1, k47, hx]
      exact hh

def facAcc : Nat → List Nat → Nat
  | F, [] => F
  | F, d :: r => facAcc (F * fac (d - 1)) r
def divAcc : Nat → List Nat → Nat
  | o, [] => o
  | o, d :: r => divAcc (o / fac (d - 1)) r
theorem divAcc_eq {N : Nat} : ∀ {L : List Nat} {F : Nat}, divAcc (N / F) L = N / facAcc F L
  | [], _ => rfl
  | d :: r, F => by simp only [divAcc, facAcc]; rw [Nat.div_div_eq_div_mul]; exact divAcc_eq
def tot : List Nat → Nat
  | [] => 0
  | d :: r => (d - 1) + tot r

theorem l18b {bs P0 e i n : Nat} {v : AV} (hP : P0 ≤ 7) (he : e ≤ P0) (hb : bs * fac P0 ≤ 5040) {R : PQ} : ∀ (k j : Nat), j + k = e →
    R (.exit 5) [(8, .int .i64 ((bs * ch P0 e : Nat) : Int)), (9, .int .i64 ((P0 - e : Nat) : Int)), (48, v), (49, .int .i64 (n : Nat)), (50, .int .i64 (i : Nat)), (11, .int .i64 ((e + 1 : Nat) : Int)), (12, .int .i64 ((e + 1 : Nat) : Int)), (56, .bool false)] H →
    Wp E base bar (.loop c18_l1) [(8, .int .i64 ((bs * ch P0 j : Nat) : Int)), (9, .int .i64 ((P0 - j : Nat) : Int)), (48, v), (49, .int .i64 (n : Nat)), (50, .int .i64 (i : Nat)), (11, .int .i64 ((e + 1 : Nat) : Int)), (12, .int .i64 ((j + 1 : Nat) : Int))] H R := by
  intro k
  induction k with
  | zero =>
    intro j hj h
    obtain rfl : j = e := by omega
    generalize bs * ch P0 j = B at *
    generalize P0 - j = P at *
    generalize j + 1 = d at *
    rw [wp_round c18_l1.eq_1]
    simp [go_sem]
    exact h
  | succ k ih =>
    intro j hj h
    have hlt : ((j + 1 : Nat) : Int) < ((e + 1 : Nat) : Int) := by omega
    have hs := ch_step P0 hP j (by omega)
    have hB : bs * ch P0 j ≤ 5040 := Nat.le_trans (Nat.mul_le_mul_left _ (ch_le P0 hP j (by omega))) hb
    have hmul : bs * ch P0 j * (P0 - j) = bs * ch P0 (j + 1) * (j + 1) := by rw [Nat.mul_assoc, hs, Nat.mul_assoc]
    have hM : bs * ch P0 j * (P0 - j) ≤ 5040 * 7 := Nat.mul_le_mul hB (by omega)
    have hw1 : IntKind.i64.wrap (((bs * ch P0 j : Nat) : Int) * ((P0 - j : Nat) : Int)) = ((bs * ch P0 j * (P0 - j) : Nat) : Int) := by
      rw [show ((bs * ch P0 j : Nat) : Int) * ((P0 - j : Nat) : Int) = ((bs * ch P0 j * (P0 - j) : Nat) : Int) from (Int.natCast_mul ..).symm, Go.IntWalk.i64_in _ (by omega)]
    have hq := quo_n (x := bs * ch P0 j * (P0 - j)) (m := j + 1) (by omega) (by omega)
    have hd : bs * ch P0 j * (P0 - j) / (j + 1) = bs * ch P0 (j + 1) := by rw [hmul, Nat.mul_div_cancel _ (by omega)]
    rw [hd] at hq
    have hw2 : IntKind.i64.wrap (((P0 - j : Nat) : Int) - 1) = ((P0 - (j + 1) : Nat) : Int) := by
      rw [Go.IntWalk.i64_in _ (by omega)]; omega
    have hw3 : IntKind.i64.wrap (((j + 1 : Nat) : Int) + 1) = ((j + 1 + 1 : Nat) : Int) := i64_suc (by omega)
    have hnext := ih (j + 1) (by omega) h
    generalize bs * ch P0 j * (P0 - j) = M at *
    generalize bs * ch P0 j = B at *
    generalize bs * ch P0 (j + 1) = B2 at *
    generalize P0 - j = P at *
    generalize P0 - (j + 1) = P2 at *
    generalize j + 1 + 1 = j2 at *
    generalize j + 1 = j1 at *
    generalize e + 1 = d at *
    have hlt' : j1 < d := by omega
    rw [wp_round c18_l1.eq_1]
    simp [go_sem, hlt', hw1, hq, hw2, hw3]
    exact hnext
theorem l18c {v : AV} {L : List Nat} {N : Nat} (hL : isL v L) (hl : L.length ≤ 9) (hN : N ≤ 5040) {R : PQ} : ∀ (k i : Nat), i + k = L.length → ∀ (bs P0 F : Nat), bs * fac P0 * F = N → P0 ≤ 7 → 1 ≤ F → (∀ d ∈ L.drop i, 1 ≤ d) → P0 = tot (L.drop i) →
    (∀ out : Nat, out * facAcc F (L.drop i) = N → 1 ≤ facAcc F (L.drop i) → R (.exit 3) [(8, .int .i64 (out : Nat)), (9, .int .i64 0), (48, v), (49, .int .i64 (L.length : Nat)), (50, .int .i64 (L.length : Nat)), (51, .bool false)] H) →
    Wp E base bar (.loop c18_l2) [(8, .int .i64 (bs : Nat)), (9, .int .i64 (P0 : Nat)), (48, v), (49, .int .i64 (L.length : Nat)), (50, .int .i64 (i : Nat))] H R := by
  intro k
  induction k with
  | zero =>
    intro i hi bs P0 F hF hP hF1 hd ht h
    obtain rfl : i = L.length := by omega
    rw [List.drop_length] at ht h
    simp only [tot] at ht
    subst ht
    simp only [fac, Nat.mul_one] at hF
    rw [wp_round c18_l2.eq_1]
    simp [go_sem]
    exact h bs hF hF1
  | succ k ih =>
    intro i hi bs P0 F hF hP hF1 hd ht h
    have hlt : i < L.length := by omega
    rw [List.drop_eq_getElem_cons hlt] at hd ht h
    have hix := fun (H : Heap) (K : AV → Heap → List Nat → Prop) (k : IntKind) => hL.ix (H := H) (K := K) (k := k) hlt
    have hnext := ih (i + 1) (by omega)
    generalize L[i] = d at *
    simp only [tot] at ht
    simp only [facAcc] at h
    have hd1 := hd d (List.mem_cons_self ..)
    obtain ⟨e, rfl⟩ : ∃ e, d = e + 1 := ⟨d - 1, by omega⟩
    rw [Nat.add_sub_cancel] at ht h
    have heP : e ≤ P0 := by omega
    have hbs : bs * fac P0 ≤ 5040 := by
      have : bs * fac P0 * 1 ≤ bs * fac P0 * F := Nat.mul_le_mul_left _ hF1
      omega
    have hcf := ch_fac P0 hP e heP
    have hfe := (fac_le e (by omega)).1
    have hF2 : bs * ch P0 e * fac (P0 - e) * (F * fac e) = N := by
      rw [← hF, ← hcf]
      simp only [Nat.mul_assoc, Nat.mul_comm, Nat.mul_left_comm]
    have hn2 := hnext (bs * ch P0 e) (P0 - e) (F * fac e) hF2 (by omega) (Nat.mul_pos hF1 hfe) (fun d hd' => hd d (List.mem_cons_of_mem _ hd')) (by omega) h
    have lb := fun {R : PQ} hr => l18b (H := H) (base := base) (bar := bar) (v := v) (i := i) (n := L.length) (R := R) hP heP hbs e 0 (by omega) hr
    have hc0 : bs * ch P0 0 = bs := by
      have : ch P0 0 = 1 := by cases P0 <;> rfl
      rw [this, Nat.mul_one]
    rw [hc0, Nat.sub_zero] at lb
    generalize e + 1 = d at *
    generalize bs * ch P0 e = B at *
    generalize P0 - e = P2 at *
    generalize hlen : L.length = n at *
    rw [wp_round c18_l2.eq_1]
    simp [go_sem, hlt, hix, aload]
    refine lb ?_
    simp [go_sem, i64_suc (show i < 1000000 by omega)]
    exact hn2
end Go.Proofs.YtoipleipokpnaaaGreat.Code
end

section
namespace Go.Proofs.YtoipleipokpnaaaGreat.Code
open Go Go.Ab
variable {pure : Bool} {base bar : Nat} {H : Heap} {Q : AV → Heap → Prop} {K : AV → Heap → List Nat → Prop}

def wthE (l : List Int) : Int := if ¬ (1 ≤ l.length ∧ l.length ≤ 9) then 1 else if l.any (outR l.length) then 2 else if l.sum ≠ 2 * (l.length : Int) - 2 then 17 else 0
def wthV (l : List Int) : Int := if wthE l ≠ 0 then 0 else if l.length = 1 then 1 else if (0 : Int) ∈ l then 0 else ((fac (l.length - 2) / facAcc 1 (l.map Int.toNat) : Nat) : Int)

theorem sum_nats : ∀ {L : List Nat}, (natsZ L).sum = ((L.sum : Nat) : Int)
  | [] => rfl
  | x :: r => by
    have := sum_nats (L := r)
    unfold natsZ at this ⊢
    rw [List.map_cons, List.sum_cons, List.sum_cons, this]; omega
theorem tot_sum : ∀ {L : List Nat}, (∀ d ∈ L, 1 ≤ d) → tot L + L.length = L.sum
  | [], _ => rfl
  | x :: r, h => by
    have := tot_sum (L := r) fun d hd => h d (List.mem_cons_of_mem _ hd)
    have := h x (List.mem_cons_self ..)
    rw [tot, List.length_cons, List.sum_cons]; omega
theorem natsZ_toNat : ∀ {L : List Nat}, (natsZ L).map Int.toNat = L
  | [] => rfl
  | x :: r => by
    have := natsZ_toNat (L := r)
    unfold natsZ at this ⊢
    rw [List.map_cons, List.map_cons, this]; simp
theorem nats_of {l : List Int} {m : Nat} (h : l.any (outR m) = false) : ∃ L : List Nat, l = natsZ L ∧ ∀ x ∈ L, x + 1 ≤ m := by
  have hall : ∀ x ∈ l, 0 ≤ x ∧ x ≤ (m : Int) - 1 := fun x hx => by
    have := (List.any_eq_false.1 h) x hx
    exact outR_in (by simpa using this)
  refine ⟨l.map Int.toNat, ?_, fun x hx => ?_⟩
  · unfold natsZ
    rw [List.map_map]
    conv => lhs; rw [← List.map_id l]
    apply List.map_congr_left
    intro x hx
    have := hall x hx
    simp only [id_eq, Function.comp_apply]
    omega
  · obtain ⟨y, hy, rfl⟩ := List.mem_map.1 hx
    have := hall y hy; omega

theorem k18 {v : AV} {l : List Int} (hv : isZ v l) (h : Q (.tup [.int .i64 (wthV l), .int .i64 (wthE l)]) H) : WpCall E pure base bar 18 [v] H Q := by
  rw [call18]
  have e0 : frzAll bar H [v] = some ([v], H) := by simp [frzAll, frz.frzs, frzsW, hv.frz]
  rw [e0]
  have llen := fun (H : Heap) (K : AV → Heap → List Nat → Prop) => hv.len (H := H) (K := K)
  obtain ⟨n, hn⟩ : ∃ n, l.length = n := ⟨_, rfl⟩
  rw [hn] at llen
  by_cases hr : 1 ≤ n ∧ n ≤ 9
  · have hr' : (decide (1 ≤ (n : Int)) && decide ((n : Int) ≤ 9)) = true := by simp; omega
    have la := fun {R : PQ} h1 h2 => l18a (H := H) (base := H.length) (bar := if pure = true then H.length else bar) (R := R) hv (by omega) l.length 0 (by omega) 0 (Int.le_refl 0) (by omega) h1 h2
    rw [hn] at la
    have hw1 : IntKind.i64.wrap (2 * (n : Int)) = 2 * (n : Int) := Go.IntWalk.i64_in _ (by omega)
    have hw2 : IntKind.i64.wrap (2 * (n : Int) - 2) = 2 * (n : Int) - 2 := Go.IntWalk.i64_in _ (by omega)
    have hw3 : IntKind.i64.wrap ((n : Int) - 2) = (n : Int) - 2 := Go.IntWalk.i64_in _ (by omega)
    cases ha : l.any (outR n) with
    | true =>
      have e : wthE l = 2 := by unfold wthE; rw [hn, if_neg (by simpa using hr), if_pos ha]
      have eV : wthV l = 0 := by unfold wthV; rw [if_pos (by rw [e]; decide)]
      rw [e, eV] at h
      simp [go_sem, WpFun, c18, llen, k46, hr']
      refine la (fun h2 => ?_) fun _ => ?_
      · rw [List.drop_zero, ha] at h2; cases h2
      · simp [go_sem]
        exact h
    | false =>
      obtain ⟨L, rfl, hLm⟩ := nats_of ha
      have hnL : L.length = n := by rw [← hn]; simp [natsZ]
      have hvl : isL v L := hv.l
      by_cases hs : (natsZ L).sum = 2 * (n : Int) - 2
      · have e : wthE (natsZ L) = 0 := by unfold wthE; rw [hn, if_neg (by simpa using hr), if_neg (by simp [ha]), if_neg (by simpa using hs)]
        unfold wthV at h
        rw [e, hn] at h
        simp only [ne_eq, not_true_eq_false, if_false] at h
        rw [natsZ_toNat] at h
        have hs' : (0 : Int) + (natsZ L).sum = 2 * (n : Int) - 2 := by rw [Int.zero_add]; exact hs
        have hsum : L.sum = 2 * n - 2 := by rw [sum_nats] at hs; omega
        by_cases h1 : n = 1
        · rw [if_pos h1] at h
          have hn1 : (n : Int) = 1 := by omega
          simp [go_sem, WpFun, c18, llen, k46, hr']
          refine la (fun _ => ?_) fun h2 => ?_
          · rw [List.drop_zero, hs']
            simp [go_sem, hw1, hw2, hn1, h1]
            exact h
          · rw [List.drop_zero, ha] at h2; cases h2
        · rw [if_neg h1] at h
          have hn1 : ¬ (n : Int) = 1 := by omega
          have km := fun (pure : Bool) (base bar : Nat) (H : Heap) (Q : AV → Heap → Prop) hk => k53m (pure := pure) (base := base) (bar := bar) (H := H) (Q := Q) hvl (by omega) (by omega) hk
          by_cases hz : 0 ∈ L
          · have hz' : (0 : Int) ∈ natsZ L := by unfold natsZ; exact List.mem_map.2 ⟨0, hz, rfl⟩
            rw [if_pos hz'] at h
            simp [go_sem, WpFun, c18, llen, k46, hr']
            refine la (fun _ => ?_) fun h2 => ?_
            · rw [List.drop_zero, hs']
              simp [go_sem, hw1, hw2, hn1, h1]
              refine km _ _ _ _ _ fun m' hm' hall => ?_
              have : m' = 0 := by have := hall 0 hz; omega
              subst this
              simp [go_sem]
              exact h
            · rw [List.drop_zero, ha] at h2; cases h2
          · have hz' : ¬ (0 : Int) ∈ natsZ L := by
              unfold natsZ
              intro hc
              obtain ⟨x, hx, hx0⟩ := List.mem_map.1 hc
              obtain rfl : x = 0 := by omega
              exact hz hx
            rw [if_neg hz'] at h
            have hd1 : ∀ d ∈ L, 1 ≤ d := fun d hd => by
              rcases Nat.eq_zero_or_pos d with e | e
              · subst e; exact absurd hd hz
              · exact e
            have htot := tot_sum hd1
            have hN := (fac_le7 (n - 2) (by omega))
            have lc := fun {R : PQ} hR => l18c (H := H) (base := H.length) (bar := if pure = true then H.length else bar) (R := R) (N := fac (n - 2)) hvl (by omega) hN.2 L.length 0 (by omega) 1 (n - 2) 1 (by simp) (by omega) (Nat.le_refl 1) (by rw [List.drop_zero]; exact hd1) (by rw [List.drop_zero]; omega) hR
            rw [List.drop_zero, hnL] at lc
            have hP : (n : Int) - 2 = ((n - 2 : Nat) : Int) := by omega
            rw [hP] at hw3
            have c1 : ((1 : Nat) : Int) = 1 := rfl
            rw [c1] at lc
            generalize hn2 : n - 2 = P at *
            simp [go_sem, WpFun, c18, llen, k46, hr']
            refine la (fun _ => ?_) fun h2 => ?_
            · rw [List.drop_zero, hs']
              simp [go_sem, hw1, hw2, hn1, h1]
              refine km _ _ _ _ _ fun m' hm' hall => ?_
              have hm0 : ¬ m' = 0 := fun e => by subst e; exact hz hm'
              have hm0' : ¬ (m' : Int) = 0 := by omega
              simp [go_sem, hm0, hm0', hP, hw3, llen]
              refine lc fun out ho hF1 => ?_
              have hout : out = fac P / facAcc 1 L := by rw [← ho, Nat.mul_div_cancel _ hF1]
              rw [← hout] at h
              simp [go_sem]
              exact h
            · rw [List.drop_zero, ha] at h2; cases h2
      · have e : wthE (natsZ L) = 17 := by unfold wthE; rw [hn, if_neg (by simpa using hr), if_neg (by simp [ha]), if_pos hs]
        have eV : wthV (natsZ L) = 0 := by unfold wthV; rw [if_pos (by rw [e]; decide)]
        rw [e, eV] at h
        have hs' : ¬ (0 : Int) + (natsZ L).sum = 2 * (n : Int) - 2 := by rw [Int.zero_add]; exact hs
        simp [go_sem, WpFun, c18, llen, k46, hr']
        refine la (fun _ => ?_) fun h2 => ?_
        · rw [List.drop_zero]
          generalize (0 : Int) + (natsZ L).sum = S at *
          simp [go_sem, hw1, hw2, hs']
          exact h
        · rw [List.drop_zero, ha] at h2; cases h2
  · have hr' : (decide (1 ≤ (n : Int)) && decide ((n : Int) ≤ 9)) = false := by simp; omega
    have e : wthE l = 1 := by unfold wthE; rw [hn, if_pos hr]
    have eV : wthV l = 0 := by unfold wthV; rw [if_pos (by rw [e]; decide)]
    rw [e, eV] at h
    simp [go_sem, WpFun, c18, llen, k46, hr']
    exact h
end Go.Proofs.YtoipleipokpnaaaGreat.Code
end

section
namespace Go.Proofs.YtoipleipokpnaaaGreat.Code
open Go Go.Ab
variable {pure : Bool} {base bar : Nat} {H : Heap} {Q : AV → Heap → Prop} {K : AV → Heap → List Nat → Prop}

theorem l19z {v : AV} {L : List Nat} (hL : isL v L) (hl : L.length ≤ 9) (h9 : ∀ d ∈ L, d ≤ 9) {R : PQ} : ∀ (k i : Nat), i + k = L.length → ∀ o : Nat, o ≤ 5040 → 0 ∈ L.drop i →
    R .ret [(2, .int .i64 0), (3, .int .i64 0)] H →
    Wp E base bar (.loop c19_l1) [(0, v), (4, .int .i64 (L.length : Nat)), (7, .int .i64 (o : Nat)), (8, .int .i64 (i : Nat))] H R := by
  intro k
  induction k with
  | zero =>
    intro i hi o ho hz h
    obtain rfl : i = L.length := by omega
    rw [List.drop_length] at hz; cases hz
  | succ k ih =>
    intro i hi o ho hz h
    have hlt : i < L.length := by omega
    rw [List.drop_eq_getElem_cons hlt] at hz
    have hix := fun (H : Heap) (K : AV → Heap → List Nat → Prop) (k : IntKind) => hL.ix (H := H) (K := K) (k := k) hlt
    have hnext := ih (i + 1) (by omega)
    have hd9 := h9 _ (List.getElem_mem hlt)
    generalize L[i] = d at *
    generalize hlen : L.length = n at *
    rw [wp_round c19_l1.eq_1]
    by_cases hd : d = 0
    · subst hd
      simp [go_sem, hlt, hix, aload]
      exact h
    · have hd' : ¬ (d : Int) = 0 := by omega
      have hw : IntKind.i64.wrap ((d : Int) - 1) = ((d - 1 : Nat) : Int) := by
        rw [Go.IntWalk.i64_in _ (by omega)]; omega
      have hf := fac_le (d - 1) (by omega)
      have hq := quo_n (x := o) (m := fac (d - 1)) (by omega) (by omega)
      have hle : o / fac (d - 1) ≤ o := Nat.div_le_self ..
      have hz2 : 0 ∈ L.drop (i + 1) := by
        rcases List.mem_cons.1 hz with e | e
        · exact absurd e.symm hd
        · exact e
      have hn2 := hnext (o / fac (d - 1)) (by omega) hz2 h
      have kf := fun (pure : Bool) (base bar : Nat) (H : Heap) (Q : AV → Heap → Prop) hk => k54f (pure := pure) (base := base) (bar := bar) (H := H) (Q := Q) (n := d - 1) (by omega) hk
      generalize d - 1 = e at *
      simp [go_sem, hlt, hix, aload, hd, hd', hw]
      refine kf _ _ _ _ _ ?_
      simp [go_sem, hq, i64_suc (show i < 1000000 by omega)]
      exact hn2
theorem l19d {v : AV} {L : List Nat} (hL : isL v L) (hl : L.length ≤ 9) (h9 : ∀ d ∈ L, d ≤ 9) (hz : ¬ 0 ∈ L) {R : PQ} : ∀ (k i : Nat), i + k = L.length → ∀ o : Nat, o ≤ 5040 →
    R (.exit 2) [(0, v), (4, .int .i64 (L.length : Nat)), (7, .int .i64 (divAcc o (L.drop i) : Nat)), (8, .int .i64 (L.length : Nat)), (45, .bool false)] H →
    Wp E base bar (.loop c19_l1) [(0, v), (4, .int .i64 (L.length : Nat)), (7, .int .i64 (o : Nat)), (8, .int .i64 (i : Nat))] H R := by
  intro k
  induction k with
  | zero =>
    intro i hi o ho h
    obtain rfl : i = L.length := by omega
    rw [List.drop_length] at h
    simp only [divAcc] at h
    rw [wp_round c19_l1.eq_1]
    simp [go_sem]
    exact h
  | succ k ih =>
    intro i hi o ho h
    have hlt : i < L.length := by omega
    rw [List.drop_eq_getElem_cons hlt] at h
    simp only [divAcc] at h
    have hix := fun (H : Heap) (K : AV → Heap → List Nat → Prop) (k : IntKind) => hL.ix (H := H) (K := K) (k := k) hlt
    have hnext := ih (i + 1) (by omega)
    have hd9 := h9 _ (List.getElem_mem hlt)
    have hd : ¬ L[i] = 0 := fun e => hz (by rw [← e]; exact List.getElem_mem hlt)
    generalize L[i] = d at *
    generalize hlen : L.length = n at *
    rw [wp_round c19_l1.eq_1]
    have hd' : ¬ (d : Int) = 0 := by omega
    have hw : IntKind.i64.wrap ((d : Int) - 1) = ((d - 1 : Nat) : Int) := by
      rw [Go.IntWalk.i64_in _ (by omega)]; omega
    have hf := fac_le (d - 1) (by omega)
    have hq := quo_n (x := o) (m := fac (d - 1)) (by omega) (by omega)
    have hle : o / fac (d - 1) ≤ o := Nat.div_le_self ..
    have hn2 := hnext (o / fac (d - 1)) (by omega) h
    have kf := fun (pure : Bool) (base bar : Nat) (H : Heap) (Q : AV → Heap → Prop) hk => k54f (pure := pure) (base := base) (bar := bar) (H := H) (Q := Q) (n := d - 1) (by omega) hk
    generalize d - 1 = e at *
    simp [go_sem, hlt, hix, aload, hd, hd', hw]
    refine kf _ _ _ _ _ ?_
    simp [go_sem, hq, i64_suc (show i < 1000000 by omega)]
    exact hn2
theorem k19 {v : AV} {l : List Int} (hv : isZ v l) (h : Q (.tup [.int .i64 (wthV l), .int .i64 (wthE l)]) H) : WpCall E pure base bar 19 [v] H Q := by
  rw [call19]
  have e0 : frzAll bar H [v] = some ([v], H) := by simp [frzAll, frz.frzs, frzsW, hv.frz]
  rw [e0]
  have llen := fun (H : Heap) (K : AV → Heap → List Nat → Prop) => hv.len (H := H) (K := K)
  obtain ⟨n, hn⟩ : ∃ n, l.length = n := ⟨_, rfl⟩
  rw [hn] at llen
  by_cases hr : 1 ≤ n ∧ n ≤ 9
  · have hr' : (decide (1 ≤ (n : Int)) && decide ((n : Int) ≤ 9)) = true := by simp; omega
    have la := fun {R : PQ} h1 h2 => l19a (H := H) (base := H.length) (bar := if pure = true then H.length else bar) (R := R) hv (by omega) l.length 0 (by omega) 0 (Int.le_refl 0) (by omega) h1 h2
    rw [hn] at la
    have hw1 : IntKind.i64.wrap (2 * (n : Int)) = 2 * (n : Int) := Go.IntWalk.i64_in _ (by omega)
    have hw2 : IntKind.i64.wrap (2 * (n : Int) - 2) = 2 * (n : Int) - 2 := Go.IntWalk.i64_in _ (by omega)
    have hw3 : IntKind.i64.wrap ((n : Int) - 2) = (n : Int) - 2 := Go.IntWalk.i64_in _ (by omega)
    cases ha : l.any (outR n) with
    | true =>
      have e : wthE l = 2 := by unfold wthE; rw [hn, if_neg (by simpa using hr), if_pos ha]
      have eV : wthV l = 0 := by unfold wthV; rw [if_pos (by rw [e]; decide)]
      rw [e, eV] at h
      simp [go_sem, WpFun, c19, llen, k47, hr']
      refine la (fun h2 => ?_) fun _ => ?_
      · rw [List.drop_zero, ha] at h2; cases h2
      · simp [go_sem]
        exact h
    | false =>
      obtain ⟨L, rfl, hLm⟩ := nats_of ha
      have hnL : L.length = n := by rw [← hn]; simp [natsZ]
      have hvl : isL v L := hv.l
      by_cases hs : (natsZ L).sum = 2 * (n : Int) - 2
      · have e : wthE (natsZ L) = 0 := by unfold wthE; rw [hn, if_neg (by simpa using hr), if_neg (by simp [ha]), if_neg (by simpa using hs)]
        unfold wthV at h
        rw [e, hn] at h
        simp only [ne_eq, not_true_eq_false, if_false] at h
        rw [natsZ_toNat] at h
        have hs' : (0 : Int) + (natsZ L).sum = 2 * (n : Int) - 2 := by rw [Int.zero_add]; exact hs
        have hsum : L.sum = 2 * n - 2 := by rw [sum_nats] at hs; omega
        by_cases h1 : n = 1
        · rw [if_pos h1] at h
          have hn1 : (n : Int) = 1 := by omega
          simp [go_sem, WpFun, c19, llen, k47, hr']
          refine la (fun _ => ?_) fun h2 => ?_
          · rw [List.drop_zero, hs']
            simp [go_sem, hw1, hw2, hn1, h1]
            exact h
          · rw [List.drop_zero, ha] at h2; cases h2
        · rw [if_neg h1] at h
          have hn1 : ¬ (n : Int) = 1 := by omega
          have hP : (n : Int) - 2 = ((n - 2 : Nat) : Int) := by omega
          rw [hP] at hw3
          have hN := (fac_le7 (n - 2) (by omega))
          have hL9 : ∀ d ∈ L, d ≤ 9 := fun d hd => by have := hLm d hd; omega
          by_cases hz : 0 ∈ L
          · have hz' : (0 : Int) ∈ natsZ L := by unfold natsZ; exact List.mem_map.2 ⟨0, hz, rfl⟩
            rw [if_pos hz'] at h
            have lz := fun {R : PQ} hR => l19z (H := H) (base := H.length) (bar := if pure = true then H.length else bar) (R := R) hvl (by omega) hL9 L.length 0 (by omega) (fac (n - 2)) (by omega) (by rw [List.drop_zero]; exact hz) hR
            rw [hnL] at lz
            have kf := fun (pure : Bool) (base bar : Nat) (H : Heap) (Q : AV → Heap → Prop) hk => k54f (pure := pure) (base := base) (bar := bar) (H := H) (Q := Q) (n := n - 2) (by omega) hk
            generalize hn2 : n - 2 = P at *
            simp [go_sem, WpFun, c19, llen, k47, hr']
            refine la (fun _ => ?_) fun h2 => ?_
            · rw [List.drop_zero, hs']
              simp [go_sem, hw1, hw2, hn1, h1, hP, hw3]
              refine kf _ _ _ _ _ ?_
              simp [go_sem]
              refine lz ?_
              simp [go_sem]
              exact h
            · rw [List.drop_zero, ha] at h2; cases h2
          · have hz' : ¬ (0 : Int) ∈ natsZ L := by
              unfold natsZ
              intro hc
              obtain ⟨x, hx, hx0⟩ := List.mem_map.1 hc
              obtain rfl : x = 0 := by omega
              exact hz hx
            rw [if_neg hz'] at h
            have lz := fun {R : PQ} hR => l19d (H := H) (base := H.length) (bar := if pure = true then H.length else bar) (R := R) hvl (by omega) hL9 hz L.length 0 (by omega) (fac (n - 2)) (by omega) hR
            have hdv := divAcc_eq (N := fac (n - 2)) (L := L) (F := 1)
            rw [Nat.div_one] at hdv
            rw [List.drop_zero, hdv, hnL] at lz
            have kf := fun (pure : Bool) (base bar : Nat) (H : Heap) (Q : AV → Heap → Prop) hk => k54f (pure := pure) (base := base) (bar := bar) (H := H) (Q := Q) (n := n - 2) (by omega) hk
            generalize fac (n - 2) / facAcc 1 L = V at *
            generalize hn2 : n - 2 = P at *
            simp [go_sem, WpFun, c19, llen, k47, hr']
            refine la (fun _ => ?_) fun h2 => ?_
            · rw [List.drop_zero, hs']
              simp [go_sem, hw1, hw2, hn1, h1, hP, hw3]
              refine kf _ _ _ _ _ ?_
              simp [go_sem]
              refine lz ?_
              simp [go_sem]
              exact h
            · rw [List.drop_zero, ha] at h2; cases h2
      · have e : wthE (natsZ L) = 17 := by unfold wthE; rw [hn, if_neg (by simpa using hr), if_neg (by simp [ha]), if_pos hs]
        have eV : wthV (natsZ L) = 0 := by unfold wthV; rw [if_pos (by rw [e]; decide)]
        rw [e, eV] at h
        have hs' : ¬ (0 : Int) + (natsZ L).sum = 2 * (n : Int) - 2 := by rw [Int.zero_add]; exact hs
        simp [go_sem, WpFun, c19, llen, k47, hr']
        refine la (fun _ => ?_) fun h2 => ?_
        · rw [List.drop_zero]
          generalize (0 : Int) + (natsZ L).sum = S at *
          simp [go_sem, hw1, hw2, hs']
          exact h
        · rw [List.drop_zero, ha] at h2; cases h2
  · have hr' : (decide (1 ≤ (n : Int)) && decide ((n : Int) ≤ 9)) = false := by simp; omega
    have e : wthE l = 1 := by unfold wthE; rw [hn, if_pos hr]
    have eV : wthV l = 0 := by unfold wthV; rw [if_pos (by rw [e]; decide)]
    rw [e, eV] at h
    simp [go_sem, WpFun, c19, llen, k47, hr']
    exact h

end Go.Proofs.YtoipleipokpnaaaGreat.Code
end

section
namespace Go.Proofs.YtoipleipokpnaaaGreat.Code
open Go Go.Ab
variable {pure : Bool} {base bar : Nat} {H : Heap} {Q : AV → Heap → Prop} {K : AV → Heap → List Nat → Prop}

theorem nth_same {n x : Int} : ∃ (N : Int) (T : List ZZ), T.length < 1000 ∧
    (∀ (pure : Bool) (base bar : Nat) (H : Heap) (Q : AV → Heap → Prop), bar ≤ H.length → (∀ p, isP p T → Q (.tup [.agg [.int .i64 N, p], .int .i64 (nthE n x)]) H) → WpCall E pure base bar 13 [.int .i64 n, .int .i64 x] H Q) ∧
    (∀ (pure : Bool) (base bar : Nat) (H : Heap) (Q : AV → Heap → Prop), bar ≤ H.length → (∀ p, isP p T → Q (.tup [.agg [.int .i64 N, p], .int .i64 (nthE n x)]) H) → WpCall E pure base bar 14 [.int .i64 n, .int .i64 x] H Q) := by
  by_cases he : nthE n x = 0
  · have hc : 1 ≤ n ∧ n ≤ 9 := by
      apply Decidable.byContradiction
      intro hc
      unfold nthE at he
      rw [if_pos (by unfold cntE; rw [if_neg hc]; decide)] at he
      cases he
    have hx : 0 ≤ x := by
      apply Decidable.byContradiction
      intro hx
      unfold nthE at he
      rw [if_neg (by unfold cntE; rw [if_pos hc]; decide), if_neg (by omega)] at he
      cases he
    obtain ⟨m, rfl⟩ := Int.eq_ofNat_of_zero_le (show 0 ≤ n by omega)
    obtain ⟨y, rfl⟩ := Int.eq_ofNat_of_zero_le hx
    refine ⟨m, tidyF (tieB (rdAll m (dgP m (m - 2) y))) m, by have := tidyF_len (f := tieB (rdAll m (dgP m (m - 2) y))) (n := m); omega, fun pure base bar H Q hb h => ?_, fun pure base bar H Q hb h => ?_⟩
    · refine k13 hb (fun h2 => absurd he h2) fun m' y' u hm' hy' _ hu => ?_
      obtain rfl : m = m' := by omega
      obtain rfl : y = y' := by omega
      obtain ⟨p, hp, rfl⟩ := hu
      rw [he] at h
      exact h p hp
    · refine k14 hb (fun h2 => absurd he h2) fun m' y' u hm' hy' _ hu => ?_
      obtain rfl : m = m' := by omega
      obtain rfl : y = y' := by omega
      obtain ⟨p, hp, rfl⟩ := hu
      rw [he] at h
      exact h p hp
  · refine ⟨0, [], by simp, fun pure base bar H Q hb h => ?_, fun pure base bar H Q hb h => ?_⟩
    · exact k13 hb (fun _ => h _ isP.nil) fun m' y' u hm' hy' h2 => absurd h2 he
    · exact k14 hb (fun _ => h _ isP.nil) fun m' y' u hm' hy' h2 => absurd h2 he

/-- law 3: BranchNumbers -/
theorem numbers_true {n a1 a2 : Int} {q v : AV} {l : List ZZ} {m : List Int} (hq : isP q l) (hv : isZ v m) : ∃ f H', acall E f 3 [.agg [.int .i64 n, q], .int .i64 a1, .int .i64 a2, v] [] = some (.bool true, H') := by
  have key : WpCall E false 0 0 3 [.agg [.int .i64 n, q], .int .i64 a1, .int .i64 a2, v] [] (fun v _ => v = .bool true) := by
    rw [call3]
    have e0 : frzAll 0 [] [.agg [.int .i64 n, q], .int .i64 a1, .int .i64 a2, v] = some ([.agg [.int .i64 n, q], .int .i64 a1, .int .i64 a2, v], []) := by simp [frzAll, frz.frzs, frzsW, frz_agg, frz_int, hq.frz, hv.frz]
    rw [e0]
    by_cases h1 : 60 < l.length
    · simp [go_sem, WpFun, c3, hq.isTup, hq.cells, aload, AV.isTup, AV.cells, k7 hq, h1, call8]
    · by_cases h2 : 60 < m.length
      · have h2' : (60 : Int) < (m.length : Int) := by omega
        simp [go_sem, WpFun, c3, hq.isTup, hq.cells, aload, AV.isTup, AV.cells, k7 hq, h1, hv.len, h2, h2', call8]
      · have h2' : ¬ (60 : Int) < (m.length : Int) := by omega
        obtain ⟨N1, t2, t3⟩ := number_same (n := n) hq (by omega)
        obtain ⟨N2, T2, r1, r2, r3⟩ := nth_same (n := a1) (x := a2)
        obtain ⟨L, l1, l2, l3⟩ := degrees_same (n := n) hq (by omega)
        simp [go_sem, WpFun, c3, hq.isTup, hq.cells, aload, AV.isTup, AV.cells, k7 hq, h1, hv.len, h2, h2', storeWp, astore]
        refine k9 ?_
        simp [go_sem]
        refine k10 ?_
        simp [go_sem, aload]
        refine t2 _ _ _ _ _ (by simp) ?_
        simp [go_sem, aload]
        refine t3 _ _ _ _ _ (by simp) ?_
        simp [go_sem]
        refine r2 _ _ _ _ _ (by simp) fun p1 hp1 => ?_
        simp [go_sem, hp1.isTup, hp1.cells, aload, AV.isTup, AV.cells, storeWp, astore]
        refine r3 _ _ _ _ _ (by simp) fun p2 hp2 => ?_
        simp [go_sem, hp2.isTup, hp2.cells, aload, AV.isTup, AV.cells, storeWp, astore]
        refine k15 hp1 hp2 r1 ?_
        simp [go_sem, aload]
        refine l2 _ _ _ _ _ (by simp) fun p3 hp3 => ?_
        simp [go_sem, aload]
        refine l3 _ _ _ _ _ (by simp) fun p4 hp4 => ?_
        simp [go_sem]
        refine k18 hv ?_
        simp [go_sem]
        refine k19 hv ?_
        simp [go_sem]
        refine k20 hp3 hp4 l1 ?_
        simp [go_sem, call8]
  obtain ⟨f, v, H', h1, rfl⟩ := key
  exact ⟨f, H', h1⟩
end Go.Proofs.YtoipleipokpnaaaGreat.Code
end

