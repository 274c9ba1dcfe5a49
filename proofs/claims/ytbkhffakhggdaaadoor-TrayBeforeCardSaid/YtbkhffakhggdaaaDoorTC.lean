/-
  The law on the order of sets: a symbolic walk over answers that were computed.
-/
import Derived.Test.YtbkhffakhggdaaaDoorTA
import Derived.Test.YtbkhffakhggdaaaDoorBfAll
set_option linter.all false
namespace Go.Proofs.YtbkhffakhggdaaaDoor.Code
open Go Go.Ab

theorem kc47 {x : Nat} {Q : AV → Heap → Prop} (hx : x < 64) (h : Q (dy x) []) : WpCall E false 0 0 47 [.int .i64 (x : Nat)] [] Q := ⟨200000, _, _, okv_eq (k47_all hx), h⟩
theorem kc50 {x : Nat} {Q : AV → Heap → Prop} (hx : x < 64) (h : Q (.int .i64 (pc x : Nat)) []) : WpCall E false 0 0 50 [.int .i64 (x : Nat)] [] Q := ⟨200000, _, _, okv_eq (k50_all hx), h⟩
theorem kc29 {x : Nat} {Q : AV → Heap → Prop} (hx : x < 64) (h : Q (.bool true) []) : WpCall E false 0 0 29 [dy x, dy x] [] Q := ⟨200000, _, _, okv_eq (k29_all hx), h⟩
theorem kc31 {n x : Nat} {Q : AV → Heap → Prop} (h1 : 1 ≤ n) (h6 : n ≤ 6) (hx : x < pw n) (h : Q (.tup [.int .i64 (bef x : Nat), .int .i64 0]) []) : WpCall E false 0 0 31 [.int .i64 (n : Nat), dy x] [] Q := ⟨200000, _, _, okv_eq (k31_all h1 h6 hx), h⟩
theorem kc33 {n x : Nat} {Q : AV → Heap → Prop} (h1 : 1 ≤ n) (h6 : n ≤ 6) (hx : x < pw n) (h : Q (.tup [dy x, .int .i64 0]) []) : WpCall E false 0 0 33 [.int .i64 (n : Nat), .int .i64 (pc x : Nat), .int .i64 (bef x : Nat)] [] Q := ⟨200000, _, _, okv_eq (k33_all h1 h6 hx), h⟩
theorem kc33n {n x : Nat} {Q : AV → Heap → Prop} (h1 : 1 ≤ n) (h6 : n ≤ 6) (hx : x < pw n) (h : Q (.tup [.nils, .int .i64 2]) []) : WpCall E false 0 0 33 [.int .i64 (n : Nat), .int .i64 (pc x : Nat), .int .i64 (alls n x : Nat)] [] Q := ⟨200000, _, _, okv_eq (k33n_all h1 h6 hx), h⟩

def bz (x z : Nat) : Nat := ((List.range z).filter fun u => Nat.beq (pc u) (pc x) && decide (u < x)).length
def az (x z : Nat) : Nat := ((List.range z).filter fun u => Nat.beq (pc u) (pc x)).length
theorem bz_succ {x z : Nat} : bz x (z + 1) = bz x z + if pc z = pc x ∧ z < x then 1 else 0 := by
  unfold bz
  rw [List.range_succ, List.filter_append, List.length_append]
  by_cases h1 : pc z = pc x <;> by_cases h2 : z < x <;> simp [h1, h2]
theorem az_succ {x z : Nat} : az x (z + 1) = az x z + if pc z = pc x then 1 else 0 := by
  unfold az
  rw [List.range_succ, List.filter_append, List.length_append]
  by_cases h1 : pc z = pc x <;> simp [h1]
theorem bz_end {x z : Nat} (h : x ≤ z) : bz x z = bef x := by
  induction z with
  | zero =>
    obtain rfl : x = 0 := by omega
    rfl
  | succ z ih =>
    by_cases he : x = z + 1
    · subst he
      unfold bz bef
      congr 1
      apply List.filter_congr
      intro u hu
      have := List.mem_range.1 hu
      simp [this]
    · rw [bz_succ, ih (by omega), if_neg (by omega)]; rfl
theorem bz_le {x z : Nat} : bz x z ≤ z := Nat.le_trans (List.length_filter_le _ _) (by simp)
theorem az_le {x z : Nat} : az x z ≤ z := Nat.le_trans (List.length_filter_le _ _) (by simp)
theorem bef_az {x : Nat} : bef x = az x x := rfl
theorem az_mono {x z : Nat} : ∀ {w : Nat}, z ≤ w → az x z ≤ az x w
  | 0, h => by obtain rfl : z = 0 := by omega
               exact Nat.le_refl _
  | w + 1, h => by
    by_cases he : z = w + 1
    · subst he; exact Nat.le_refl _
    · have := az_mono (x := x) (show z ≤ w by omega)
      rw [az_succ]; omega
theorem bef_lt {x y : Nat} (hp : pc x = pc y) : bef x < bef y ↔ x < y := by
  have e : ∀ z, az x z = az y z := fun z => by unfold az; rw [hp]
  have key : ∀ {x y : Nat}, pc x = pc y → x < y → bef x < bef y := fun {x y} hp h => by
    have e : ∀ z, az x z = az y z := fun z => by unfold az; rw [hp]
    rw [bef_az, bef_az, e]
    have h1 := az_succ (x := y) (z := x)
    rw [if_pos hp] at h1
    have h2 := az_mono (x := y) (show x + 1 ≤ y from h)
    omega
  constructor
  · intro h
    rcases Nat.lt_trichotomy x y with h1 | h1 | h1
    · exact h1
    · subst h1; omega
    · have := key hp.symm h1; omega
  · exact key hp

theorem l10 {n x : Nat} {y : Int} (hn : n ≤ 6) (hx : x < pw n) {R : PQ} : ∀ (k z : Nat), z + k = pw n →
    R (.exit 0) [(7, .int .i64 (n : Nat)), (8, .int .i64 (x : Nat)), (9, .int .i64 y), (10, .int .i64 (bef x : Nat)), (11, .int .i64 (alls n x : Nat)), (36, .int .i64 (pw n : Nat)), (37, .int .i64 (pw n : Nat)), (38, .bool false)] [] →
    Wp E 0 0 (.loop c10_l0) [(7, .int .i64 (n : Nat)), (8, .int .i64 (x : Nat)), (9, .int .i64 y), (10, .int .i64 (bz x z : Nat)), (11, .int .i64 (az x z : Nat)), (36, .int .i64 (pw n : Nat)), (37, .int .i64 (z : Nat))] [] R := by
  have hp : pw n ≤ 64 := Nat.le_trans (Nat.pow_le_pow_right (by decide) hn) (by decide : 2 ^ 6 ≤ 64)
  intro k
  induction k with
  | zero =>
    intro z hz h
    obtain rfl : z = pw n := by omega
    rw [wp_round c10_l0.eq_1]
    simp [go_sem]
    rw [bz_end (by omega)]
    exact h
  | succ k ih =>
    intro z hz h
    have hlt : z < pw n := by omega
    have next := ih (z + 1) (by omega) h
    have b1 := bz_le (x := x) (z := z)
    have b2 := az_le (x := x) (z := z)
    rw [bz_succ, az_succ] at next
    rw [wp_round c10_l0.eq_1]
    simp [go_sem, hlt]
    refine kc50 (by omega) ?_
    simp [go_sem]
    refine kc50 (by omega) ?_
    by_cases h1 : pc z = pc x
    · simp [go_sem, h1, natEq, i64_suc (show az x z < 1000000 by omega)]
      by_cases h2 : z < x
      · rw [if_pos ⟨h1, h2⟩, if_pos h1] at next
        simp [go_sem, h2, i64_suc (show bz x z < 1000000 by omega), i64_suc (show z < 1000000 by omega)]
        exact next
      · rw [if_neg (by omega), if_pos h1] at next
        simp [go_sem, h2, i64_suc (show z < 1000000 by omega)]
        exact next
    · rw [if_neg (by omega), if_neg h1] at next
      simp [go_sem, h1, natEq, i64_suc (show z < 1000000 by omega)]
      exact next

theorem law10 {a b c : Nat} (ha : a < 256) (hb : b < 256) (hc : c < 256) : WpCall E false 0 0 10 [.int .u8 (a : Nat), .int .u8 (b : Nat), .int .u8 (c : Nat)] [] (fun v _ => v = .bool true) := by
  obtain ⟨m, hm⟩ : ∃ m, m = a % 6 := ⟨_, rfl⟩
  obtain ⟨x, hx⟩ : ∃ x, x = b % pw (m + 1) := ⟨_, rfl⟩
  obtain ⟨y, hy⟩ : ∃ y, y = c % pw (m + 1) := ⟨_, rfl⟩
  have hm6 : m < 6 := by omega
  have r1 : (a : Int).tmod 6 = (m : Int) := by have := (rest_mod (a := a) (k := 6) (by omega)).tmod; rw [← hm] at this; exact this
  have r3 : (b : Int).tmod ((pw (m + 1) : Nat) : Int) = (x : Int) := by have := (rest_mod (a := b) (k := pw (m + 1)) pw_pos).tmod; rw [← hx] at this; exact this
  have r4 : (c : Int).tmod ((pw (m + 1) : Nat) : Int) = (y : Int) := by have := (rest_mod (a := c) (k := pw (m + 1)) pw_pos).tmod; rw [← hy] at this; exact this
  have hxp : x < pw (m + 1) := by rw [hx]; exact Nat.mod_lt _ pw_pos
  have hyp : y < pw (m + 1) := by rw [hy]; exact Nat.mod_lt _ pw_pos
  have hn : IntKind.i64.wrap (1 + (m : Int)) = ((m + 1 : Nat) : Int) := by rw [show 1 + (m : Int) = ((m + 1 : Nat) : Int) by omega, i64_nat (by omega)]
  have hs := shl_i64 (n := m + 1) (by omega)
  have hpn : ((pw (m + 1) : Nat) : Int) ≠ 0 := by have := pw_pos (n := m + 1); omega
  have h1 : 1 ≤ m + 1 := by omega
  have h6 : m + 1 ≤ 6 := by omega
  clear hm hx hy
  generalize m + 1 = n at *
  have hp : pw n ≤ 64 := Nat.le_trans (Nat.pow_le_pow_right (by decide) h6) (by decide : 2 ^ 6 ≤ 64)
  rw [call10]
  simp [go_sem, WpFun, c10, i64_nat (show a < 9223372036854775808 by omega), i64_nat (show b < 9223372036854775808 by omega), i64_nat (show c < 9223372036854775808 by omega), abin_rem (show (6 : Int) ≠ 0 by decide), abin_rem hpn, r1, r3, r4, hn, hs]
  refine l10 h6 hxp (pw n) 0 (by omega) ?_
  simp [go_sem]
  refine kc47 (by omega) ?_
  simp [go_sem]
  refine kc31 h1 h6 hxp ?_
  simp [go_sem]
  refine kc50 (by omega) ?_
  simp [go_sem]
  refine kc33 h1 h6 hxp ?_
  simp [go_sem]
  refine kc50 (by omega) ?_
  simp [go_sem]
  refine kc33n h1 h6 hxp ?_
  simp [go_sem, natEq]
  refine kc47 (by omega) ?_
  simp [go_sem]
  refine kc29 (by omega) ?_
  simp [go_sem]
  refine kc47 (by omega) ?_
  simp [go_sem]
  refine kc31 h1 h6 hyp ?_
  simp [go_sem]
  refine kc50 (by omega) ?_
  simp [go_sem]
  refine kc50 (by omega) ?_
  by_cases hpc : pc x = pc y
  · have hlt := bef_lt hpc
    by_cases hxy : x < y
    · have := hlt.2 hxy
      simp [go_sem, hpc, natEq, hxy, this, call15, eqWp, aeq, eqCell]
    · have : ¬ bef x < bef y := fun h => hxy (hlt.1 h)
      simp [go_sem, hpc, natEq, hxy, this, call15, eqWp, aeq, eqCell]
  · simp [go_sem, hpc, natEq, call15]
theorem before_true {a b c : Nat} (ha : a < 256) (hb : b < 256) (hc : c < 256) : ∃ f H', acall E f 10 [.int .u8 (a : Nat), .int .u8 (b : Nat), .int .u8 (c : Nat)] [] = some (.bool true, H') := by
  obtain ⟨f, v, H', h, rfl⟩ := law10 ha hb hc
  exact ⟨f, H', h⟩
end Go.Proofs.YtbkhffakhggdaaaDoor.Code
