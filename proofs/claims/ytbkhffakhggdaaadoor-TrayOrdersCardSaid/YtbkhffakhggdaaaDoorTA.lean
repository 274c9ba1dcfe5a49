/-
  The law on chains: representatives suffice.
-/
import Derived.Test.YtbkhffakhggdaaaDoorCall
import Derived.Test.YtbkhffakhggdaaaDoorKit
set_option linter.all false
namespace Go.Ab
theorem u8_wf {z : Int} (h : (Lit.int .u8 z).wf = true) : ∃ a : Nat, z = a ∧ a < 256 := by
  simp only [Lit.wf, Bool.and_eq_true, decide_eq_true_eq] at h
  have m0 : IntKind.u8.min = 0 := by decide
  have m1 : IntKind.u8.max = 255 := by decide
  exact ⟨z.toNat, by omega, by omega⟩
end Go.Ab
namespace Go.Proofs.YtbkhffakhggdaaaDoor.Code
open Go Go.Ab

theorem i64_suc {i : Nat} (h : i < 1000000) : IntKind.i64.wrap ((i : Int) + 1) = ((i + 1 : Nat) : Int) := by
  rw [show (i : Int) + 1 = ((i + 1 : Nat) : Int) by omega, i64_nat (by omega)]
theorem natEq {a b : Nat} : ((a : Int) = (b : Int)) ↔ a = b := by omega
theorem shl_i64 {n : Nat} (hn : n < 62) : abin .shl (.int .i64 1) (.int .i64 (n : Int)) = some (.int .i64 ((pw n : Nat) : Int)) := by
  have h2 : (2 : Nat) ^ n < 9223372036854775808 := Nat.lt_of_lt_of_le (Nat.pow_lt_pow_right (by decide) hn) (by decide)
  simp only [abin]
  rw [if_neg (by omega), Int.toNat_natCast, show min n IntKind.i64.bits = n from Nat.min_eq_left (by simp [IntKind.bits]; omega)]
  rw [show (1 : Int) * 2 ^ n = ((2 ^ n : Nat) : Int) by simp, i64_nat h2]; rfl
theorem pw_pos {n : Nat} : 0 < pw n := Nat.two_pow_pos n

/-- a number by its rest -/
structure Rest (a k m : Nat) : Prop where
  tmod : (a : Int).tmod (k : Int) = (m : Int)
  ne : (k : Int) ≠ 0
theorem rest_mod {a k : Nat} (h : 0 < k) : Rest a k (a % k) := ⟨by rw [Go.IntWalk.rem_in _ _ (by omega)]; simp, by omega⟩
theorem rest_self {a k : Nat} (h : a < k) : Rest a k a := by
  have := rest_mod (a := a) (k := k) (by omega)
  rwa [Nat.mod_eq_of_lt h] at this

theorem red8 {a b m x : Nat} {Q : AV → Heap → Prop} (ha : a < 256) (hb : b < 256) (hm : m = a % 6) (hx : x = b % pw (m + 1)) (h : WpCall E false 0 0 8 [.int .u8 (m : Nat), .int .u8 (x : Nat)] [] Q) :
    WpCall E false 0 0 8 [.int .u8 (a : Nat), .int .u8 (b : Nat)] [] Q := by
  have hm6 : m < 6 := by omega
  have hxb : x ≤ b := by rw [hx]; exact Nat.mod_le _ _
  have hx64 : x < 9223372036854775808 := by omega
  have hxp : x < pw (m + 1) := by rw [hx]; exact Nat.mod_lt _ pw_pos
  have r1 : (a : Int).tmod 6 = (m : Int) := by have := (rest_mod (a := a) (k := 6) (by omega)).tmod; rw [← hm] at this; exact this
  have r2 : (m : Int).tmod 6 = (m : Int) := (rest_self hm6).tmod
  have r3 : (b : Int).tmod ((pw (m + 1) : Nat) : Int) = (x : Int) := by have := (rest_mod (a := b) (k := pw (m + 1)) pw_pos).tmod; rw [← hx] at this; exact this
  have r4 : (x : Int).tmod ((pw (m + 1) : Nat) : Int) = (x : Int) := (rest_self hxp).tmod
  have hn : IntKind.i64.wrap (1 + (m : Int)) = ((m + 1 : Nat) : Int) := by rw [show 1 + (m : Int) = ((m + 1 : Nat) : Int) by omega, i64_nat (by omega)]
  have hs := shl_i64 (n := m + 1) (by omega)
  have hpn : ((pw (m + 1) : Nat) : Int) ≠ 0 := by have := pw_pos (n := m + 1); omega
  generalize pw (m + 1) = pm at *
  generalize m + 1 = n at *
  rw [call8] at h ⊢
  simp [go_sem, WpFun, c8, i64_nat (show a < 9223372036854775808 by omega), i64_nat (show b < 9223372036854775808 by omega), i64_nat (show m < 9223372036854775808 by omega), i64_nat hx64, abin_rem (show (6 : Int) ≠ 0 by decide), abin_rem hpn, r1, r2, r3, r4, hn, hs] at h ⊢
  exact h
end Go.Proofs.YtbkhffakhggdaaaDoor.Code
