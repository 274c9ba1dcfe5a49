/-
  Part of the proofs about this chapter: contracts of functions and plain laws.
-/
import Derived.Test.YthoogegclpiefaaQA
import Derived.Test.YthoogegclpiefaaAbLst
set_option linter.all false
namespace Go.Proofs.Ythoogegclpiefaa.Code
open Go Go.Ab
variable {pure : Bool} {base bar : Nat} {H : Heap} {Q : AV → Heap → Prop}

theorem k87 {s x : Nat} (hs : s < 256) : WpCall E pure base bar 87 [.int .u8 s, .int .i64 x] H Q ↔ Q (.bool (s.testBit x)) H := by
  rw [call87]
  simp [go_sem, WpFun, c87, shr_u8, and_u8_one, shr_lt hs, shr_bit s hs]
  cases s.testBit x <;> simp
theorem k90 {n : Int} : WpCall E pure base bar 90 [.int .i64 n] H Q ↔ Q (.bool false) H := by
  rw [call90]
  simp [go_sem, WpFun, c90]
def cmp3 (a b : Nat) : Int := if a < b then -1 else if b < a then 1 else 0
theorem k88 {a b : Nat} : WpCall E pure base bar 88 [.int .i64 a, .int .i64 b] H Q ↔ Q (.int .i64 (cmp3 a b)) H := by
  rw [call88]
  simp [go_sem, WpFun, c88, k90]

  unfold cmp3
  by_cases h : a < b
  · simp [h]
  · by_cases h2 : b < a <;> simp [h, h2]

/-- two people quarrel -/
def joinW (w : Nat → Nat) (a b : Nat) : Nat → Nat := upd (upd w a (bor (w a) (pw b))) b (bor (upd w a (bor (w a) (pw b)) b) (pw a))
theorem upd_lt {w : Nat → Nat} {i x : Nat} (hw : ∀ j, w j < 256) (hx : x < 256) : ∀ j, upd w i x j < 256 := fun j => by unfold upd; split <;> simp [*]
theorem joinW_lt {w : Nat → Nat} {a b : Nat} (hw : ∀ j, w j < 256) (ha : a < 8) (hb : b < 8) : ∀ j, joinW w a b j < 256 := by
  have h1 := upd_lt (i := a) hw (bor_lt (hw a) (pw_lt hb))
  exact upd_lt h1 (bor_lt (h1 b) (pw_lt ha))
theorem k81 {id ver n a b : Nat} {ex : Bool} {w : Nat → Nat} (hid : H[id]? = some (.row ver (wcells n w) 0 ex)) (hw : ∀ x, w x < 256) (ha : a < 8) (hb : b < 8) (hbar : bar ≤ id)
    (h : Q (.tup []) (H.set id (.row ver (wcells n (joinW w a b)) 0 ex))) :
    WpCall E false base bar 81 [.ptr id ver 0, .int .i64 a, .int .i64 b] H Q := by
  rw [call81]
  have h1 := upd_lt (i := a) hw (bor_lt (hw a) (pw_lt hb))
  simp [go_sem, WpFun, c81, ha, hb, loadW hid, storeW hid, shl_u8, or_u8, hw, pw_lt, hbar, loadW (set_row hid), storeW (set_row hid), h1, set_take]
  exact h

/-- the number at the head of a workroom, and of whom each one's enemies are -/
theorem k89_tab : ∀ i, i < 256 → c89_b0[i]? = some (bitsOf i).length.toUInt8 := by decide +kernel
theorem k83 {s : Nat} (hs : s < 256) : WpCall E pure base bar 83 [.int .u8 s] H Q ↔ Q (.int .i64 ((bitsOf s).length : Nat)) H := by
  rw [call83]
  have h2 := bits_len s
  have e : (((bitsOf s).length : Nat) : Int) % 256 = (bitsOf s).length := by omega
  simp [go_sem, WpFun, c83, call89, c89, aop, AV.asNat, k89_tab s hs, e, i64_nat (show (bitsOf s).length < 9223372036854775808 by omega)]
end Go.Proofs.Ythoogegclpiefaa.Code
