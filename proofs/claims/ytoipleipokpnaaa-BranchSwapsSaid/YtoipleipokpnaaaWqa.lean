/-
  Parts of the proofs about this chapter, joined: contracts of functions and plain laws.
-/
import Derived.Test.YtoipleipokpnaaaKit
import Derived.Test.YtoipleipokpnaaaCall
set_option linter.all false
section
namespace Go.Proofs.Ytoipleipokpnaaa.Code
open Go Go.Ab
attribute [go_sem ↓] wpop_app
variable {pure : Bool} {base bar : Nat} {H : Heap} {Q : AV → Heap → Prop}
theorem i64_suc {i : Nat} (h : i < 1000000) : IntKind.i64.wrap ((i : Int) + 1) = ((i + 1 : Nat) : Int) := by
  rw [Go.IntWalk.i64_in _ (by omega)]; omega
theorem bar_if {pure : Bool} (hb : bar ≤ H.length) : (if pure = true then H.length else bar) ≤ H.length := by split <;> omega
/-! sets of knots: numbers below 512, in 16 bits -/
theorem u16_nat {a : Nat} (h : a < 65536) : IntKind.u16.wrap (a : Int) = a := Go.IntWalk.u16_in _ (by omega)
def bxor (a b : Nat) : Nat := a ^^^ b
def bcl (a b : Nat) : Nat := a &&& (511 ^^^ b)
def bsr (a b : Nat) : Nat := a / 2 ^ (min b 16)
theorem pw9 {b : Nat} (hb : b < 9) : pw b < 512 := Nat.pow_lt_pow_right (by decide) hb
theorem band9 {a b : Nat} (ha : a < 512) : band a b < 512 := Nat.lt_of_le_of_lt Nat.and_le_left ha
theorem bor9 {a b : Nat} (ha : a < 512) (hb : b < 512) : bor a b < 512 := Nat.or_lt_two_pow (n := 9) ha hb
theorem bxor9 {a b : Nat} (ha : a < 512) (hb : b < 512) : bxor a b < 512 := Nat.xor_lt_two_pow (n := 9) ha hb
theorem bcl9 {a b : Nat} (ha : a < 512) : bcl a b < 512 := Nat.lt_of_le_of_lt Nat.and_le_left ha
theorem testBit_bxor {a b i : Nat} : (bxor a b).testBit i = (a.testBit i ^^ b.testBit i) := Nat.testBit_xor ..
theorem bit9 {a i : Nat} (ha : a < 512) (h : a.testBit i = true) : i < 9 := by
  apply Decidable.byContradiction
  intro hi
  rw [Nat.testBit_lt_two_pow (Nat.lt_of_lt_of_le ha (Nat.pow_le_pow_right (by decide) (Nat.not_lt.1 hi) : 2 ^ 9 ≤ 2 ^ i))] at h
  cases h
theorem testBit_bcl {a b i : Nat} (ha : a < 512) : (bcl a b).testBit i = (a.testBit i && !b.testBit i) := by
  unfold bcl
  rw [Nat.testBit_and, Nat.testBit_xor]
  by_cases hi : i < 9
  · have : ∀ i, i < 9 → Nat.testBit 511 i = true := by decide
    rw [this i hi]; cases b.testBit i <;> simp
  · have : a.testBit i = false := by
      cases h : a.testBit i
      · rfl
      · exact absurd (bit9 ha h) hi
    rw [this]; simp
theorem and_u16 {a b : Nat} (ha : a < 512) (hb : b < 512) : abin .and (.int .u16 a) (.int .u16 b) = some (.int .u16 ((band a b : Nat) : Int)) := by
  have e : (BitVec.ofInt 16 (a : Int) &&& BitVec.ofInt 16 (b : Int)).toNat = band a b := by
    rw [BitVec.toNat_and, ofInt_toNat (w := 16) (by omega), ofInt_toNat (w := 16) (by omega)]; rfl
  have := band9 (b := b) ha
  simp only [abin, binInt, if_true]
  rw [show IntKind.u16.bits = 16 from rfl, e, u16_nat (by omega)]
theorem or_u16 {a b : Nat} (ha : a < 512) (hb : b < 512) : abin .or (.int .u16 a) (.int .u16 b) = some (.int .u16 ((bor a b : Nat) : Int)) := by
  have e : (BitVec.ofInt 16 (a : Int) ||| BitVec.ofInt 16 (b : Int)).toNat = bor a b := by
    rw [BitVec.toNat_or, ofInt_toNat (w := 16) (by omega), ofInt_toNat (w := 16) (by omega)]; rfl
  have := bor9 ha hb
  simp only [abin, binInt, if_true]
  rw [show IntKind.u16.bits = 16 from rfl, e, u16_nat (by omega)]
theorem xor_u16 {a b : Nat} (ha : a < 512) (hb : b < 512) : abin .xor (.int .u16 a) (.int .u16 b) = some (.int .u16 ((bxor a b : Nat) : Int)) := by
  have e : (BitVec.ofInt 16 (a : Int) ^^^ BitVec.ofInt 16 (b : Int)).toNat = bxor a b := by
    rw [BitVec.toNat_xor, ofInt_toNat (w := 16) (by omega), ofInt_toNat (w := 16) (by omega)]; rfl
  have := bxor9 ha hb
  simp only [abin, binInt, if_true]
  rw [show IntKind.u16.bits = 16 from rfl, e, u16_nat (by omega)]
theorem andNot_u16 {a b : Nat} (ha : a < 512) (hb : b < 512) : abin .andNot (.int .u16 a) (.int .u16 b) = some (.int .u16 ((bcl a b : Nat) : Int)) := by
  have e : (BitVec.ofInt 16 (a : Int) &&& ~~~ BitVec.ofInt 16 (b : Int)).toNat = bcl a b := by
    rw [BitVec.toNat_and, BitVec.toNat_not, ofInt_toNat (w := 16) (by omega), ofInt_toNat (w := 16) (by omega)]
    apply Nat.eq_of_testBit_eq
    intro i
    rw [testBit_bcl ha, Nat.testBit_and]
    cases h : a.testBit i
    · simp
    · have hi := bit9 ha h
      have : ∀ b, b < 512 → ∀ i, i < 9 → (2 ^ 16 - 1 - b).testBit i = !b.testBit i := by decide +kernel
      rw [this b hb i hi]
  have := bcl9 (b := b) ha
  simp only [abin, binInt, if_true]
  rw [show IntKind.u16.bits = 16 from rfl, e, u16_nat (by omega)]
theorem shl_u16 {b : Nat} (hb : b < 10) : abin .shl (.int .u16 1) (.int .i64 (b : Int)) = some (.int .u16 ((pw b : Nat) : Int)) := by
  have h2 : (2 : Nat) ^ b < 65536 := Nat.lt_of_lt_of_le (Nat.pow_lt_pow_right (by decide) hb) (by decide)
  simp only [abin]
  rw [if_neg (by omega), Int.toNat_natCast, show min b IntKind.u16.bits = b from Nat.min_eq_left (by simp [IntKind.bits]; omega)]
  rw [show (1 : Int) * 2 ^ b = ((2 ^ b : Nat) : Int) by simp, u16_nat h2]; rfl
theorem shr_u16 {a b : Nat} : abin .shr (.int .u16 (a : Int)) (.int .i64 (b : Int)) = some (.int .u16 ((bsr a b : Nat) : Int)) := by
  simp only [abin]
  rw [if_neg (by omega)]
  simp only [Int.toNat_natCast, show IntKind.u16.bits = 16 from rfl]
  congr 2
  rw [show (2 : Int) ^ (min b 16) = ((2 ^ (min b 16) : Nat) : Int) by simp, Int.fdiv_eq_ediv_of_nonneg _ (Int.natCast_nonneg _)]
  exact (Int.natCast_ediv _ _).symm
theorem bsr9 {a b : Nat} (ha : a < 512) : bsr a b < 512 := Nat.lt_of_le_of_lt (Nat.div_le_self _ _) ha
theorem bsr_bit {a b : Nat} (ha : a < 512) (hb : b < 9) : band (bsr a b) 1 = (a.testBit b).toNat := by
  have : ∀ a, a < 512 → ∀ b, b < 9 → band (bsr a b) 1 = (a.testBit b).toNat := by decide +kernel
  exact this a ha b hb
theorem k50 {a b c : Int} : WpCall E pure base bar 50 [.int .i64 a, .int .i64 b, .int .i64 c] H Q ↔ Q (.bool (decide (b ≤ a) && decide (a ≤ c))) H := by
  rw [call50]
  by_cases h : b ≤ a <;> simp [go_sem, WpFun, c50, h]
theorem k63 {s b : Nat} (hs : s < 512) (hb : b < 9) : WpCall E pure base bar 63 [.int .u16 (s : Nat), .int .i64 (b : Nat)] H Q ↔ Q (.bool (s.testBit b)) H := by
  rw [call63]
  have e := bsr_bit hs hb
  have e1 : abin .and (.int .u16 (bsr s b : Nat)) (.int .u16 1) = some (.int .u16 ((band (bsr s b) 1 : Nat) : Int)) := and_u16 (b := 1) (bsr9 hs) (by decide)
  rw [e] at e1
  cases h : s.testBit b <;> simp [h] at e1 <;> simp [go_sem, WpFun, c63, shr_u16, e1]
/-- the knots of a set -/
def bitsN (s : Nat) : List Nat := (List.range 9).filter s.testBit
theorem mem_bitsN {s a : Nat} (hs : s < 512) : a ∈ bitsN s ↔ s.testBit a = true := by
  unfold bitsN
  rw [List.mem_filter, List.mem_range]
  exact ⟨fun h => h.2, fun h => ⟨bit9 hs h, h⟩⟩
theorem bitsN_lt {s a : Nat} (h : a ∈ bitsN s) : a < 9 := by
  unfold bitsN at h
  exact List.mem_range.1 (List.mem_filter.1 h).1
theorem bitsN_len {s : Nat} : (bitsN s).length ≤ 9 := by
  have := List.length_filter_le s.testBit (List.range 9)
  rwa [List.length_range] at this
theorem l58 {s : Nat} (hs : s < 512) {H0 : Heap} (hb : bar ≤ H0.length) (hbase : base ≤ H0.length) {R : PQ} :
    ∀ (k i : Nat), i + k = 9 → ∀ (v : AV) (H : Heap), Grow 1 (nats ((List.range i).filter s.testBit)) H0 v H →
    (∀ v' H', Grow 1 (nats (bitsN s)) H0 v' H' → R (.exit 0) [(0, .int .u16 (s : Nat)), (3, v'), (5, .int .i64 9), (6, .bool false)] H') →
    Wp E base bar (.loop c58_l0) [(0, .int .u16 (s : Nat)), (3, v), (5, .int .i64 (i : Nat))] H R := by
  intro k
  induction k with
  | zero =>
    intro i hi v H g h
    obtain rfl : i = 9 := by omega
    rw [wp_round c58_l0.eq_1]
    simp [go_sem]
    exact h v H g
  | succ k ih =>
    intro i hi v H g h
    have hlt : i < 9 := by omega
    have hlen : ((List.range i).filter s.testBit).length ≤ i := by
      have := List.length_filter_le s.testBit (List.range i)
      rwa [List.length_range] at this
    have hr : (List.range (i + 1)).filter s.testBit = if s.testBit i then (List.range i).filter s.testBit ++ [i] else (List.range i).filter s.testBit := by
      rw [List.range_succ, List.filter_append]
      cases h : s.testBit i <;> simp [h]
    have hlt' : (i : Int) < 9 := by omega
    have hnext := fun v H g => ih (i + 1) (by omega) v H g h
    rw [wp_round c58_l0.eq_1]
    cases hbit : s.testBit i with
    | false =>
      rw [hbit] at hr
      simp only [Bool.false_eq_true, if_false] at hr
      simp [go_sem, hlt', k63 hs hlt, hbit, i64_suc (show i < 1000000 by omega)]
      exact hnext v H (by rw [hr]; exact g)
    | true =>
      rw [hbit] at hr
      simp only [if_true] at hr
      simp [go_sem, hlt', k63 hs hlt, hbit, aop, fillA, setCells, chunks]
      refine g.nat hb hbase (by omega) fun v' H' tc g' => ?_
      simp [go_sem, i64_suc (show i < 1000000 by omega)]
      exact hnext v' H' (by rw [hr]; exact g')
theorem k58 {s : Nat} (hs : s < 512) (hb : bar ≤ H.length) (h : Q (outL 1 (nats (bitsN s))) H) : WpCall E pure base bar 58 [.int .u16 (s : Nat)] H Q := by
  rw [call58]
  have hb' := bar_if (pure := pure) hb
  simp [go_sem, WpFun, c58]
  refine l58 (H0 := H) hs hb' (by omega) 9 0 rfl .nils H (by simpa [nats] using Grow.nil) fun v' H' g => ?_
  simp [go_sem]
  refine g.out hb' (by omega) ?_
  rw [List.take_length]; exact h
end Go.Proofs.Ytoipleipokpnaaa.Code
end
section
namespace Go.Proofs.Ytoipleipokpnaaa.Code
open Go Go.Ab
variable {pure : Bool} {base bar : Nat} {H : Heap} {Q : AV → Heap → Prop}
/-- the cells of a wood -/
def wc (n : Nat) (w : Nat → Nat) : List AV := (List.range n).map fun a => .int .u16 ((w a : Nat) : Int)
theorem wc_len {n : Nat} {w : Nat → Nat} : (wc n w).length = n := by simp [wc]
theorem wc_get {n i : Nat} {w : Nat → Nat} (hi : i < n) : (wc n w)[i]? = some (.int .u16 ((w i : Nat) : Int)) := by simp [wc, hi]
theorem wc_getE {n i : Nat} {w : Nat → Nat} (h : i < (wc n w).length) : (wc n w)[i]'h = .int .u16 ((w i : Nat) : Int) := by simp [wc]
theorem wc_plain {n : Nat} {w : Nat → Nat} : ∀ c ∈ wc n w, Plain c := fun c hc => by
  simp only [wc, List.mem_map] at hc
  obtain ⟨a, _, rfl⟩ := hc; exact Plain.int
theorem wc_set {n i x : Nat} {w : Nat → Nat} (hi : i < n) : setCells (wc n w) i [.int .u16 (x : Nat)] = wc n (upd w i x) := by
  simp only [setCells]
  apply List.ext_getElem?
  intro j
  rw [List.getElem?_set]
  by_cases hj : i = j
  · subst hj
    rw [if_pos rfl, if_pos (by rw [wc_len]; exact hi), wc_get hi]; simp [upd]
  · rw [if_neg hj]
    rcases Nat.lt_or_ge j n with h | h
    · rw [wc_get h, wc_get h]; simp [upd, show ¬ j = i by omega]
    · rw [List.getElem?_eq_none (by rw [wc_len]; exact h), List.getElem?_eq_none (by rw [wc_len]; exact h)]
/-- a wood that can be read -/
def RW (wv : AV) (n : Nat) (w : Nat → Nat) (H : Heap) : Prop := (∃ id ver fz ex, wv = .vec id ver 0 n 1 ∧ H[id]? = some (.row ver (wc n w) fz ex)) ∨ ∃ ex, wv = .lst 1 ex (wc n w)
theorem RW.vec {id ver n fz : Nat} {ex : Bool} {w : Nat → Nat} (h : H[id]? = some (.row ver (wc n w) fz ex)) : RW (.vec id ver 0 n 1) n w H := .inl ⟨id, ver, fz, ex, rfl, h⟩
theorem RW.lst {n : Nat} {ex : Bool} {w : Nat → Nat} : RW (.lst 1 ex (wc n w)) n w H := .inr ⟨ex, rfl⟩
theorem RW.len {wv : AV} {n : Nat} {w : Nat → Nat} (h : RW wv n w H) {H' : Heap} {K : AV → Heap → List Nat → Prop} : lenWp (some wv) H' K = K (.int .i64 (n : Int)) H' [] := by
  rcases h with ⟨id, ver, fz, ex, rfl, _⟩ | ⟨ex, rfl⟩
  · rfl
  · rw [lenWp_lst, wc_len]
theorem RW.ix {wv : AV} {n : Nat} {w : Nat → Nat} (h : RW wv n w H) {i : Nat} (hi : i < n) : ∃ p, (∀ {H' : Heap} {k : IntKind} {K : AV → Heap → List Nat → Prop}, ixaSWp 1 (some wv) (some (.int k (i : Int))) H' K = K p H' []) ∧ ∀ {s : Nat}, aload H ⟨false, s⟩ p = some (.int .u16 ((w i : Nat) : Int)) := by
  rcases h with ⟨id, ver, fz, ex, rfl, h⟩ | ⟨ex, rfl⟩
  · exact ⟨.ptr id ver i, fun {H' k K} => by simp [go_sem, hi], fun {s} => by rw [aload_ptr h, part_one, wc_get hi]⟩
  · exact ⟨.fp (.int .u16 ((w i : Nat) : Int)), fun {H' k K} => by simp [go_sem, wc_get hi], fun {s} => rfl⟩
theorem RW.mono {wv : AV} {n : Nat} {w : Nat → Nat} {H' : Heap} (h : RW wv n w H) (hH : ∀ (i : Nat) (b : Blk), H[i]? = some b → H'[i]? = some b) : RW wv n w H' := by
  rcases h with ⟨id, ver, fz, ex, rfl, h⟩ | ⟨ex, rfl⟩
  · exact .inl ⟨id, ver, fz, ex, rfl, hH _ _ h⟩
  · exact .inr ⟨ex, rfl⟩
theorem RW.app {wv : AV} {n : Nat} {w : Nat → Nat} (h : RW wv n w H) (G : Heap) : RW wv n w (H ++ G) := h.mono fun i b hb => by
  rw [List.getElem?_append_left (List.getElem?_eq_some_iff.1 hb).1]; exact hb
/-! may: the error of a tie -/
def mayS (n : Int) (p : ZZ) : Int := if ¬ (0 ≤ p.1 ∧ p.1 ≤ n - 1) ∨ ¬ (0 ≤ p.2 ∧ p.2 ≤ n - 1) then 2 else if p.1 = p.2 then 13 else 0
theorem i64_pred {n : Nat} (hn : n ≤ 9) : IntKind.i64.wrap ((n : Int) - 1) = (n : Int) - 1 := Go.IntWalk.i64_in _ (by omega)
theorem k60 {wv : AV} {n : Nat} {w : Nat → Nat} {p : ZZ} (h : RW wv n w H) (hn : n ≤ 9) (k : Q (.int .i64 (mayS n p)) H) : WpCall E pure base bar 60 [wv, .agg [.int .i64 p.1, .int .i64 p.2]] H Q := by
  rw [call60]
  have e1 := i64_pred hn
  unfold mayS at k
  by_cases h1 : 0 ≤ p.1 ∧ p.1 ≤ (n : Int) - 1
  · by_cases h2 : 0 ≤ p.2 ∧ p.2 ≤ (n : Int) - 1
    · rw [if_neg (by simp [h1, h2])] at k
      by_cases h3 : p.1 = p.2
      · rw [if_pos h3] at k
        simp [go_sem, WpFun, c60, AV.isTup, AV.cells, aload, h.len, e1, k50, h1, h2, h3]
        exact k
      · rw [if_neg h3] at k
        simp [go_sem, WpFun, c60, AV.isTup, AV.cells, aload, h.len, e1, k50, h1, h2, h3]
        exact k
    · rw [if_pos (.inr h2)] at k
      have h2' : (decide (0 ≤ p.2) && decide (p.2 ≤ (n : Int) - 1)) = false := by simpa using h2
      simp [go_sem, WpFun, c60, AV.isTup, AV.cells, aload, h.len, e1, k50, h1, h2']
      exact k
  · rw [if_pos (.inl h1)] at k
    have h1' : (decide (0 ≤ p.1) && decide (p.1 ≤ (n : Int) - 1)) = false := by simpa using h1
    simp [go_sem, WpFun, c60, AV.isTup, AV.cells, aload, h.len, e1, k50, h1']
    exact k
/-! tie -/
def tieW (w : Nat → Nat) (a b : Nat) : Nat → Nat := upd (upd w a (bxor (w a) (pw b))) b (bxor (upd w a (bxor (w a) (pw b)) b) (pw a))
theorem k61 {id ver n a b : Nat} {ex : Bool} {w : Nat → Nat} (h : H[id]? = some (.row ver (wc n w) 0 ex)) (hn : n ≤ 9) (hw : ∀ i, w i < 512) (ha : a < n) (hb : b < n) (hbar : bar ≤ id)
    (k : Q (.tup []) (H.set id (.row ver (wc n (tieW w a b)) 0 ex))) : WpCall E false base bar 61 [.vec id ver 0 n 1, .agg [.int .i64 (a : Nat), .int .i64 (b : Nat)]] H Q := by
  rw [call61]
  have hid := (List.getElem?_eq_some_iff.1 h).1
  have h1 : ∀ G, (H ++ G)[id]? = some (.row ver (wc n w) 0 ex) := fun G => by rw [List.getElem?_append_left hid]; exact h
  have e1 := shl_u16 (show b < 10 by omega)
  have e2 := shl_u16 (show a < 10 by omega)
  have e3 := xor_u16 (hw a) (pw9 (show b < 9 by omega))
  have hw' : upd w a (bxor (w a) (pw b)) b < 512 := by
    unfold upd
    split
    · exact bxor9 (hw a) (pw9 (by omega))
    · exact hw b
  have e4 := xor_u16 hw' (pw9 (show a < 9 by omega))
  have s1 : ∀ (G : Heap) b, (H ++ G).set id b = H.set id b ++ G := fun G b => List.set_append_left _ _ hid
  have s2 : ∀ (G : Heap) b, (H.set id b ++ G)[id]? = some b := fun G b => by rw [List.getElem?_append_left (by simpa using hid), List.getElem?_set_self hid]
  have s3 : ∀ (G : Heap) b, (H.set id b ++ G)[H.length]? = G[0]? := fun G b => by
    rw [show H.length = (H.set id b).length by simp, own_get0]
  have s4 : ∀ (G : Heap) b c, (H.set id b ++ G).set id c = H.set id c ++ G := fun G b c => by
    rw [List.set_append_left _ _ (by simpa using hid), List.set_set]
  have s5 : ∀ (G : Heap) b, (H.set id b ++ G).take H.length = H.set id b := fun G b => by
    rw [show H.length = (H.set id b).length by simp, List.take_left]
  have c1 : bar ≤ H.length := by omega
  have hk := k
  unfold tieW at hk
  generalize hx : bxor (w a) (pw b) = x at *
  generalize hy : bxor (upd w a x b) (pw a) = y at *
  simp [go_sem, WpFun, c61, AV.isTup, AV.cells, aload, storeWp, astore, h1, wc_get, wc_getE, wc_len, ha, hb, e1, e2, e3, hbar, wc_set, s1, s2, s3, s4, s5, e4, show a + 1 ≤ n from ha, show b + 1 ≤ n from hb]
  exact hk
end Go.Proofs.Ytoipleipokpnaaa.Code
end
section
namespace Go.Proofs.Ytoipleipokpnaaa.Code
open Go Go.Ab
variable {pure : Bool} {base bar : Nat} {H : Heap} {Q : AV → Heap → Prop}
/-! from: all knots that can be reached -/
def nextF (w : Nat → Nat) (L : List Nat) (s : Nat) : Nat := L.foldl (fun s a => bor s (w a)) s
theorem nextF_lt {w : Nat → Nat} (hw : ∀ i, w i < 512) : ∀ {L : List Nat} {s : Nat}, s < 512 → nextF w L s < 512
  | [], s, h => h
  | a :: r, s, h => nextF_lt (L := r) hw (bor9 h (hw a))
theorem nextF_bit {w : Nat → Nat} {i : Nat} : ∀ {L : List Nat} {s : Nat}, (nextF w L s).testBit i = true ↔ s.testBit i = true ∨ ∃ a ∈ L, (w a).testBit i = true
  | [], s => by simp [nextF]
  | a :: r, s => by
    have := nextF_bit (w := w) (i := i) (L := r) (s := bor s (w a))
    unfold nextF at this ⊢
    rw [List.foldl_cons, this, testBit_bor]
    simp only [Bool.or_eq_true, List.mem_cons, exists_eq_or_imp]
    exact ⟨fun h => by rcases h with (h | h) | h <;> simp [h], fun h => by rcases h with h | h | h <;> simp [h]⟩
theorem l62a {wv lv : AV} {n : Nat} {w : Nat → Nat} {L : List Nat} {all : Nat} (h : RW wv n w H) (hn : n ≤ 9) (hw : ∀ i, w i < 512) (hl : isL lv L) (hL : ∀ a ∈ L, a < n) (hlen : L.length ≤ 9) {R : PQ} :
    ∀ (k i : Nat), i + k = L.length → ∀ s, s < 512 →
    R (.exit 2) [(0, wv), (5, .int .u16 (all : Nat)), (7, .int .u16 (nextF w (L.drop i) s : Nat)), (16, lv), (17, .int .i64 (L.length : Nat)), (18, .int .i64 (L.length : Nat)), (19, .bool false)] H →
    Wp E base bar (.loop c62_l0) [(0, wv), (5, .int .u16 (all : Nat)), (7, .int .u16 (s : Nat)), (16, lv), (17, .int .i64 (L.length : Nat)), (18, .int .i64 (i : Nat))] H R := by
  intro k
  induction k with
  | zero =>
    intro i hi s hs k
    obtain rfl : i = L.length := by omega
    rw [List.drop_length] at k
    rw [wp_round c62_l0.eq_1]
    simp [go_sem]
    exact k
  | succ k ih =>
    intro i hi s hs k
    have hlt : i < L.length := by omega
    have ha := hL _ (List.getElem_mem hlt)
    obtain ⟨p, p1, p2⟩ := h.ix ha
    have e1 := or_u16 hs (hw L[i])
    rw [List.drop_eq_getElem_cons hlt] at k
    rw [wp_round c62_l0.eq_1]
    simp [go_sem, hlt, hl.ix hlt, p1, p2, e1, i64_suc (show i < 1000000 by omega)]
    exact ih (i + 1) (by omega) _ (bor9 hs (hw _)) k
/-- what can be reached: it has the knot, is closed, and is the least such -/
structure Clo (w : Nat → Nat) (k R : Nat) : Prop where
  lt : R < 512
  mem : R.testBit k = true
  closed : ∀ a b, R.testBit a = true → (w a).testBit b = true → R.testBit b = true
  least : ∀ S : Nat → Prop, S k → (∀ a b, S a → (w a).testBit b = true → S b) → ∀ a, R.testBit a = true → S a
structure Clos (w : Nat → Nat) (n k all more : Nat) : Prop where
  lt : all < 512
  lt2 : more < 512
  mem : all.testBit k = true
  sub : ∀ a, more.testBit a = true → all.testBit a = true
  closed : ∀ a b, all.testBit a = true → more.testBit a = false → (w a).testBit b = true → all.testBit b = true
  least : ∀ S : Nat → Prop, S k → (∀ a b, S a → (w a).testBit b = true → S b) → ∀ a, all.testBit a = true → S a
  inn : ∀ a, all.testBit a = true → a < n
theorem Clos.step {w : Nat → Nat} {n k all more : Nat} (h : Clos w n k all more) (hw : ∀ i, w i < 512) (hin : ∀ a b, (w a).testBit b = true → b < n) : Clos w n k (bor all (nextF w (bitsN more) 0)) (bcl (nextF w (bitsN more) 0) all) := by
  have hN := nextF_lt hw (L := bitsN more) (s := 0) (by omega)
  have hb : ∀ i, (nextF w (bitsN more) 0).testBit i = true ↔ ∃ a, more.testBit a = true ∧ (w a).testBit i = true := fun i => by
    rw [nextF_bit]
    simp only [Nat.zero_testBit, Bool.false_eq_true, false_or]
    exact ⟨fun ⟨a, h1, h2⟩ => ⟨a, (mem_bitsN h.lt2).1 h1, h2⟩, fun ⟨a, h1, h2⟩ => ⟨a, (mem_bitsN h.lt2).2 h1, h2⟩⟩
  generalize nextF w (bitsN more) 0 = N at *
  refine ⟨bor9 h.lt hN, bcl9 hN, by rw [testBit_bor, h.mem]; rfl, fun a ha => ?_, fun a b ha hm hwb => ?_, fun S s1 s2 a ha => ?_, fun a ha => ?_⟩
  · rw [testBit_bcl hN] at ha
    rw [testBit_bor]
    simp only [Bool.and_eq_true] at ha
    rw [ha.1]; simp
  · rw [testBit_bor, Bool.or_eq_true] at ha ⊢
    rw [testBit_bcl hN] at hm
    by_cases hall : all.testBit a = true
    · by_cases hmo : more.testBit a = true
      · exact .inr ((hb b).2 ⟨a, hmo, hwb⟩)
      · exact .inl (h.closed a b hall (by simpa using hmo) hwb)
    · rcases ha with ha | ha
      · exact absurd ha hall
      · rw [ha] at hm; simp at hm; exact absurd hm hall
  · rw [testBit_bor, Bool.or_eq_true] at ha
    rcases ha with ha | ha
    · exact h.least S s1 s2 a ha
    · obtain ⟨c, h1, h2⟩ := (hb a).1 ha
      exact s2 c a (h.least S s1 s2 c (h.sub c h1)) h2
  · rw [testBit_bor, Bool.or_eq_true] at ha
    rcases ha with ha | ha
    · exact h.inn a ha
    · obtain ⟨c, _, h2⟩ := (hb a).1 ha
      exact hin c a h2
theorem Clos.done {w : Nat → Nat} {n k all : Nat} (h : Clos w n k all 0) : Clo w k all := ⟨h.lt, h.mem, fun a b h1 h2 => h.closed a b h1 (by simp) h2, h.least⟩
theorem bor_grow {a b : Nat} (ha : a < 512) (hb : b < 512) (h : bcl b a ≠ 0) : a < bor a b := by
  have h1 : a ≤ bor a b := Nat.left_le_or
  rcases Nat.lt_or_ge a (bor a b) with h2 | h2
  · exact h2
  · exfalso
    apply h
    have e : bor a b = a := Nat.le_antisymm h2 h1
    apply Nat.eq_of_testBit_eq
    intro i
    rw [testBit_bcl hb, Nat.zero_testBit]
    have : (bor a b).testBit i = a.testBit i := by rw [e]
    rw [testBit_bor] at this
    cases h3 : b.testBit i <;> cases h4 : a.testBit i <;> simp_all
theorem l62 {wv : AV} {n k0 : Nat} {w : Nat → Nat} (hn : n ≤ 9) (hw : ∀ i, w i < 512) (hin : ∀ a b, (w a).testBit b = true → b < n) {R : PQ} :
    ∀ (f all more : Nat) (H : Heap), bar ≤ H.length → RW wv n w H → Clos w n k0 all more → (512 - all) * 2 + (if more = 0 then 0 else 1) ≤ f →
    (∀ all' fr, Clo w k0 all' → fr = [(0, wv), (5, AV.int .u16 (all' : Nat)), (6, .int .u16 0), (14, .bool false)] → R (.exit 0) fr H) →
    Wp E base bar (.loop c62_l1) [(0, wv), (5, .int .u16 (all : Nat)), (6, .int .u16 (more : Nat))] H R := by
  intro f
  induction f with
  | zero =>
    intro all more H hb h hc hf k
    have := hc.lt
    omega
  | succ f ih =>
    intro all more H hb h hc hf k
    have hal := hc.lt
    rw [wp_round c62_l1.eq_1]
    by_cases hm : more = 0
    · subst hm
      have kk := k all _ hc.done rfl
      simp [go_sem]
      exact kk
    · have hst := hc.step hw hin
      have hN := nextF_lt hw (L := bitsN more) (s := 0) (by omega)
      have hLn : ∀ a ∈ bitsN more, a < n := fun a ha => hc.inn a (hc.sub a ((mem_bitsN hc.lt2).1 ha))
      have e1 := andNot_u16 hN hc.lt
      have e2 := or_u16 hc.lt hN
      have hfuel : (512 - bor all (nextF w (bitsN more) 0)) * 2 + (if bcl (nextF w (bitsN more) 0) all = 0 then 0 else 1) ≤ f := by
        rw [if_neg hm] at hf
        split
        · have : all ≤ bor all (nextF w (bitsN more) 0) := Nat.left_le_or
          omega
        · rename_i hne
          have := bor_grow hc.lt hN hne
          have := hst.lt
          omega
      have hnext := fun k => ih _ _ H hb h hst hfuel k
      have hm' : ¬ ((more : Nat) : Int) = 0 := by omega
      simp [go_sem, hm', hm]
      refine k58 hc.lt2 hb ?_
      have hout : isL (outL 1 (nats (bitsN more))) (bitsN more) := isL.out
      simp [go_sem, hout.len]
      refine l62a (s := 0) h hn hw hout hLn bitsN_len (bitsN more).length 0 (by omega) (by omega) ?_
      rw [List.drop_zero]
      generalize nextF w (bitsN more) 0 = N at *
      simp [go_sem, e1, e2]
      exact hnext k
theorem k62 {wv : AV} {n k0 : Nat} {w : Nat → Nat} (h : RW wv n w H) (hn : n ≤ 9) (hk : k0 < n) (hw : ∀ i, w i < 512) (hin : ∀ a b, (w a).testBit b = true → b < n) (hb : bar ≤ H.length) (k : ∀ R, Clo w k0 R → Q (.int .u16 (R : Nat)) H) :
    WpCall E pure base bar 62 [wv, .int .i64 (k0 : Nat)] H Q := by
  rw [call62]
  have e1 := shl_u16 (show k0 < 10 by omega)
  have hb' := bar_if (pure := pure) hb
  have hc : Clos w n k0 (pw k0) (pw k0) := ⟨pw9 (by omega), pw9 (by omega), by rw [testBit_pw]; simp, fun a h => h, fun a b h1 h2 => (by rw [h1] at h2; cases h2), fun S s1 _ a ha => by rw [testBit_pw] at ha; simp at ha; rw [← ha]; exact s1, fun a ha => by rw [testBit_pw] at ha; simp at ha; omega⟩
  simp [go_sem, WpFun, c62, e1]
  refine l62 hn hw hin 2000 _ _ H hb' h hc ?_ fun all' fr hall hfr => ?_
  · split <;> omega
  · subst hfr
    simp [go_sem]
    exact k all' hall
end Go.Proofs.Ytoipleipokpnaaa.Code
end
section
namespace Go.Proofs.Ytoipleipokpnaaa.Code
open Go Go.Ab
variable {pure : Bool} {base bar : Nat} {H : Heap} {Q : AV → Heap → Prop}
/-- two knots are tied -/
def tieB (l : List ZZ) (x y : Nat) : Bool := l.any fun p => (p.1 == (x : Int) && p.2 == (y : Int)) || (p.1 == (y : Int) && p.2 == (x : Int))
theorem tieB_snoc {l : List ZZ} {p : ZZ} {x y : Nat} : tieB (l ++ [p]) x y = (tieB l x y || ((p.1 == (x : Int) && p.2 == (y : Int)) || (p.1 == (y : Int) && p.2 == (x : Int)))) := by simp [tieB]
theorem tieB_symm {l : List ZZ} {x y : Nat} : tieB l x y = tieB l y x := by
  unfold tieB
  congr 1; funext p
  rw [Bool.or_comm]
theorem tieB_iff {l : List ZZ} {x y : Nat} : tieB l x y = true ↔ ((x : Int), (y : Int)) ∈ l ∨ ((y : Int), (x : Int)) ∈ l := by
  unfold tieB
  rw [List.any_eq_true]
  constructor
  · rintro ⟨⟨a, b⟩, h, hp⟩
    simp only [Bool.or_eq_true, Bool.and_eq_true, beq_iff_eq] at hp
    rcases hp with ⟨rfl, rfl⟩ | ⟨rfl, rfl⟩
    · exact .inl h
    · exact .inr h
  · rintro (h | h)
    · exact ⟨_, h, by simp⟩
    · exact ⟨_, h, by simp⟩
def okP (n : Int) (p : ZZ) : Prop := 0 ≤ p.1 ∧ 0 ≤ p.2 ∧ p.1 < n ∧ p.2 < n ∧ p.1 ≠ p.2
theorem mayS_ok {n : Int} {p : ZZ} : mayS n p = 0 ↔ okP n p := by
  unfold mayS okP
  split
  · rename_i h
    constructor
    · intro e; omega
    · intro e; omega
  · rename_i h
    split
    · rename_i h2
      constructor
      · intro e; omega
      · intro e; omega
    · rename_i h2
      constructor
      · intro e; omega
      · intro e; rfl
/-- the error of ties, one after the other -/
def errL (n : Int) (b : List ZZ) : List ZZ → Int
  | [] => 0
  | p :: r => if mayS n p ≠ 0 then mayS n p else if tieB b p.1.toNat p.2.toNat then 6 else errL n (b ++ [p]) r
/-- masks that tell ties -/
structure Wd (n : Nat) (b : List ZZ) (w : Nat → Nat) : Prop where
  lt : ∀ i, w i < 512
  bit : ∀ x y, (w x).testBit y = tieB b x y
  val : ∀ p ∈ b, okP n p
theorem Wd.nil {n : Nat} : Wd n [] (fun _ => 0) := ⟨fun _ => by simp, fun x y => by simp [tieB], fun p hp => by cases hp⟩
theorem Wd.inn {n : Nat} {b : List ZZ} {w : Nat → Nat} (h : Wd n b w) : ∀ x y, (w x).testBit y = true → x < n ∧ y < n ∧ x ≠ y := fun x y hxy => by
  rw [h.bit, tieB_iff] at hxy
  rcases hxy with h1 | h1
  · obtain ⟨_, _, h2, h3, h4⟩ := h.val _ h1
    simp only at h2 h3 h4; omega
  · obtain ⟨_, _, h2, h3, h4⟩ := h.val _ h1
    simp only at h2 h3 h4; omega
theorem Wd.tie {n a c : Nat} {b : List ZZ} {w : Nat → Nat} (h : Wd n b w) (hn : n ≤ 9) (ha : a < n) (hc : c < n) (hne : a ≠ c) (ht : tieB b a c = false) : Wd n (b ++ [((a : Int), (c : Int))]) (tieW w a c) := by
  have h1 : (w a).testBit c = false := by rw [h.bit]; exact ht
  have h2 : (w c).testBit a = false := by rw [h.bit, tieB_symm]; exact ht
  have hca : upd w a (bxor (w a) (pw c)) c = w c := by unfold upd; rw [if_neg (fun e => hne e.symm)]
  refine ⟨fun i => ?_, fun x y => ?_, fun p hp => ?_⟩
  · unfold tieW
    rw [hca]
    unfold upd
    split
    · exact bxor9 (h.lt c) (pw9 (by omega))
    · split
      · exact bxor9 (h.lt a) (pw9 (by omega))
      · exact h.lt i
  · rw [tieB_snoc, ← h.bit]
    unfold tieW
    rw [hca]
    simp only [upd]
    by_cases hxc : x = c
    · subst hxc
      rw [if_pos rfl, testBit_bxor, testBit_pw]
      by_cases hya : a = y
      · subst hya
        rw [h2]; simp
      · have e1 : ((a : Int) == (y : Int)) = false := by simpa using fun e => hya (by omega)
        have e2 : ((a : Int) == (x : Int)) = false := by simpa using fun e => hne (by omega)
        simp [hya, e1, e2]
    · rw [if_neg hxc]
      by_cases hxa : x = a
      · subst hxa
        rw [if_pos rfl, testBit_bxor, testBit_pw]
        by_cases hyc : c = y
        · subst hyc
          rw [h1]; simp
        · have e1 : ((c : Int) == (y : Int)) = false := by simpa using fun e => hyc (by omega)
          have e2 : ((c : Int) == (x : Int)) = false := by simpa using fun e => hxc (by omega)
          simp [hyc, e1, e2]
      · rw [if_neg hxa]
        have e1 : ((a : Int) == (x : Int)) = false := by simpa using fun e => hxa (by omega)
        have e2 : ((c : Int) == (x : Int)) = false := by simpa using fun e => hxc (by omega)
        simp [e1, e2]
  · rcases List.mem_append.1 hp with hp | hp
    · exact h.val p hp
    · rw [List.mem_singleton] at hp; subst hp
      exact ⟨by simp, by simp, by simp only; omega, by simp only; omega, by simp only; omega⟩
/-- a knot can be reached -/
inductive Rch (f : Nat → Nat → Bool) : Nat → Nat → Prop
  | refl (x : Nat) : Rch f x x
  | step {x y z : Nat} (h : Rch f x y) (hf : f y z = true) : Rch f x z
def Conn (n : Nat) (l : List ZZ) : Prop := ∀ x, x < n → Rch (tieB l) 0 x
theorem Clo.rch {n k R : Nat} {b : List ZZ} {w : Nat → Nat} (h : Clo w k R) (hw : Wd n b w) {x : Nat} : R.testBit x = true ↔ Rch (tieB b) k x := by
  constructor
  · intro hx
    refine h.least (Rch (tieB b) k) (.refl k) (fun a c ha hc => .step ha ?_) x hx
    rw [← hw.bit]; exact hc
  · intro hx
    induction hx with
    | refl => exact h.mem
    | step h1 h2 ih => exact h.closed _ _ ih (by rw [hw.bit]; exact h2)
theorem full_iff {n R : Nat} (h : ∀ x, R.testBit x = true → x < n) : R = pw n - 1 ↔ ∀ x, x < n → R.testBit x = true := by
  constructor
  · rintro rfl x hx
    unfold pw
    rw [Nat.testBit_two_pow_sub_one]; simpa using hx
  · intro hall
    apply Nat.eq_of_testBit_eq
    intro i
    unfold pw
    rw [Nat.testBit_two_pow_sub_one]
    cases hb : R.testBit i with
    | true => simpa using h i hb
    | false =>
      symm
      rw [decide_eq_false_iff_not]
      intro hi
      rw [hall i hi] at hb; cases hb
theorem Clo.full {n R : Nat} {b : List ZZ} {w : Nat → Nat} (hn : 1 ≤ n) (h : Clo w 0 R) (hw : Wd n b w) : R = pw n - 1 ↔ Conn n b := by
  rw [full_iff fun x hx => ?_]
  · exact ⟨fun hh x hx => (h.rch hw).1 (hh x hx), fun hh x hx => (h.rch hw).2 (hh x hx)⟩
  · have := (h.rch hw).1 hx
    cases this with
    | refl => omega
    | step h1 h2 =>
      rw [← hw.bit] at h2
      exact (hw.inn _ _ h2).2.1
end Go.Proofs.Ytoipleipokpnaaa.Code
end
section
namespace Go.Proofs.Ytoipleipokpnaaa.Code
open Go Go.Ab
variable {pure : Bool} {base bar : Nat} {H : Heap} {Q : AV → Heap → Prop}
theorem l49 {n : Nat} {q : AV} {l : List ZZ} (hq : isP q l) (hl : l.length < 1000) (hn : n ≤ 9) (hbar : bar ≤ H.length) {R : PQ} :
    ∀ (k i : Nat), i + k = l.length → ∀ (w : Nat → Nat), Wd n (l.take i) w →
    (∀ G, errL n (l.take i) (l.drop i) ≠ 0 → R .ret [(2, .nils), (3, .int .i64 (errL n (l.take i) (l.drop i)))] (H ++ G)) →
    (∀ w', Wd n l w' → errL n (l.take i) (l.drop i) = 0 → R (.exit 0) [(1, .ptr H.length 0 0), (4, .vec (H.length + 1) 0 0 n 1), (16, q), (17, .int .i64 (l.length : Nat)), (18, .int .i64 (l.length : Nat)), (19, .bool false)]
      (H ++ [.row 0 [.int .i64 (n : Nat), q] 0 true, .row 0 (wc n w') 0 true])) →
    Wp E H.length bar (.loop c49_l0) [(1, .ptr H.length 0 0), (4, .vec (H.length + 1) 0 0 n 1), (16, q), (17, .int .i64 (l.length : Nat)), (18, .int .i64 (i : Nat))]
      (H ++ [.row 0 [.int .i64 (n : Nat), q] 0 true, .row 0 (wc n w) 0 true]) R := by
  intro k
  induction k with
  | zero =>
    intro i hi w hw h1 h2
    obtain rfl : i = l.length := by omega
    rw [List.take_length] at hw h2
    rw [List.drop_length] at h2
    rw [wp_round c49_l0.eq_1]
    simp [go_sem]
    exact h2 w hw rfl
  | succ k ih =>
    intro i hi w hw h1 h2
    have hlt : i < l.length := by omega
    have htk : l.take (i + 1) = l.take i ++ [l[i]] := by rw [List.take_add_one, List.getElem?_eq_getElem hlt]; rfl
    rw [List.drop_eq_getElem_cons hlt] at h1 h2
    obtain ⟨p, hp⟩ : ∃ p, l[i] = p := ⟨_, rfl⟩
    rw [hp] at h1 h2 htk
    have hnext := ih (i + 1) (by omega)
    rw [htk] at hnext
    have hix := fun (H : Heap) (K : AV → Heap → List Nat → Prop) => hq.ix (H := H) (K := K) (k := .i64) hlt
    simp only [hp, zc] at hix
    have c1 : bar ≤ H.length + 2 := by omega
    simp only [errL] at h1 h2
    have hrw : ∀ G, RW (.vec (H.length + 1) 0 0 n 1) n w (H ++ (.row 0 [.int .i64 (n : Nat), q] 0 true :: .row 0 (wc n w) 0 true :: G)) := fun G => RW.vec (fz := 0) (ex := true) (by simp [own_get])
    rw [wp_round c49_l0.eq_1]
    simp [go_sem, hlt, hix, aload, storeWp, astore, AV.isTup, AV.cells, c1]
    refine k60 (hrw _) hn ?_
    by_cases hm : mayS n p = 0
    · simp only [hm, ne_eq, not_true_eq_false, if_false] at h1 h2
      have hok := mayS_ok.1 hm
      obtain ⟨a, c⟩ := p
      obtain ⟨q1, q2, q3, q4, q5⟩ := hok
      simp only at q1 q2 q3 q4 q5
      obtain ⟨a, rfl⟩ := Int.eq_ofNat_of_zero_le q1
      obtain ⟨c, rfl⟩ := Int.eq_ofNat_of_zero_le q2
      simp only [Int.toNat_natCast] at h1 h2
      have ha : a < n := by omega
      have hc : c < n := by omega
      have hbit := hw.bit a c
      obtain ⟨pp, p1, p2⟩ := (hrw [.row 0 [.int .i64 (a : Nat), .int .i64 (c : Nat)] 0 true]).ix ha
      simp [go_sem, hm, aload, wc_getE, wc_len, ha]
      simp only [k63 (hw.lt a) (show c < 9 by omega)]
      rw [hbit]
      cases ht : tieB (l.take i) a c with
      | true =>
        simp only [ht, if_true] at h1
        simp [go_sem, aload]
        exact h1 _ (by decide)
      | false =>
        simp only [ht, Bool.false_eq_true, if_false] at h1 h2
        have hw' := hw.tie hn ha hc (by omega) ht
        simp [go_sem, aload]
        refine k61 (ex := true) (by simp [own_get]) hn hw.lt ha hc (by omega) ?_
        simp [go_sem, hq.top, i64_suc (show i < 1000000 by omega)]
        exact hnext _ hw' h1 h2
    · simp only [hm, ne_eq, not_false_eq_true, if_true] at h1
      simp [go_sem, hm, aload]
      exact h1 _ trivial
open Classical in
/-- the error of a tree -/
noncomputable def errT (n : Int) (l : List ZZ) : Int :=
  if ¬ (1 ≤ n ∧ n ≤ 9) then 1 else if errL n [] l ≠ 0 then errL n [] l else if n ≤ l.length then 3 else if Conn n.toNat l then 0 else 21
theorem noVecs_plainW {n : Nat} {w : Nat → Nat} : AV.noVec.noVecs (wc n w) = true := by
  have : ∀ l : List AV, (∀ x ∈ l, x.noVec = true) → AV.noVec.noVecs l = true := by
    intro l
    induction l with
    | nil => intro _; rfl
    | cons x r ih => intro h; simp only [AV.noVec.noVecs, h x (List.mem_cons_self ..), ih fun y hy => h y (List.mem_cons_of_mem _ hy), Bool.and_self]
  refine this _ fun x hx => ?_
  simp only [wc, List.mem_map] at hx
  obtain ⟨a, _, rfl⟩ := hx; rfl
theorem k49 {n : Int} {q : AV} {l : List ZZ} (hq : isP q l) (hl : l.length < 1000) (hbar : bar ≤ H.length)
    (h1 : ∀ G, errT n l ≠ 0 → Q (.tup [.nils, .int .i64 (errT n l)]) (H ++ G))
    (h2 : ∀ (m : Nat) w, n = m → 1 ≤ m → m ≤ 9 → Wd m l w → errT n l = 0 → Q (.tup [.vec (H.length + 1) 0 0 m 1, .int .i64 0]) (H ++ [.row 0 [.int .i64 (m : Nat), q] 0 true, .row 0 (wc m w) 0 true])) :
    WpCall E pure base bar 49 [.agg [.int .i64 n, q]] H Q := by
  rw [call49]
  have e0 : frzAll bar H [.agg [.int .i64 n, q]] = some ([.agg [.int .i64 n, q]], H) := by simp [frzAll, frz.frzs, frzsW, frz_agg, frz_int, hq.frz]
  rw [e0]
  have hb' := bar_if (pure := pure) hbar
  by_cases hr : 1 ≤ n ∧ n ≤ 9
  · obtain ⟨m, rfl⟩ := Int.eq_ofNat_of_zero_le (show 0 ≤ n by omega)
    have hm1 : 1 ≤ m := by omega
    have hm9 : m ≤ 9 := by omega
    have hr' : (decide (1 ≤ (m : Int)) && decide ((m : Int) ≤ 9)) = true := by simp; omega
    have hz : List.flatten (List.replicate m [AV.int IntKind.u16 0]) = wc m fun _ => 0 := by
      simp [wc, List.flatten_replicate_singleton, List.map_const']
    have hlen := fun (H : Heap) (K : AV → Heap → List Nat → Prop) => hq.len (H := H) (K := K)
    have hbd : m * 2 ≤ 140737488355328 := by omega
    simp [go_sem, WpFun, c49, hq.isTup, hq.cells, aload, k50, hr', aop, AV.asNat, hz, hbd, hlen]
    refine l49 hq hl hm9 hb' l.length 0 (by omega) _ (by rw [List.take_zero]; exact Wd.nil) (fun G he => ?_) (fun w hw he => ?_)
    · rw [List.take_zero, List.drop_zero] at he ⊢
      have e : errT (m : Int) l = errL m [] l := by unfold errT; rw [if_neg (by simp [hr]), if_pos he]
      have hh := h1
      rw [e] at hh
      simp [go_sem]
      exact hh G he
    · rw [List.take_zero, List.drop_zero] at he
      by_cases hml : (m : Int) ≤ l.length
      · have e : errT (m : Int) l = 3 := by unfold errT; rw [if_neg (by simp [hr]), if_neg (by simpa using he), if_pos hml]
        have hh := h1
        rw [e] at hh
        simp [go_sem, aload, hlen, hml]
        exact hh _ (by decide)
      · have hml' : ¬ m ≤ l.length := by omega
        simp [go_sem, aload, hlen, hml']
        refine k62 (k0 := 0) (n := m) (w := w) (RW.vec (fz := 0) (ex := true) (by simp)) hm9 (by omega) hw.lt (fun a b h => (hw.inn a b h).2.1) (Nat.le_trans hb' (by simp)) fun R hR => ?_
        have nv : AV.noVec.noVecs (wc m w) = true := noVecs_plainW
        have e1 := shl_u16 (show m < 10 by omega)
        have hpw : pw m ≤ 512 := (by decide : ∀ m, m ≤ 9 → pw m ≤ 512) m hm9
        have hpw1 : 1 ≤ pw m := (by decide : ∀ m, m ≤ 9 → 1 ≤ pw m) m hm9
        have e2 : IntKind.u16.wrap (((pw m : Nat) : Int) - 1) = ((pw m - 1 : Nat) : Int) := by
          rw [Go.IntWalk.u16_in _ (by omega)]; omega
        have hfull := hR.full hm1 hw
        by_cases hc : Conn m l
        · have hRe : R = pw m - 1 := hfull.2 hc
          have e : errT (m : Int) l = 0 := by unfold errT; rw [if_neg (by simp [hr]), if_neg (by simpa using he), if_neg hml, if_pos (by simpa using hc)]
          have hh := h2 m w rfl hm1 hm9 hw e
          rw [hRe]
          generalize pw m = P at *
          generalize P - 1 = P1 at *
          simp [go_sem, aload, nv, flatV, idsV, e1, e2]
          exact hh
        · have hRe : ¬ R = pw m - 1 := fun e => hc (hfull.1 e)
          have e : errT (m : Int) l = 21 := by unfold errT; rw [if_neg (by simp [hr]), if_neg (by simpa using he), if_neg hml, if_neg (by simpa using hc)]
          have hh := h1
          rw [e] at hh
          generalize pw m = P at *
          generalize P - 1 = P1 at *
          have hRe' : ¬ (R : Int) = (P1 : Int) := by omega
          simp [go_sem, aload, nv, flatV, idsV, e1, e2, hRe, hRe']
          exact hh _ (by decide)
  · have hr' : (decide (1 ≤ n) && decide (n ≤ 9)) = false := by simpa using hr
    have e : errT n l = 1 := by unfold errT; rw [if_pos hr]
    have hh := h1
    rw [e] at hh
    simp [go_sem, WpFun, c49, hq.isTup, hq.cells, aload, k50, hr']
    exact hh _ (by decide)
end Go.Proofs.Ytoipleipokpnaaa.Code
end
section
namespace Go.Proofs.Ytoipleipokpnaaa.Code
open Go Go.Ab
variable {pure : Bool} {base bar : Nat} {H : Heap} {Q : AV → Heap → Prop}
/-! the reference: ties -/
def tieZ (l : List ZZ) (x y : Int) : Bool := l.any fun p => (p.1 == x && p.2 == y) || (p.1 == y && p.2 == x)
theorem tieZ_nat {l : List ZZ} {x y : Nat} : tieZ l x y = tieB l x y := rfl
theorem k52 {a b c : Int} : WpCall E pure base bar 52 [.int .i64 a, .int .i64 b, .int .i64 c] H Q ↔ Q (.bool (decide (b ≤ a) && decide (a ≤ c))) H := by
  rw [call52]
  by_cases h : b ≤ a <;> simp [go_sem, WpFun, c52, h]
theorem eqWp_flat2 {neg : Bool} {k1 k2 : IntKind} {a b c d : Int} {K : AV → Heap → List Nat → Prop} :
    eqWp neg (.flat [false, false]) (some (.agg [.int k1 a, .int k2 b])) (some (.agg [.int k1 c, .int k2 d])) H K = K (.bool (if neg then !((a == c) && (b == d)) else ((a == c) && (b == d)))) H [] := by
  rw [eqWp_def]
  simp only [aeq, eqCells, eqCell, if_true]
  by_cases h : a = c
  · subst h; simp; cases (b == d) <;> simp
  · have : (a == c) = false := by simpa using h
    simp [this]
theorem l54 {q : AV} {l : List ZZ} {a b : Int} (hq : isP q l) (hl : l.length < 1000) {R : PQ} :
    ∀ (k i : Nat), i + k = l.length →
    (tieZ (l.drop i) a b = true → R .ret [(6, .bool true)] H) →
    (tieZ (l.drop i) a b = false → R (.exit 0) [(0, q), (1, .int .i64 a), (2, .int .i64 b), (7, .int .i64 (l.length : Nat)), (11, .bool false)] H) →
    Wp E base bar (.loop c54_l0) [(0, q), (1, .int .i64 a), (2, .int .i64 b), (7, .int .i64 (i : Nat))] H R := by
  intro k
  have hlen := fun (H : Heap) (K : AV → Heap → List Nat → Prop) => hq.len (H := H) (K := K)
  induction k with
  | zero =>
    intro i hi h1 h2
    obtain rfl : i = l.length := by omega
    rw [List.drop_length] at h2
    rw [wp_round c54_l0.eq_1]
    simp [go_sem, hlen]
    exact h2 rfl
  | succ k ih =>
    intro i hi h1 h2
    have hlt : i < l.length := by omega
    rw [List.drop_eq_getElem_cons hlt] at h1 h2
    obtain ⟨⟨x, y⟩, hp⟩ : ∃ p, l[i] = p := ⟨_, rfl⟩
    rw [hp] at h1 h2
    have hix := fun (H : Heap) (K : AV → Heap → List Nat → Prop) => hq.ix (H := H) (K := K) (k := .i64) hlt
    simp only [hp, zc] at hix
    have hnext := ih (i + 1) (by omega)
    simp only [tieZ, List.any_cons, Bool.or_eq_true, Bool.or_eq_false_iff] at h1 h2
    rw [wp_round c54_l0.eq_1]
    by_cases c1 : x = a ∧ y = b
    · obtain ⟨rfl, rfl⟩ := c1
      have hh := h1 (by simp)
      simp [go_sem, hlen, hlt, hix, aload, aop, fillA, setCells, AV.cells, eqWp_flat2]
      exact hh
    · have d1 : (x == a && y == b) = false := by simpa using c1
      by_cases c2 : x = b ∧ y = a
      · obtain ⟨rfl, rfl⟩ := c2
        have hh := h1 (by simp)
        simp [go_sem, hlen, hlt, hix, aload, aop, fillA, setCells, AV.cells, eqWp_flat2, d1]
        exact hh
      · have d2 : (x == b && y == a) = false := by simpa using c2
        have hh := hnext (fun h => h1 (.inr h)) (fun h => h2 ⟨by simp [d1, d2], h⟩)
        simp [go_sem, hlen, hlt, hix, aload, aop, fillA, setCells, AV.cells, eqWp_flat2, d1, d2, i64_suc (show i < 1000000 by omega)]
        exact hh
theorem k54 {q : AV} {l : List ZZ} {a b : Int} (hq : isP q l) (hl : l.length < 1000) (k : Q (.bool (tieZ l a b)) H) : WpCall E pure base bar 54 [q, .int .i64 a, .int .i64 b] H Q := by
  rw [call54]
  simp [go_sem, WpFun, c54, hq.frz]
  refine l54 hq hl l.length 0 (by omega) (fun h => ?_) (fun h => ?_)
  · rw [List.drop_zero] at h
    rw [h] at k
    simp [go_sem]
    exact k
  · rw [List.drop_zero] at h
    rw [h] at k
    simp [go_sem]
    exact k
theorem k65 {n : Nat} {p : ZZ} (hn : n ≤ 9) (k : Q (.int .i64 (mayS n p)) H) : WpCall E pure base bar 65 [.int .i64 (n : Nat), .agg [.int .i64 p.1, .int .i64 p.2]] H Q := by
  rw [call65]
  have e1 := i64_pred hn
  unfold mayS at k
  by_cases h1 : 0 ≤ p.1 ∧ p.1 ≤ (n : Int) - 1
  · by_cases h2 : 0 ≤ p.2 ∧ p.2 ≤ (n : Int) - 1
    · rw [if_neg (by simp [h1, h2])] at k
      by_cases h3 : p.1 = p.2
      · rw [if_pos h3] at k
        simp [go_sem, WpFun, c65, AV.isTup, AV.cells, aload, e1, k52, h1, h2, h3]
        exact k
      · rw [if_neg h3] at k
        simp [go_sem, WpFun, c65, AV.isTup, AV.cells, aload, e1, k52, h1, h2, h3]
        exact k
    · rw [if_pos (.inr h2)] at k
      have h2' : (decide (0 ≤ p.2) && decide (p.2 ≤ (n : Int) - 1)) = false := by simpa using h2
      simp [go_sem, WpFun, c65, AV.isTup, AV.cells, aload, e1, k52, h1, h2']
      exact k
  · rw [if_pos (.inl h1)] at k
    have h1' : (decide (0 ≤ p.1) && decide (p.1 ≤ (n : Int) - 1)) = false := by simpa using h1
    simp [go_sem, WpFun, c65, AV.isTup, AV.cells, aload, e1, k52, h1']
    exact k
end Go.Proofs.Ytoipleipokpnaaa.Code
end
section
namespace Go.Proofs.Ytoipleipokpnaaa.Code
open Go Go.Ab
variable {pure : Bool} {base bar : Nat} {H : Heap} {Q : AV → Heap → Prop}
/-! the reference: distances -/
def dc (n : Nat) (D : Nat → Int) : List AV := (List.range n).map fun a => .int .i64 (D a)
theorem dc_len {n : Nat} {D : Nat → Int} : (dc n D).length = n := by simp [dc]
theorem dc_get {n i : Nat} {D : Nat → Int} (hi : i < n) : (dc n D)[i]? = some (.int .i64 (D i)) := by simp [dc, hi]
theorem dc_getE {n i : Nat} {D : Nat → Int} (h : i < (dc n D).length) : (dc n D)[i]'h = .int .i64 (D i) := by simp [dc]
theorem dc_plain {n : Nat} {D : Nat → Int} : ∀ c ∈ dc n D, Plain c := fun c hc => by
  simp only [dc, List.mem_map] at hc
  obtain ⟨a, _, rfl⟩ := hc; exact Plain.int
theorem dc_tops {n : Nat} {D : Nat → Int} : AV.top.tops (dc n D) = 0 := tops_zero fun x hx => by
  simp only [dc, List.mem_map] at hx
  obtain ⟨a, _, rfl⟩ := hx; rfl
def updZ (D : Nat → Int) (i : Nat) (x : Int) : Nat → Int := fun j => if j = i then x else D j
theorem dc_set {n i : Nat} {x : Int} {D : Nat → Int} (hi : i < n) : setCells (dc n D) i [.int .i64 x] = dc n (updZ D i x) := by
  simp only [setCells]
  apply List.ext_getElem?
  intro j
  rw [List.getElem?_set]
  by_cases hj : i = j
  · subst hj
    rw [if_pos rfl, if_pos (by rw [dc_len]; exact hi), dc_get hi]; simp [updZ]
  · rw [if_neg hj]
    rcases Nat.lt_or_ge j n with h | h
    · rw [dc_get h, dc_get h]; simp [updZ, show ¬ j = i by omega]
    · rw [List.getElem?_eq_none (by rw [dc_len]; exact h), List.getElem?_eq_none (by rw [dc_len]; exact h)]
/-- one tie -/
def relD (D : Nat → Int) (a b : Nat) : Nat → Int := if 0 ≤ D a ∧ D b < 0 then updZ D b (D a + 1) else D
def relP (D : Nat → Int) (p : ZZ) : Nat → Int := relD (relD D p.1.toNat p.2.toNat) p.2.toNat p.1.toNat
def relL (D : Nat → Int) (l : List ZZ) : Nat → Int := l.foldl relP D
def relN (D : Nat → Int) (l : List ZZ) : Nat → Nat → Int
  | 0 => D
  | t + 1 => relL (relN D l t) l
def startD (k : Nat) : Nat → Int := updZ (fun _ => -1) k 0
def distF (n : Nat) (l : List ZZ) (k : Nat) : Nat → Int := relN (startD k) l n
/-- no number is greater than the operations so far -/
def Bd (D : Nat → Int) (t : Nat) : Prop := ∀ x, -1 ≤ D x ∧ D x ≤ t
theorem Bd.rel {D : Nat → Int} {t a b : Nat} (h : Bd D t) : Bd (relD D a b) (t + 1) := fun x => by
  unfold relD
  split
  · unfold updZ
    split
    · have := h a; omega
    · have := h x; omega
  · have := h x; omega
theorem l53a {n : Nat} {q a1 : AV} (hn : n ≤ 9) (hb : bar ≤ H.length) {R : PQ} (h : R (.exit 0) [(1, a1), (2, .ptr H.length 0 0), (5, .vec (H.length + 1) 0 0 n 1), (6, .int .i64 (n : Nat)), (17, .bool false)] (H ++ [.row 0 [.int .i64 (n : Nat), q] 0 true, .row 0 (dc n fun _ => -1) 0 true])) :
    ∀ (k i : Nat), i + k = n → ∀ (D : Nat → Int), (∀ x, x < i → D x = -1) →
    Wp E H.length bar (.loop c53_l0) [(1, a1), (2, .ptr H.length 0 0), (5, .vec (H.length + 1) 0 0 n 1), (6, .int .i64 (i : Nat))] (H ++ [.row 0 [.int .i64 (n : Nat), q] 0 true, .row 0 (dc n D) 0 true]) R := by
  intro k
  induction k with
  | zero =>
    intro i hi D hD
    obtain rfl : i = n := by omega
    have e : dc i D = dc i fun _ => -1 := by
      unfold dc
      exact List.map_congr_left fun a ha => by rw [hD a (List.mem_range.1 ha)]
    rw [wp_round c53_l0.eq_1]
    simp [go_sem, aload]
    rw [e]; exact h
  | succ k ih =>
    intro i hi D hD
    have hlt : i < n := by omega
    have hnext := ih (i + 1) (by omega) (updZ D i (-1)) fun x hx => by
      unfold updZ
      split
      · rfl
      · exact hD x (by omega)
    have c1 : bar ≤ H.length + 1 := by omega
    rw [wp_round c53_l0.eq_1]
    simp [go_sem, aload, hlt, storeWp, astore, AV.isTup, AV.cells, dc_len, c1, show i + 1 ≤ n by omega, dc_set, i64_suc (show i < 1000000 by omega)]
    exact hnext
set_option maxRecDepth 8000 in
theorem l53b {n : Nat} {q tv : AV} {l : List ZZ} (hq : isP q l) (hl : l.length < 1000) (hn : n ≤ 9) (hv : ∀ p ∈ l, okP n p) (hb : bar ≤ H.length) {R : PQ} :
    ∀ (k i : Nat), i + k = l.length → ∀ (D : Nat → Int) (t : Nat), Bd D t → t + 2 * k < 1000000 →
    R (.exit 4) [(2, .ptr H.length 0 0), (5, .vec (H.length + 1) 0 0 n 1), (7, tv), (8, .int .i64 (l.length : Nat)), (36, .bool false)] (H ++ [.row 0 [.int .i64 (n : Nat), q] 0 true, .row 0 (dc n (relL D (l.drop i))) 0 true]) →
    Wp E H.length bar (.loop c53_l1) [(2, .ptr H.length 0 0), (5, .vec (H.length + 1) 0 0 n 1), (7, tv), (8, .int .i64 (i : Nat))] (H ++ [.row 0 [.int .i64 (n : Nat), q] 0 true, .row 0 (dc n D) 0 true]) R := by
  intro k
  have hlen := fun (H : Heap) (K : AV → Heap → List Nat → Prop) => hq.len (H := H) (K := K)
  induction k with
  | zero =>
    intro i hi D t hB ht h
    obtain rfl : i = l.length := by omega
    rw [List.drop_length] at h
    rw [wp_round c53_l1.eq_1]
    simp [go_sem, aload, hlen]
    exact h
  | succ k ih =>
    intro i hi D t hB ht h
    have hlt : i < l.length := by omega
    rw [List.drop_eq_getElem_cons hlt] at h
    obtain ⟨⟨a, c⟩, hp⟩ : ∃ p, l[i] = p := ⟨_, rfl⟩
    obtain ⟨q1, q2, q3, q4, q5⟩ := hv (a, c) (by rw [← hp]; exact List.getElem_mem hlt)
    simp only at q1 q2 q3 q4 q5
    obtain ⟨a, rfl⟩ := Int.eq_ofNat_of_zero_le q1
    obtain ⟨c, rfl⟩ := Int.eq_ofNat_of_zero_le q2
    have ha : a < n := by omega
    have hc : c < n := by omega
    rw [hp] at h
    have hix := fun (H : Heap) (K : AV → Heap → List Nat → Prop) => hq.ix (H := H) (K := K) (k := .i64) hlt
    simp only [hp, zc] at hix
    have e : relL D (((a : Int), (c : Int)) :: l.drop (i + 1)) = relL (relD (relD D a c) c a) (l.drop (i + 1)) := rfl
    rw [e] at h
    have hB2 := (hB.rel (a := a) (b := c)).rel (a := c) (b := a)
    have hnext := ih (i + 1) (by omega) _ _ hB2 (by omega) h
    have c1 : bar ≤ H.length + 1 := by omega
    have hac : ¬ a = c := fun e => q5 (by omega)
    have ba := hB a
    have bc := hB c
    have i0 := i64_suc (show i < 1000000 by omega)
    rw [wp_round c53_l1.eq_1]
    by_cases h1 : 0 ≤ D a ∧ D c < 0
    · have e1 : relD D a c = updZ D c (D a + 1) := by unfold relD; rw [if_pos h1]
      have e2 : relD (updZ D c (D a + 1)) c a = updZ D c (D a + 1) := by
        unfold relD
        rw [if_neg]
        intro h2
        have : updZ D c (D a + 1) a = D a := by unfold updZ; rw [if_neg hac]
        omega
      rw [e1, e2] at hnext
      have w1 : IntKind.i64.wrap (D a + 1) = D a + 1 := Go.IntWalk.i64_in _ (by omega)
      have u1 : updZ D c (D a + 1) c = D a + 1 := by unfold updZ; rw [if_pos rfl]
      have u2 : updZ D c (D a + 1) a = D a := by unfold updZ; rw [if_neg hac]
      have x1 : 0 ≤ D a + 1 := by omega
      have x2 : ¬ D a < 0 := by omega
      obtain ⟨h11, h12⟩ := h1
      generalize hF : updZ D c (D a + 1) = F at *
      generalize hz : D a + 1 = z at *
      simp [go_sem, aload, hlen, hlt, hix, ha, hc, dc_get, dc_getE, dc_len, h11, h12, w1, storeWp, astore, AV.isTup, AV.cells, c1, show c + 1 ≤ n from hc, show a + 1 ≤ n from ha, dc_set, hz, hF, u1, u2, x1, x2, i0]
      exact hnext
    · have e1 : relD D a c = D := by unfold relD; rw [if_neg h1]
      rw [e1] at hnext
      by_cases h2 : 0 ≤ D c ∧ D a < 0
      · have e2 : relD D c a = updZ D a (D c + 1) := by unfold relD; rw [if_pos h2]
        rw [e2] at hnext
        have w1 : IntKind.i64.wrap (D c + 1) = D c + 1 := Go.IntWalk.i64_in _ (by omega)
        obtain ⟨h21, h22⟩ := h2
        have x1 : ¬ 0 ≤ D a := by omega
        simp [go_sem, aload, hlen, hlt, hix, ha, hc, dc_get, dc_getE, dc_len, h21, h22, x1, w1, storeWp, astore, AV.isTup, AV.cells, c1, show c + 1 ≤ n from hc, show a + 1 ≤ n from ha, dc_set, i0]
        exact hnext
      · have e2 : relD D c a = D := by unfold relD; rw [if_neg h2]
        rw [e2] at hnext
        by_cases y1 : 0 ≤ D a <;> by_cases y2 : 0 ≤ D c
        · have z1 : ¬ D c < 0 := by omega
          have z2 : ¬ D a < 0 := by omega
          simp [go_sem, aload, hlen, hlt, hix, ha, hc, dc_get, dc_getE, dc_len, y1, y2, z1, z2, i0]
          exact hnext
        · exfalso; exact h1 ⟨y1, by omega⟩
        · exfalso; exact h2 ⟨y2, by omega⟩
        · simp [go_sem, aload, hlen, hlt, hix, ha, hc, dc_get, dc_getE, dc_len, y1, y2, i0]
          exact hnext
theorem relL_bd {D : Nat → Int} : ∀ {l : List ZZ} {t : Nat}, Bd D t → Bd (relL D l) (t + 2 * l.length)
  | [], t, h => h
  | p :: r, t, h => by
    have := relL_bd (l := r) ((h.rel (a := p.1.toNat) (b := p.2.toNat)).rel (a := p.2.toNat) (b := p.1.toNat))
    rw [List.length_cons, show t + 2 * (r.length + 1) = t + 1 + 1 + 2 * r.length by omega]
    exact this
theorem l53c {n : Nat} {q : AV} {l : List ZZ} (hq : isP q l) (hl : l.length < 1000) (hn : n ≤ 9) (hv : ∀ p ∈ l, okP n p) (hb : bar ≤ H.length) {D0 : Nat → Int} (hB : Bd D0 1) {R : PQ}
    (h : R (.exit 2) [(2, .ptr H.length 0 0), (5, .vec (H.length + 1) 0 0 n 1), (7, .int .i64 (n : Nat)), (29, .bool false)] (H ++ [.row 0 [.int .i64 (n : Nat), q] 0 true, .row 0 (dc n (relN D0 l n)) 0 true])) :
    ∀ (k i : Nat), i + k = n →
    Wp E H.length bar (.loop c53_l2) [(2, .ptr H.length 0 0), (5, .vec (H.length + 1) 0 0 n 1), (7, .int .i64 (i : Nat))] (H ++ [.row 0 [.int .i64 (n : Nat), q] 0 true, .row 0 (dc n (relN D0 l i)) 0 true]) R := by
  intro k
  have hbd : ∀ i, Bd (relN D0 l i) (1 + 2 * l.length * i) := fun i => by
    induction i with
    | zero => exact hB
    | succ i ih =>
      have := relL_bd (l := l) ih
      rw [Nat.mul_succ]
      rw [← Nat.add_assoc]
      exact this
  induction k with
  | zero =>
    intro i hi
    obtain rfl : i = n := by omega
    rw [wp_round c53_l2.eq_1]
    simp [go_sem, aload]
    exact h
  | succ k ih =>
    intro i hi
    have hlt : i < n := by omega
    have hmul : 2 * l.length * i ≤ 2 * 1000 * 9 := Nat.mul_le_mul (by omega) (by omega)
    rw [wp_round c53_l2.eq_1]
    simp [go_sem, aload, hlt]
    refine l53b hq hl hn hv hb l.length 0 (by omega) _ _ (hbd i) (by omega) ?_
    rw [List.drop_zero]
    have hnext := ih (i + 1) (by omega)
    simp [go_sem, i64_suc (show i < 1000000 by omega)]
    exact hnext
theorem k53 {n k : Nat} {q : AV} {l : List ZZ} (hq : isP q l) (hl : l.length < 1000) (hn : n ≤ 9) (h1 : 1 ≤ n) (hk : k < n) (hv : ∀ p ∈ l, okP n p) (hb : bar ≤ H.length) (h : Q (.lst 1 false (dc n (distF n l k))) H) :
    WpCall E pure base bar 53 [.agg [.int .i64 (n : Nat), q], .int .i64 (k : Nat)] H Q := by
  rw [call53]
  have e0 : frzAll bar H [.agg [.int .i64 (n : Nat), q], .int .i64 (k : Nat)] = some ([.agg [.int .i64 (n : Nat), q], .int .i64 (k : Nat)], H) := by simp [frzAll, frz.frzs, frzsW, frz_agg, frz_int, hq.frz]
  rw [e0]
  have hb' := bar_if (pure := pure) hb
  have hz : List.flatten (List.replicate n [AV.int IntKind.i64 0]) = dc n fun _ => 0 := by
    simp [dc, List.flatten_replicate_singleton, List.map_const']
  have hbd : n * 8 ≤ 140737488355328 := by omega
  simp [go_sem, WpFun, c53, hq.isTup, hq.cells, aload, aop, AV.asNat, hz, hbd]
  refine l53a hn hb' ?_ n 0 (by omega) _ (fun x hx => by omega)
  have hB0 : Bd (startD k) 1 := fun x => by
    unfold startD updZ
    split
    · omega
    · simp only []; omega
  have c1 : (if pure = true then H.length else bar) ≤ H.length + 1 := by omega
  have hss : updZ (fun _ => (-1 : Int)) k 0 = startD k := rfl
  simp [go_sem, hk, storeWp, astore, AV.isTup, AV.cells, dc_len, c1, show k + 1 ≤ n from hk, dc_set, hss]
  refine l53c hq hl hn hv hb' hB0 ?_ n 0 (by omega)
  have e := frz_vec (d := 7) (bar := if pure = true then H.length else bar) (H := H ++ [.row 0 [.int .i64 (n : Nat), q] 0 true, .row 0 (dc n (relN (startD k) l n)) 0 true]) (id := H.length + 1) (ver := 0) (off := 0) (len := n) (sz := 1) (cs := dc n (relN (startD k) l n)) (fz := 0) (ex := true) (xs := dc n (relN (startD k) l n)) (H' := _) (by simp) (by simp [dc_len]) c1 (by
    have e1 : ((dc n (relN (startD k) l n)).drop 0).take (n * 1) = dc n (relN (startD k) l n) := by
      rw [List.drop_zero, Nat.mul_one, List.take_of_length_le (by rw [dc_len]; exact Nat.le_refl _)]
    rw [e1]
    exact plains dc_plain)
  simp [go_sem]
  rw [e]
  have e2 : chunks 1 n (dc n (relN (startD k) l n)) = dc n (relN (startD k) l n) := by have := chunks_one (l := dc n (relN (startD k) l n)); rwa [dc_len] at this
  simp [go_sem, e2, dc_tops, tops_cons, tops_nil, top_lst]
  exact h
end Go.Proofs.Ytoipleipokpnaaa.Code
end
section
namespace Go.Proofs.Ytoipleipokpnaaa.Code
open Go Go.Ab
/-! distances tell what can be reached -/
theorem relD_keep {D : Nat → Int} {a b x : Nat} (h : 0 ≤ D x) : relD D a b x = D x := by
  unfold relD
  split
  · rename_i hh
    unfold updZ
    split
    · rename_i e; subst e; omega
    · rfl
  · rfl
theorem relP_keep {D : Nat → Int} {p : ZZ} {x : Nat} (h : 0 ≤ D x) : relP D p x = D x := by
  unfold relP
  rw [relD_keep (by rw [relD_keep h]; exact h), relD_keep h]
theorem relL_keep : ∀ {l : List ZZ} {D : Nat → Int} {x : Nat}, 0 ≤ D x → relL D l x = D x
  | [], _, _, _ => rfl
  | p :: r, D, x, h => by
    have e : relL D (p :: r) = relL (relP D p) r := rfl
    rw [e, relL_keep (by rw [relP_keep h]; exact h), relP_keep h]
theorem relD_get {D : Nat → Int} {a b : Nat} (h : 0 ≤ D a) : 0 ≤ relD D a b b := by
  unfold relD
  split
  · unfold updZ; rw [if_pos rfl]; omega
  · omega
theorem relP_get1 {D : Nat → Int} {p : ZZ} (h : 0 ≤ D p.1.toNat) : 0 ≤ relP D p p.2.toNat := by
  unfold relP
  rw [relD_keep (relD_get h)]; exact relD_get h
theorem relP_get2 {D : Nat → Int} {p : ZZ} (h : 0 ≤ D p.2.toNat) : 0 ≤ relP D p p.1.toNat := by
  unfold relP
  exact relD_get (by rw [relD_keep h]; exact h)
theorem relL_get : ∀ {l : List ZZ} {D : Nat → Int} {p : ZZ}, p ∈ l → (0 ≤ D p.1.toNat → 0 ≤ relL D l p.2.toNat) ∧ (0 ≤ D p.2.toNat → 0 ≤ relL D l p.1.toNat)
  | [], _, _, h => by cases h
  | q :: r, D, p, h => by
    have e : relL D (q :: r) = relL (relP D q) r := rfl
    rw [e]
    rcases List.mem_cons.1 h with rfl | h
    · constructor
      · intro h1
        have := relP_get1 h1
        rw [relL_keep this]; exact this
      · intro h1
        have := relP_get2 h1
        rw [relL_keep this]; exact this
    · have ih := relL_get (D := relP D q) h
      constructor
      · intro h1; exact ih.1 (by rw [relP_keep h1]; exact h1)
      · intro h1; exact ih.2 (by rw [relP_keep h1]; exact h1)
theorem relD_sound {D : Nat → Int} {a b : Nat} {P : Nat → Prop} (hab : P a → P b) (h : ∀ x, 0 ≤ D x → P x) : ∀ x, 0 ≤ relD D a b x → P x := fun x hx => by
  unfold relD at hx
  split at hx
  · rename_i hh
    unfold updZ at hx
    split at hx
    · rename_i e; subst e; exact hab (h a hh.1)
    · exact h x hx
  · exact h x hx
theorem relL_sound {P : Nat → Prop} : ∀ {l : List ZZ} {D : Nat → Int}, (∀ p ∈ l, P p.1.toNat ↔ P p.2.toNat) → (∀ x, 0 ≤ D x → P x) → ∀ x, 0 ≤ relL D l x → P x
  | [], _, _, h => h
  | p :: r, D, hl, h => by
    have e : relL D (p :: r) = relL (relP D p) r := rfl
    rw [e]
    have hp := hl p (List.mem_cons_self ..)
    exact relL_sound (fun q hq => hl q (List.mem_cons_of_mem _ hq)) (relD_sound hp.2 (relD_sound hp.1 h))
theorem relN_sound {P : Nat → Prop} {l : List ZZ} {D : Nat → Int} (hl : ∀ p ∈ l, P p.1.toNat ↔ P p.2.toNat) (h : ∀ x, 0 ≤ D x → P x) : ∀ t x, 0 ≤ relN D l t x → P x
  | 0, x, hx => h x hx
  | t + 1, x, hx => relL_sound hl (relN_sound hl h t) x hx
theorem relN_keep {l : List ZZ} {D : Nat → Int} {x : Nat} (h : 0 ≤ D x) : ∀ t, relN D l t x = D x
  | 0 => rfl
  | t + 1 => by
    have ih := relN_keep (l := l) h t
    show relL (relN D l t) l x = D x
    rw [relL_keep (by rw [ih]; exact h), ih]
def Clsd (D : Nat → Int) (l : List ZZ) : Prop := ∀ p ∈ l, 0 ≤ D p.1.toNat ↔ 0 ≤ D p.2.toNat
def cnt (n : Nat) (D : Nat → Int) : Nat := ((List.range n).filter fun x => decide (0 ≤ D x)).length
theorem cnt_le {n : Nat} {D : Nat → Int} : cnt n D ≤ n := by
  have := List.length_filter_le (fun x => decide (0 ≤ D x)) (List.range n)
  rw [List.length_range] at this; exact this
theorem cnt_suc {n : Nat} {D : Nat → Int} : cnt (n + 1) D = cnt n D + if 0 ≤ D n then 1 else 0 := by
  unfold cnt
  rw [List.range_succ, List.filter_append, List.length_append]
  by_cases h : 0 ≤ D n <;> simp [h]
theorem cnt_mono {D D' : Nat → Int} : ∀ {n : Nat}, (∀ x, x < n → 0 ≤ D x → 0 ≤ D' x) → cnt n D ≤ cnt n D'
  | 0, _ => Nat.le_refl _
  | n + 1, h => by
    have ih := cnt_mono (n := n) fun x hx => h x (by omega)
    have hn := h n (by omega)
    rw [cnt_suc, cnt_suc]
    split
    · rw [if_pos (hn (by assumption))]; omega
    · omega
theorem cnt_lt {D D' : Nat → Int} : ∀ {n : Nat}, (∀ x, x < n → 0 ≤ D x → 0 ≤ D' x) → (∃ x, x < n ∧ ¬ 0 ≤ D x ∧ 0 ≤ D' x) → cnt n D < cnt n D'
  | 0, _, ⟨_, h, _⟩ => by omega
  | n + 1, h, ⟨x, hx, h1, h2⟩ => by
    rw [cnt_suc, cnt_suc]
    by_cases e : x = n
    · subst e
      have := cnt_mono (n := x) fun y hy => h y (by omega)
      rw [if_neg h1, if_pos h2]; omega
    · have ih := cnt_lt (n := n) (fun y hy => h y (by omega)) ⟨x, by omega, h1, h2⟩
      have hn := h n (by omega)
      split
      · rw [if_pos (hn (by assumption))]; omega
      · omega
theorem relN_grow {n k : Nat} {l : List ZZ} (hk : k < n) (hv : ∀ p ∈ l, okP n p) : ∀ t, Clsd (relN (startD k) l t) l ∨ t + 1 ≤ cnt n (relN (startD k) l t)
  | 0 => by
    right
    have : cnt n (fun _ => -1) < cnt n (startD k) := cnt_lt (fun x _ h => by omega) ⟨k, hk, by omega, by unfold startD updZ; rw [if_pos rfl]; omega⟩
    show 0 + 1 ≤ cnt n (startD k)
    omega
  | t + 1 => by
    show Clsd (relL (relN (startD k) l t) l) l ∨ t + 1 + 1 ≤ cnt n (relL (relN (startD k) l t) l)
    rcases relN_grow hk hv t with h | h
    · left
      have hs : ∀ x, 0 ≤ relL (relN (startD k) l t) l x ↔ 0 ≤ relN (startD k) l t x := fun x => ⟨relL_sound (P := fun x => 0 ≤ relN (startD k) l t x) h (fun _ h => h) x, fun hx => by rw [relL_keep hx]; exact hx⟩
      intro p hp
      rw [hs, hs]; exact h p hp
    · generalize relN (startD k) l t = D at *
      by_cases hc : Clsd D l
      · left
        have hs : ∀ x, 0 ≤ relL D l x ↔ 0 ≤ D x := fun x => ⟨relL_sound (P := fun x => 0 ≤ D x) hc (fun _ h => h) x, fun hx => by rw [relL_keep hx]; exact hx⟩
        intro p hp
        rw [hs, hs]; exact hc p hp
      · right
        have : ∃ p, p ∈ l ∧ ¬ (0 ≤ D p.1.toNat ↔ 0 ≤ D p.2.toNat) := by
          apply Classical.byContradiction
          intro hh
          exact hc fun p hp => Classical.byContradiction fun h2 => hh ⟨p, hp, h2⟩
        obtain ⟨p, hp, hne⟩ := this
        obtain ⟨q1, q2, q3, q4, q5⟩ := hv p hp
        have hg := relL_get (D := D) hp
        have hlt : cnt n D < cnt n (relL D l) := by
          refine cnt_lt (fun x _ hx => by rw [relL_keep hx]; exact hx) ?_
          by_cases h1 : 0 ≤ D p.1.toNat
          · exact ⟨p.2.toNat, by omega, fun h2 => hne ⟨fun _ => h2, fun _ => h1⟩, hg.1 h1⟩
          · have h2 : 0 ≤ D p.2.toNat := Classical.byContradiction fun h2 => hne ⟨fun h => absurd h h1, fun h => absurd h h2⟩
            exact ⟨p.1.toNat, by omega, h1, hg.2 h2⟩
        omega
theorem distF_closed {n k : Nat} {l : List ZZ} (hk : k < n) (hv : ∀ p ∈ l, okP n p) : Clsd (distF n l k) l := by
  rcases relN_grow hk hv n with h | h
  · exact h
  · have := cnt_le (n := n) (D := relN (startD k) l n); omega
theorem tie_val {n : Nat} {l : List ZZ} {p : ZZ} (hv : ∀ p ∈ l, okP n p) (hp : p ∈ l) : tieB l p.1.toNat p.2.toNat = true := by
  obtain ⟨q1, q2, _⟩ := hv p hp
  rw [tieB_iff]; left
  rw [Int.toNat_of_nonneg q1, Int.toNat_of_nonneg q2]; exact hp
theorem distF_rch {n k x : Nat} {l : List ZZ} (hk : k < n) (hv : ∀ p ∈ l, okP n p) : 0 ≤ distF n l k x ↔ Rch (tieB l) k x := by
  constructor
  · refine relN_sound (P := Rch (tieB l) k) (fun p hp => ?_) (fun y hy => ?_) n x
    · have := tie_val hv hp
      exact ⟨fun h => .step h this, fun h => .step h (by rw [tieB_symm]; exact this)⟩
    · unfold startD updZ at hy
      split at hy
      · rename_i e; subst e; exact .refl _
      · simp at hy
  · intro h
    induction h with
    | refl =>
      have : 0 ≤ startD k k := by unfold startD updZ; rw [if_pos rfl]; omega
      unfold distF
      rw [relN_keep this]; exact this
    | step h1 h2 ih =>
      have hc := distF_closed hk hv
      rw [tieB_iff] at h2
      rcases h2 with h2 | h2
      · exact (hc _ h2).1 ih
      · exact (hc _ h2).2 ih
theorem distF_conn {n : Nat} {l : List ZZ} (h1 : 1 ≤ n) (hv : ∀ p ∈ l, okP n p) : (∀ x, x < n → 0 ≤ distF n l 0 x) ↔ Conn n l :=
  ⟨fun h x hx => (distF_rch h1 hv).1 (h x hx), fun h x hx => (distF_rch h1 hv).2 (h x hx)⟩
end Go.Proofs.Ytoipleipokpnaaa.Code
end
section
namespace Go.Proofs.Ytoipleipokpnaaa.Code
open Go Go.Ab
variable {pure : Bool} {base bar : Nat} {H : Heap} {Q : AV → Heap → Prop}
theorem l69w {n : Nat} {D : Nat → Int} (hn : n ≤ 9) {R : PQ} :
    ∀ (k i : Nat), i + k = n → (∀ x, x < i → 0 ≤ D x) →
    ((∀ x, x < n → 0 ≤ D x) → R (.exit 0) [(3, .lst 1 false (dc n D)), (4, .int .i64 (n : Nat)), (10, .bool false)] H) →
    (¬ (∀ x, x < n → 0 ≤ D x) → R .ret [(2, .bool false)] H) →
    Wp E base bar (.loop c69_l0) [(3, .lst 1 false (dc n D)), (4, .int .i64 (i : Nat))] H R := by
  intro k
  induction k with
  | zero =>
    intro i hi hD h1 h2
    obtain rfl : i = n := by omega
    rw [wp_round c69_l0.eq_1]
    simp [go_sem, dc_len]
    exact h1 hD
  | succ k ih =>
    intro i hi hD h1 h2
    have hlt : i < n := by omega
    rw [wp_round c69_l0.eq_1]
    by_cases hd : 0 ≤ D i
    · have hnext := ih (i + 1) (by omega) (fun x hx => by
        rcases Nat.lt_or_ge x i with h | h
        · exact hD x h
        · obtain rfl : x = i := by omega
          exact hd) h1 h2
      have hd' : ¬ D i < 0 := by omega
      simp [go_sem, dc_len, hlt, dc_getE, dc_get, hd, hd', aload, i64_suc (show i < 1000000 by omega)]
      exact hnext
    · have hd' : D i < 0 := by omega
      have hh := h2 fun h => hd (h i hlt)
      simp [go_sem, dc_len, hlt, dc_getE, dc_get, hd', aload]
      exact hh
theorem k69w {n : Nat} {q : AV} {l : List ZZ} (hq : isP q l) (hl : l.length < 1000) (hn : n ≤ 9) (h1 : 1 ≤ n) (hv : ∀ p ∈ l, okP n p) (hb : bar ≤ H.length) (k1 : Conn n l → Q (.bool true) H) (k2 : ¬ Conn n l → Q (.bool false) H) :
    WpCall E pure base bar 69 [.agg [.int .i64 (n : Nat), q]] H Q := by
  rw [call69]
  have e0 : frzAll bar H [.agg [.int .i64 (n : Nat), q]] = some ([.agg [.int .i64 (n : Nat), q]], H) := by simp [frzAll, frz.frzs, frzsW, frz_agg, frz_int, hq.frz]
  rw [e0]
  have hb' := bar_if (pure := pure) hb
  simp [go_sem, WpFun, c69, hq.isTup, hq.cells, aload]
  refine k53 (k := 0) hq hl hn h1 (by omega) hv (by simp; omega) ?_
  simp [go_sem, dc_tops, tops_cons, tops_nil, top_lst]
  refine l69w hn n 0 (by omega) (fun x hx => by omega) (fun hc => ?_) (fun hc => ?_)
  · have := k1 ((distF_conn h1 hv).1 hc)
    simp [go_sem]
    exact this
  · have := k2 fun hh => hc ((distF_conn h1 hv).2 hh)
    simp [go_sem]
    exact this
theorem isP.cut {q : AV} {l : List ZZ} (hq : isP q l) {i : Nat} (hi : i < l.length) : ∃ q', aslice H (.slc 2) q none (some (.int .i64 (i : Int))) none = some q' ∧ isP q' (l.take i) := by
  rcases hq with ⟨rfl, rfl⟩ | ⟨ex, rfl⟩
  · simp at hi
  · refine ⟨.lst 2 (ex && i == l.length) (prA (l.take i)), ?_, .inr ⟨_, rfl⟩⟩
    have hl : (prA l).length = l.length := by simp [prA]
    simp [aslice, optBound, bound1, AV.asNat, hl, Nat.le_of_lt hi]
    simp [prA, List.map_take]
theorem l28 {n : Nat} {q : AV} {l : List ZZ} (hq : isP q l) (hl : l.length < 1000) (hn : n ≤ 9) (hbar : bar ≤ H.length) {R : PQ} :
    ∀ (k i : Nat), i + k = l.length → (∀ p ∈ l.take i, okP n p) →
    (errL n (l.take i) (l.drop i) ≠ 0 → R .ret [(2, .int .i64 (errL n (l.take i) (l.drop i)))] (H ++ [.row 0 [.int .i64 (n : Nat), q] 0 true])) →
    ((∀ p ∈ l, okP n p) → errL n (l.take i) (l.drop i) = 0 → R (.exit 0) [(1, .ptr H.length 0 0), (3, .int .i64 (l.length : Nat)), (13, .bool false)] (H ++ [.row 0 [.int .i64 (n : Nat), q] 0 true])) →
    Wp E H.length bar (.loop c28_l0) [(1, .ptr H.length 0 0), (3, .int .i64 (i : Nat))] (H ++ [.row 0 [.int .i64 (n : Nat), q] 0 true]) R := by
  intro k
  have hlen := fun (H : Heap) (K : AV → Heap → List Nat → Prop) => hq.len (H := H) (K := K)
  induction k with
  | zero =>
    intro i hi hv h1 h2
    obtain rfl : i = l.length := by omega
    rw [List.take_length] at hv h2
    rw [List.drop_length] at h2
    rw [wp_round c28_l0.eq_1]
    simp [go_sem, aload, hlen]
    exact h2 hv rfl
  | succ k ih =>
    intro i hi hv h1 h2
    have hlt : i < l.length := by omega
    have htk : l.take (i + 1) = l.take i ++ [l[i]] := by rw [List.take_add_one, List.getElem?_eq_getElem hlt]; rfl
    rw [List.drop_eq_getElem_cons hlt] at h1 h2
    obtain ⟨p, hp⟩ : ∃ p, l[i] = p := ⟨_, rfl⟩
    rw [hp] at h1 h2 htk
    have hnext := ih (i + 1) (by omega)
    rw [htk] at hnext
    have hix := fun (H : Heap) (K : AV → Heap → List Nat → Prop) => hq.ix (H := H) (K := K) (k := .i64) hlt
    simp only [hp, zc] at hix
    obtain ⟨q', hq1, hq2⟩ := isP.cut (H := H ++ [.row 0 [.int .i64 (n : Nat), q] 0 true]) hq hlt
    simp only [errL] at h1 h2
    rw [wp_round c28_l0.eq_1]
    simp [go_sem, aload, hlen, hlt, hix]
    refine k65 hn ?_
    by_cases hm : mayS n p = 0
    · simp only [hm, ne_eq, not_true_eq_false, if_false] at h1 h2
      have hok := mayS_ok.1 hm
      obtain ⟨a, c⟩ := p
      obtain ⟨q1, q2, q3, q4, q5⟩ := hok
      simp only at q1 q2 q3 q4 q5
      obtain ⟨a, rfl⟩ := Int.eq_ofNat_of_zero_le q1
      obtain ⟨c, rfl⟩ := Int.eq_ofNat_of_zero_le q2
      simp only [Int.toNat_natCast] at h1 h2
      simp [go_sem, hm, aload, hix, hlt, aop, Opd.evo, hq1]
      refine k54 hq2 (by rw [List.length_take]; omega) ?_
      rw [tieZ_nat]
      cases ht : tieB (l.take i) a c with
      | true =>
        simp only [ht, if_true] at h1
        simp [go_sem]
        exact h1 (by decide)
      | false =>
        simp only [ht, Bool.false_eq_true, if_false] at h1 h2
        simp [go_sem, i64_suc (show i < 1000000 by omega)]
        refine hnext (fun p hp => ?_) h1 h2
        rcases List.mem_append.1 hp with hp | hp
        · exact hv p hp
        · rw [List.mem_singleton] at hp; subst hp
          exact mayS_ok.1 hm
    · simp only [hm, ne_eq, not_false_eq_true, if_true] at h1
      simp [go_sem, hm, aload]
      exact h1 trivial
theorem k28 {n : Int} {q : AV} {l : List ZZ} (hq : isP q l) (hl : l.length < 1000) (hbar : bar ≤ H.length) (h : Q (.int .i64 (errT n l)) H) :
    WpCall E pure base bar 28 [.agg [.int .i64 n, q]] H Q := by
  rw [call28]
  have e0 : frzAll bar H [.agg [.int .i64 n, q]] = some ([.agg [.int .i64 n, q]], H) := by simp [frzAll, frz.frzs, frzsW, frz_agg, frz_int, hq.frz]
  rw [e0]
  have hb' := bar_if (pure := pure) hbar
  by_cases hr : 1 ≤ n ∧ n ≤ 9
  · obtain ⟨m, rfl⟩ := Int.eq_ofNat_of_zero_le (show 0 ≤ n by omega)
    have hm1 : 1 ≤ m := by omega
    have hm9 : m ≤ 9 := by omega
    have hr' : (decide (1 ≤ (m : Int)) && decide ((m : Int) ≤ 9)) = true := by simp; omega
    have hlen := fun (H : Heap) (K : AV → Heap → List Nat → Prop) => hq.len (H := H) (K := K)
    simp [go_sem, WpFun, c28, hq.isTup, hq.cells, aload, k52, hr']
    refine l28 hq hl hm9 hb' l.length 0 (by omega) (fun p hp => by simp at hp) (fun he => ?_) (fun hv he => ?_)
    · rw [List.take_zero, List.drop_zero] at he ⊢
      have e : errT (m : Int) l = errL m [] l := by unfold errT; rw [if_neg (by simp [hr]), if_pos he]
      rw [e] at h
      simp [go_sem]
      exact h
    · rw [List.take_zero, List.drop_zero] at he
      by_cases hml : (m : Int) ≤ l.length
      · have e : errT (m : Int) l = 3 := by unfold errT; rw [if_neg (by simp [hr]), if_neg (by simpa using he), if_pos hml]
        rw [e] at h
        simp [go_sem, aload, hlen, hml]
        exact h
      · have hml' : ¬ m ≤ l.length := by omega
        simp [go_sem, aload, hlen, hml']
        refine k69w hq hl hm9 hm1 hv (by simp; omega) (fun hc => ?_) (fun hc => ?_)
        · have e : errT (m : Int) l = 0 := by unfold errT; rw [if_neg (by simp [hr]), if_neg (by simpa using he), if_neg hml, if_pos (by simpa using hc)]
          rw [e] at h
          simp [go_sem]
          exact h
        · have e : errT (m : Int) l = 21 := by unfold errT; rw [if_neg (by simp [hr]), if_neg (by simpa using he), if_neg hml, if_neg (by simpa using hc)]
          rw [e] at h
          simp [go_sem]
          exact h
  · have hr' : (decide (1 ≤ n) && decide (n ≤ 9)) = false := by simpa using hr
    have e : errT n l = 1 := by unfold errT; rw [if_pos hr]
    rw [e] at h
    simp [go_sem, WpFun, c28, hq.isTup, hq.cells, aload, k52, hr']
    exact h
end Go.Proofs.Ytoipleipokpnaaa.Code
end
section
namespace Go.Proofs.Ytoipleipokpnaaa.Code
open Go Go.Ab
variable {pure : Bool} {base bar : Nat} {H : Heap} {Q : AV → Heap → Prop}
/-! tidy trees -/
def rowT (f : Nat → Nat → Bool) (a : Nat) : List ZZ := ((List.range 9).filter fun b => f a b && decide (a < b)).map fun b : Nat => ((a : Int), (b : Int))
def tidyF (f : Nat → Nat → Bool) (n : Nat) : List ZZ := (List.range n).flatMap (rowT f)
theorem rowT_len {f : Nat → Nat → Bool} {a : Nat} : (rowT f a).length ≤ 9 := by
  unfold rowT
  rw [List.length_map]
  exact Nat.le_trans (List.length_filter_le _ _) (by simp)
theorem tidyF_suc {f : Nat → Nat → Bool} {n : Nat} : tidyF f (n + 1) = tidyF f n ++ rowT f n := by simp [tidyF, List.range_succ]
theorem tidyF_len {f : Nat → Nat → Bool} : ∀ {n : Nat}, (tidyF f n).length ≤ 9 * n
  | 0 => by simp [tidyF]
  | n + 1 => by
    rw [tidyF_suc, List.length_append]
    have := tidyF_len (f := f) (n := n)
    have := rowT_len (f := f) (a := n)
    omega
/-- a tree under construction -/
def TrG (G : Heap) (n : Nat) (acc : List ZZ) (v : AV) (H : Heap) : Prop := Grow 2 (prs acc) (G ++ [.row 0 [.int .i64 (n : Nat), v] 0 true]) v H
theorem TrG.get {G : Heap} {n : Nat} {acc : List ZZ} {v : AV} (g : TrG G n acc v H) : H[G.length]? = some (.row 0 [.int .i64 (n : Nat), v] 0 true) := Grow.get g (by simp)
theorem TrG.old {G : Heap} {n i : Nat} {b : Blk} {acc : List ZZ} {v : AV} (g : TrG G n acc v H) (h : G[i]? = some b) : H[i]? = some b := Grow.get g (by rw [List.getElem?_append_left (List.getElem?_eq_some_iff.1 h).1]; exact h)
theorem TrG.nil {G : Heap} {n : Nat} : TrG G n [] .nils (G ++ [.row 0 [.int .i64 (n : Nat), .nils] 0 true]) := by
  unfold TrG; simpa [prs] using Grow.nil
theorem TrG.glen {G : Heap} {n : Nat} {acc : List ZZ} {v : AV} (g : TrG G n acc v H) : G.length + 1 ≤ H.length := by
  have := Grow.len g
  rw [List.length_append, List.length_singleton] at this
  exact this
theorem Grow.one {sz : Nat} {cs : List AV} {H0 : Heap} {v : AV} (g : Grow sz cs H0 v H) : v.isTup = false ∧ v.cells = [v] := by
  rcases g with ⟨rfl, rfl, rfl⟩ | ⟨ver, fz, h1, h2, rfl, rfl⟩ <;> exact ⟨rfl, rfl⟩
theorem TrG.add {G : Heap} {n : Nat} {acc : List ZZ} {v : AV} {p : ZZ} {ex : Bool} {K : AV → Heap → List Nat → Prop} (g : TrG G n acc v H) (hb : bar ≤ G.length) (hbase : base ≤ G.length) (hlen : acc.length < 1000)
    (h : ∀ v' H' tc, H'[G.length]? = some (.row 0 [.int .i64 (n : Nat), v] 0 true) → v'.isTup = false → v'.cells = [v'] → TrG G n (acc ++ [p]) v' (H'.set G.length (.row 0 [.int .i64 (n : Nat), v'] 0 true)) → K v' H' tc) :
    appWp base bar 2 16 (some v) (some (.lst 2 ex [.agg [.int .i64 p.1, .int .i64 p.2]])) H K := by
  refine Grow.pair g (by simp; omega) (by simp; omega) (by omega) fun v' H' tc g' => h v' H' tc (Grow.get g' (by simp)) (Grow.one g').1 (Grow.one g').2 ?_
  have := Grow.set g' (i := G.length) (b := .row 0 [.int .i64 (n : Nat), v'] 0 true) (by simp)
  rw [own_set0] at this
  exact this
theorem l64a {a n : Nat} {G : Heap} {Lv wv t2 : AV} {L : List Nat} (hL : isL Lv L) (h9 : L.length ≤ 9) (hbar : bar ≤ G.length) (hbase : base ≤ G.length) {R : PQ} :
    ∀ (k i : Nat), i + k = L.length → ∀ (acc : List ZZ) (v : AV) (H : Heap), TrG G n acc v H → acc.length + k < 1000 →
    (∀ v' H', TrG G n (acc ++ ((L.drop i).filter fun b => decide (a < b)).map fun b : Nat => ((a : Int), (b : Int))) v' H' →
      R (.exit 2) [(2, t2), (3, .ptr G.length 0 0), (11, wv), (12, .int .i64 (n : Nat)), (13, .int .i64 (a : Nat)), (4, .int .i64 (a : Nat)), (19, Lv), (20, .int .i64 (L.length : Nat)), (21, .int .i64 (L.length : Nat)), (22, .bool false)] H') →
    Wp E base bar (.loop c64_l0) [(2, t2), (3, .ptr G.length 0 0), (11, wv), (12, .int .i64 (n : Nat)), (13, .int .i64 (a : Nat)), (4, .int .i64 (a : Nat)), (19, Lv), (20, .int .i64 (L.length : Nat)), (21, .int .i64 (i : Nat))] H R := by
  intro k
  induction k with
  | zero =>
    intro i hi acc v H g hlen h
    obtain rfl : i = L.length := by omega
    rw [List.drop_length] at h
    simp only [List.filter_nil, List.map_nil, List.append_nil] at h
    rw [wp_round c64_l0.eq_1]
    simp [go_sem]
    exact h v H g
  | succ k ih =>
    intro i hi acc v H g hlen h
    have hlt : i < L.length := by omega
    rw [List.drop_eq_getElem_cons hlt, List.filter_cons] at h
    have hix := fun (H : Heap) (K : AV → Heap → List Nat → Prop) => hL.ix (H := H) (K := K) (k := .i64) hlt
    generalize L[i] = b at *
    have hget := g.get
    rw [wp_round c64_l0.eq_1]
    by_cases hab : a < b
    · simp only [hab, decide_true, if_true, List.map_cons] at h
      simp [go_sem, hlt, hix, aload, hab, hget, aop, fillA, setCells, AV.cells, chunks]
      refine g.add (p := ((a : Int), (b : Int))) hbar hbase (by omega) fun v' H' tc hg hv1 hv2 g' => ?_
      simp [go_sem, storeWp, astore, hv1, hv2, setCells, hg, hbar, hbase, i64_suc (show i < 1000000 by omega)]
      refine ih (i + 1) (by omega) _ v' _ g' (by simp; omega) fun v'' H'' g'' => h v'' H'' ?_
      simpa using g''
    · simp only [hab, decide_false, Bool.false_eq_true, if_false] at h
      simp [go_sem, hlt, hix, aload, hab, i64_suc (show i < 1000000 by omega)]
      exact ih (i + 1) (by omega) acc v H g (by omega) h
theorem l64b {n : Nat} {G : Heap} {t2 : AV} {ex : Bool} {w : Nat → Nat} (hw : ∀ i, w i < 512) (hn : n ≤ 9) (hbar : bar ≤ G.length) (hbase : base ≤ G.length) {R : PQ} :
    ∀ (k i : Nat), i + k = n → ∀ (v : AV) (H : Heap), TrG G n (tidyF (fun a b => (w a).testBit b) i) v H →
    (∀ v' H', TrG G n (tidyF (fun a b => (w a).testBit b) n) v' H' →
      R (.exit 0) [(2, t2), (3, .ptr G.length 0 0), (11, .lst 1 ex (wc n w)), (12, .int .i64 (n : Nat)), (13, .int .i64 (n : Nat)), (14, .bool false)] H') →
    Wp E base bar (.loop c64_l1) [(2, t2), (3, .ptr G.length 0 0), (11, .lst 1 ex (wc n w)), (12, .int .i64 (n : Nat)), (13, .int .i64 (i : Nat))] H R := by
  intro k
  induction k with
  | zero =>
    intro i hi v H g h
    obtain rfl : i = n := by omega
    rw [wp_round c64_l1.eq_1]
    simp [go_sem]
    exact h v H g
  | succ k ih =>
    intro i hi v H g h
    have hlt : i < n := by omega
    have hlen := tidyF_len (f := fun a b => (w a).testBit b) (n := i)
    have gl := g.glen
    rw [wp_round c64_l1.eq_1]
    simp [go_sem, hlt, wc_get, wc_getE, wc_len, aload]
    refine k58 (hw i) (by omega) ?_
    have hout : isL (outL 1 (nats (bitsN (w i)))) (bitsN (w i)) := isL.out
    have b9 := bitsN_len (s := w i)
    simp [go_sem, hout.len]
    refine l64a hout b9 hbar hbase (bitsN (w i)).length 0 (by omega) _ v H g (by omega) fun v' H' g' => ?_
    simp [go_sem, i64_suc (show i < 1000000 by omega)]
    refine ih (i + 1) (by omega) v' H' ?_ h
    rw [tidyF_suc]
    rw [List.drop_zero] at g'
    have e : rowT (fun a b => (w a).testBit b) i = ((bitsN (w i)).filter fun b => decide (i < b)).map fun b : Nat => ((i : Int), (b : Int)) := by
      unfold rowT bitsN
      rw [List.filter_filter]
      congr 2
      funext b
      rw [Bool.and_comm]
    rw [e]; exact g'
/-- a tree's value -/
def isT (u : AV) (n : Nat) (l : List ZZ) : Prop := ∃ q, isP q l ∧ u = .agg [.int .i64 (n : Nat), q]
theorem k64 {id ver n fz : Nat} {ex : Bool} {w : Nat → Nat} (h : H[id]? = some (.row ver (wc n w) fz ex)) (hn : n ≤ 9) (hw : ∀ i, w i < 512) (hbar : bar ≤ id)
    (k : ∀ u, isT u n (tidyF (fun a b => (w a).testBit b) n) → ∀ b, Q u (H.set id b)) : WpCall E pure base bar 64 [.vec id ver 0 n 1] H Q := by
  rw [call64]
  have hid := (List.getElem?_eq_some_iff.1 h).1
  have e := frz_vec (d := 7) (bar := bar) (H := H) (id := id) (ver := ver) (off := 0) (len := n) (sz := 1) (cs := wc n w) (fz := fz) (ex := ex) (xs := wc n w) (H' := _) h (by simp [wc_len]) hbar (by
    have e1 : ((wc n w).drop 0).take (n * 1) = wc n w := by
      rw [List.drop_zero, Nat.mul_one, List.take_of_length_le (by rw [wc_len]; exact Nat.le_refl _)]
    rw [e1]
    exact plains wc_plain)
  have e2 : chunks 1 n (wc n w) = wc n w := by have := chunks_one (l := wc n w); rwa [wc_len] at this
  rw [e2] at e
  have e0 : frzAll bar H [.vec id ver 0 n 1] = some ([.lst 1 false (wc n w)], H.set id (.row ver (wc n w) (max fz (0 + n)) ex)) := by
    simp [frzAll, frz.frzs, frzsW, e]
  rw [e0]
  have kk := fun u hu => k u hu (.row ver (wc n w) (max fz (0 + n)) ex)
  have hlen : (H.set id (.row ver (wc n w) (max fz (0 + n)) ex)).length = H.length := by simp
  generalize H.set id (.row ver (wc n w) (max fz (0 + n)) ex) = H1 at *
  have hb' : (if pure = true then H1.length else bar) ≤ H1.length := bar_if (by omega)
  have hb2 : (if pure = true then H1.length else bar) ≤ H1.length + 1 := by omega
  simp [go_sem, WpFun, c64, wc_len, fillA, setCells, storeWp, astore, AV.isTup, AV.cells, hb', hb2]
  have tn : TrG (H1 ++ [.row 0 [.int .i64 0, .nils] 0 true]) n (tidyF (fun a b => (w a).testBit b) 0) .nils (H1 ++ [.row 0 [.int .i64 0, .nils] 0 true, .row 0 [.int .i64 (n : Nat), .nils] 0 true]) := by
    have := TrG.nil (G := H1 ++ [.row 0 [.int .i64 0, .nils] 0 true]) (n := n)
    rw [List.append_assoc] at this
    exact this
  have l := fun {R : PQ} hr => l64b (base := H1.length) (bar := if pure = true then H1.length else bar) (G := H1 ++ [.row 0 [.int .i64 0, .nils] 0 true]) (t2 := .ptr H1.length 0 0) (ex := false) hw hn (by rw [List.length_append]; omega) (by simp) n 0 (by omega) .nils _ tn (R := R) hr
  simp only [List.length_append, List.length_singleton] at l
  refine l fun v' H' g => ?_
  have hg := g.get
  simp at hg
  simp [go_sem, aload, hg]
  obtain ⟨s1, s2⟩ := Grow.one g
  have hc : H'[H1.length]? = some (.row 0 [.int .i64 0, .nils] 0 true) := g.old (by simp)
  rw [storeWp_ptr (size := 2) hc rfl rfl (by omega) (by simp) hb' (.inl (Nat.le_refl _))]
  have g2 := Grow.set g (i := H1.length) (b := .row 0 [.int .i64 (n : Nat), v'] 0 true) (by simp)
  have e2 : (H'.set H1.length (.row 0 [.int .i64 (n : Nat), v'] 0 true))[H1.length]? = some (.row 0 [.int .i64 (n : Nat), v'] 0 true) := Grow.get g2 (by simp [own_set0])
  simp [go_sem, aload_ptr e2]
  obtain ⟨H2, f1, f2, f3, f4⟩ := Grow.frz g2 (d := 4) (bar := if pure = true then H1.length else bar) (by decide) ⟨_, prs_length⟩ prs_plain (by simp; omega)
  have e3 : H2.take H1.length = H1 := by
    have := congrArg (List.take H1.length) f4
    rw [List.take_take] at this
    simp at this
    exact this
  rw [show 4 + 3 = 7 from rfl] at f1
  simp only [f1]
  have hk := kk _ ⟨_, isP.out, rfl⟩
  simp [go_sem, isP.out.top, e3]
  exact hk
end Go.Proofs.Ytoipleipokpnaaa.Code
end
section
namespace Go.Proofs.Ytoipleipokpnaaa.Code
open Go Go.Ab
/-! what is left of a tree while leaves are taken off -/
theorem bitsN_clear : ∀ s, s < 512 → ∀ b, b < 9 → s.testBit b = true → (bitsN (bxor s (pw b))).length + 1 = (bitsN s).length := by decide +kernel
def Sm : Nat → (Nat → Nat) → Nat
  | 0, _ => 0
  | n + 1, F => Sm n F + F n
theorem Sm_congr {F G : Nat → Nat} : ∀ {n : Nat}, (∀ x, x < n → F x = G x) → Sm n F = Sm n G
  | 0, _ => rfl
  | n + 1, h => by simp only [Sm]; rw [Sm_congr fun x hx => h x (by omega), h n (by omega)]
theorem Sm_upd {F G : Nat → Nat} {a d : Nat} : ∀ {n : Nat}, a < n → (∀ x, x < n → x ≠ a → G x = F x) → G a + d = F a → Sm n G + d = Sm n F
  | 0, h, _, _ => by omega
  | n + 1, h, h1, h2 => by
    simp only [Sm]
    by_cases e : a = n
    · subst e
      rw [Sm_congr (G := F) fun x hx => h1 x (by omega) (by omega)]; omega
    · have := Sm_upd (n := n) (F := F) (G := G) (a := a) (d := d) (by omega) (fun x hx => h1 x (by omega)) h2
      rw [h1 n (by omega) (by omega)]; omega
def lftN (n : Nat) (g : Nat → Bool) : Nat := Sm n fun x => if g x then 0 else 1
theorem Sm_ge {F : Nat → Nat} {g : Nat → Bool} : ∀ {n : Nat}, (∀ x, x < n → g x = false → 2 ≤ F x) → 2 * lftN n g ≤ Sm n F
  | 0, _ => by simp [lftN, Sm]
  | n + 1, h => by
    have ih := Sm_ge (n := n) fun x hx => h x (by omega)
    unfold lftN at ih ⊢
    simp only [Sm]
    by_cases e : g n = true
    · simp [e]; omega
    · have := h n (by omega) (by simpa using e)
      simp [e]; omega
def updB (g : Nat → Bool) (k : Nat) (b : Bool) : Nat → Bool := fun x => if x = k then b else g x
structure Inv (n : Nat) (l : List ZZ) (w : Nat → Nat) (g : Nat → Bool) (left : Nat) : Prop where
  lt : ∀ i, w i < 512
  bit : ∀ x y, (w x).testBit y = (tieB l x y && !g x && !g y)
  inn : ∀ x y, tieB l x y = true → x < n ∧ y < n ∧ x ≠ y
  cnt : lftN n g = left
  conn : ∀ x y, x < n → y < n → g x = false → g y = false → Rch (fun a b => (w a).testBit b) x y
  sum : Sm n (fun x => (bitsN (w x)).length) + 2 ≤ 2 * left
def leafB (s : Nat) : Bool := (bitsN s).length == 1
theorem lftN_two {n k : Nat} {g : Nat → Bool} (hk : k < n) (hg : g k = false) (h : 2 ≤ lftN n g) : ∃ y, y < n ∧ y ≠ k ∧ g y = false := by
  apply Classical.byContradiction
  intro hc
  have hall : ∀ y, y < n → y ≠ k → g y = true := fun y hy hne => by
    cases e : g y with
    | true => rfl
    | false => exact absurd ⟨y, hy, hne, e⟩ hc
  have e0 : ∀ n, Sm n (fun _ => 0) = 0 := fun n => by induction n with
    | zero => rfl
    | succ n ih => simp only [Sm]; omega
  have := Sm_upd (n := n) (F := fun x => if g x then 0 else 1) (G := fun _ => 0) (a := k) (d := 1) hk (fun x hx hne => by simp [hall x hx hne]) (by simp [hg])
  rw [e0] at this
  unfold lftN at h; omega
theorem Inv.last {n : Nat} {l : List ZZ} {w : Nat → Nat} {g : Nat → Bool} {left : Nat} (h : Inv n l w g left) {x : Nat} (hx : x < n) (hg : g x = false) (h2 : 2 ≤ left) : ∃ y, (w x).testBit y = true := by
  obtain ⟨y, hy, hne, hgy⟩ := lftN_two hx hg (by rw [h.cnt]; exact h2)
  have := h.conn y x hy hx hgy hg
  cases this with
  | refl => exact absurd rfl hne
  | step h1 h2 =>
    rename_i z
    refine ⟨z, ?_⟩
    have h2' : (w z).testBit x = true := h2
    rw [h.bit] at h2' ⊢
    rw [tieB_symm]
    revert h2'
    cases tieB l z x <;> cases g z <;> cases g x <;> simp
theorem Inv.leaf {n : Nat} {l : List ZZ} {w : Nat → Nat} {g : Nat → Bool} {left : Nat} (h : Inv n l w g left) (h2 : 2 ≤ left) : ∃ k, k < n ∧ g k = false ∧ leafB (w k) = true := by
  apply Classical.byContradiction
  intro hc
  have : 2 * lftN n g ≤ Sm n fun x => (bitsN (w x)).length := Sm_ge fun x hx hg => by
    obtain ⟨y, hy⟩ := h.last hx hg h2
    have h1 : (bitsN (w x)).length ≠ 1 := fun e => hc ⟨x, hx, hg, by unfold leafB; rw [e]; rfl⟩
    have h0 : (bitsN (w x)).length ≠ 0 := fun e => by
      have := (mem_bitsN (h.lt x)).2 hy
      rw [List.length_eq_zero_iff.1 e] at this; cases this
    omega
  have := h.sum
  have := h.cnt
  omega
/-- a knot's leaf is taken off -/
theorem Inv.off {n : Nat} {l : List ZZ} {w : Nat → Nat} {g : Nat → Bool} {left k to : Nat} (hn : n ≤ 9) (h : Inv n l w g (left + 1)) (hk : k < n) (hg : g k = false) (hl : bitsN (w k) = [to]) : Inv n l (tieW w k to) (updB g k true) left ∧ to < n ∧ to ≠ k := by
  have hkt : ∀ y, (w k).testBit y = true ↔ y = to := fun y => by rw [← mem_bitsN (h.lt k), hl, List.mem_singleton]
  have hto : (w k).testBit to = true := (hkt to).2 rfl
  have hto' := hto
  rw [h.bit] at hto'
  simp only [Bool.and_eq_true, Bool.not_eq_true'] at hto'
  obtain ⟨⟨t1, t2⟩, t3⟩ := hto'
  obtain ⟨i1, i2, i3⟩ := h.inn _ _ t1
  have hsym : ∀ x y, (w x).testBit y = (w y).testBit x := fun x y => by
    rw [h.bit, h.bit, tieB_symm]
    cases tieB l y x <;> cases g x <;> cases g y <;> rfl
  have hca : upd w k (bxor (w k) (pw to)) to = w to := by unfold upd; rw [if_neg (fun e => i3 e.symm)]
  have wk : tieW w k to k = bxor (w k) (pw to) := by
    unfold tieW; rw [hca]; unfold upd; rw [if_neg i3, if_pos rfl]
  have wt : tieW w k to to = bxor (w to) (pw k) := by
    unfold tieW; rw [hca]; unfold upd; rw [if_pos rfl]
  have wo : ∀ x, x ≠ k → x ≠ to → tieW w k to x = w x := fun x h1 h2 => by
    unfold tieW; rw [hca]; unfold upd; rw [if_neg h2, if_neg h1]
  have hbit : ∀ x y, (tieW w k to x).testBit y = (tieB l x y && !updB g k true x && !updB g k true y) := fun x y => by
    by_cases e1 : x = k
    · subst e1
      rw [wk, testBit_bxor, testBit_pw]
      have : updB g x true x = true := by simp [updB]
      rw [this]
      by_cases e2 : to = y
      · subst e2; rw [hto]; simp
      · have : (w x).testBit y = false := by
          cases hb : (w x).testBit y with
          | false => rfl
          | true => exact absurd ((hkt y).1 hb).symm e2
        rw [this]; simp [e2]
    · have gx : updB g k true x = g x := by simp [updB, e1]
      by_cases e2 : y = k
      · subst e2
        have : updB g y true y = true := by simp [updB]
        rw [this]
        by_cases e3 : x = to
        · subst e3
          rw [wt, testBit_bxor, testBit_pw, hsym, hto]; simp
        · rw [wo x e1 e3, hsym]
          have : (w y).testBit x = false := by
            cases hb : (w y).testBit x with
            | false => rfl
            | true => exact absurd ((hkt x).1 hb) e3
          rw [this]; simp
      · have gy : updB g k true y = g y := by simp [updB, e2]
        rw [gx, gy, ← h.bit]
        by_cases e3 : x = to
        · subst e3
          rw [wt, testBit_bxor, testBit_pw]
          simp [show ¬ k = y from fun e => e2 e.symm]
        · rw [wo x e1 e3]
  refine ⟨⟨fun i => ?_, hbit, h.inn, ?_, ?_, ?_⟩, i2, fun e => i3 e.symm⟩
  · by_cases e1 : i = k
    · subst e1; rw [wk]; exact bxor9 (h.lt _) (pw9 (by omega))
    · by_cases e2 : i = to
      · subst e2; rw [wt]; exact bxor9 (h.lt _) (pw9 (by omega))
      · rw [wo i e1 e2]; exact h.lt i
  · have := Sm_upd (n := n) (F := fun x => if g x then 0 else 1) (G := fun x => if updB g k true x then 0 else 1) (a := k) (d := 1) hk (fun x hx hne => by simp [updB, hne]) (by simp [hg, updB])
    have hc := h.cnt
    unfold lftN at hc ⊢
    omega
  · intro x y hx hy gx gy
    have hxk : x ≠ k := fun e => by subst e; simp [updB] at gx
    have hyk : y ≠ k := fun e => by subst e; simp [updB] at gy
    have gx' : g x = false := by simpa [updB, hxk] using gx
    have gy' : g y = false := by simpa [updB, hyk] using gy
    have main : ∀ z, Rch (fun a b => (w a).testBit b) x z → (z ≠ k → Rch (fun a b => (tieW w k to a).testBit b) x z) ∧ (z = k → Rch (fun a b => (tieW w k to a).testBit b) x to) := by
      intro z hz
      induction hz with
      | refl => exact ⟨fun _ => .refl _, fun e => absurd e hxk⟩
      | step h1 h2 ih =>
        rename_i u v
        have h2' : (w u).testBit v = true := h2
        constructor
        · intro hv
          by_cases hu : u = k
          · subst hu
            obtain rfl := (hkt v).1 h2'
            exact ih.2 rfl
          · refine .step (ih.1 hu) ?_
            show (tieW w k to u).testBit v = true
            rw [hbit]
            rw [h.bit] at h2'
            simpa [updB, hu, hv] using h2'
        · intro hv
          subst hv
          rw [hsym] at h2'
          obtain rfl := (hkt u).1 h2'
          exact ih.1 (fun e => i3 e.symm)
    exact (main y (h.conn x y hx hy gx' gy')).1 hyk
  · have hk9 : k < 9 := by omega
    have ht9 : to < 9 := by omega
    have c1 := bitsN_clear (w k) (h.lt k) to ht9 hto
    have c2 := bitsN_clear (w to) (h.lt to) k hk9 (by rw [hsym]; exact hto)
    have s1 := Sm_upd (n := n) (F := fun x => (bitsN (w x)).length) (G := fun x => (bitsN (upd w k (bxor (w k) (pw to)) x)).length) (a := k) (d := 1) hk (fun x hx hne => by simp [upd, hne]) (by simpa [upd] using c1)
    have s2 := Sm_upd (n := n) (F := fun x => (bitsN (upd w k (bxor (w k) (pw to)) x)).length) (G := fun x => (bitsN (tieW w k to x)).length) (a := to) (d := 1) i2 (fun x hx hne => by simp [tieW, upd, hne]) (by rw [wt]; simp only [hca]; exact c2)
    have := h.sum
    omega
/-- the list of a tree -/
def wrF (n : Nat) : Nat → (Nat → Nat) → List Nat
  | 0, _ => []
  | t + 1, w => match (List.range n).find? (fun k => leafB (w k)) with
    | some k => (bitsN (w k)).headD 0 :: wrF n t (tieW w k ((bitsN (w k)).headD 0))
    | none => []
theorem Inv.next {n : Nat} {l : List ZZ} {w : Nat → Nat} {g : Nat → Bool} {left : Nat} (hn : n ≤ 9) (h : Inv n l w g (left + 2)) : ∃ k to, k < n ∧ to < n ∧ to ≠ k ∧ g k = false ∧ (∀ j, j < k → leafB (w j) = false) ∧ bitsN (w k) = [to] ∧ Inv n l (tieW w k to) (updB g k true) (left + 1) ∧ ∀ t, wrF n (t + 1) w = to :: wrF n t (tieW w k to) := by
  obtain ⟨k0, a1, a2, a3⟩ := h.leaf (by omega)
  cases hf : (List.range n).find? (fun k => leafB (w k)) with
  | none =>
    have := List.find?_eq_none.1 hf k0 (List.mem_range.2 a1)
    exact absurd a3 (by simpa using this)
  | some k =>
    obtain ⟨b1, l1, l2, b2, b3⟩ := List.find?_eq_some_iff_append.1 hf
    have hk : k < n := List.mem_range.1 (by rw [b2]; simp)
    have hpre : ∀ j, j < k → leafB (w j) = false := fun j hj => by
      have hlen : l1.length = k := by
        have e1 : (List.range n)[l1.length]? = some k := by rw [b2]; simp
        rw [List.getElem?_range (by
          have : (List.range n).length = n := List.length_range
          rw [b2] at this; simp at this; omega)] at e1
        simpa using e1
      have : j ∈ l1 := by
        have e1 : (List.range n)[j]? = some j := by rw [List.getElem?_range (by omega)]
        rw [b2, List.getElem?_append_left (by omega)] at e1
        exact List.mem_of_getElem? e1
      simpa using b3 j this
    have hlen : (bitsN (w k)).length = 1 := by simpa [leafB] using b1
    obtain ⟨to, hto⟩ := List.length_eq_one_iff.1 hlen
    have hg : g k = false := by
      cases hgk : g k with
      | false => rfl
      | true =>
        have : to ∈ bitsN (w k) := by rw [hto]; exact List.mem_singleton.2 rfl
        rw [mem_bitsN (h.lt k), h.bit, hgk] at this
        simp at this
    obtain ⟨o1, o2, o3⟩ := h.off hn hk hg hto
    refine ⟨k, to, hk, o2, o3, hg, hpre, hto, o1, fun t => ?_⟩
    simp only [wrF, hf, hto, List.headD_cons]
end Go.Proofs.Ytoipleipokpnaaa.Code
end
section
namespace Go.Proofs.Ytoipleipokpnaaa.Code
open Go Go.Ab
variable {pure : Bool} {base bar : Nat} {H : Heap} {Q : AV → Heap → Prop}
theorem rowT_range {f : Nat → Nat → Bool} {a n : Nat} (ha : a < n) (hn : n ≤ 9) (hf : ∀ b, f a b = true → b < n) : rowT f a = ((List.range' (a + 1) (n - (a + 1))).filter fun b => f a b).map fun b : Nat => ((a : Int), (b : Int)) := by
  unfold rowT
  have e : List.range 9 = List.range (a + 1) ++ (List.range' (a + 1) (n - (a + 1)) ++ List.range' n (9 - n)) := by
    rw [List.range_eq_range', List.range_eq_range']
    have h1 := List.range'_append_1 (s := a + 1) (m := n - (a + 1)) (n := 9 - n)
    rw [show a + 1 + (n - (a + 1)) = n by omega] at h1
    rw [h1]
    have h2 := List.range'_append_1 (s := 0) (m := a + 1) (n := n - (a + 1) + (9 - n))
    rw [Nat.zero_add] at h2
    rw [h2]
    congr 1; omega
  rw [e, List.filter_append, List.filter_append]
  have e1 : (List.range (a + 1)).filter (fun b => f a b && decide (a < b)) = [] := by
    rw [List.filter_eq_nil_iff]
    intro b hb
    have := List.mem_range.1 hb
    simp; omega
  have e2 : (List.range' n (9 - n)).filter (fun b => f a b && decide (a < b)) = [] := by
    rw [List.filter_eq_nil_iff]
    intro b hb
    have := List.mem_range'_1.1 hb
    cases h : f a b with
    | true => have := hf b h; omega
    | false => simp
  have e3 : (List.range' (a + 1) (n - (a + 1))).filter (fun b => f a b && decide (a < b)) = (List.range' (a + 1) (n - (a + 1))).filter fun b => f a b := by
    apply List.filter_congr
    intro b hb
    have := (List.mem_range'_1.1 hb).1
    simp [show a < b by omega]
  rw [e1, e2, e3]; simp
theorem l66a {a n p : Nat} {G : Heap} {t2 q : AV} {l : List ZZ} (hq : isP q l) (hl : l.length < 1000) (hn : n ≤ 9) (hG : G[p]? = some (.row 0 [.int .i64 (n : Nat), q] 0 true)) (hbar : bar ≤ G.length) (hbase : base ≤ G.length) {R : PQ} :
    ∀ (k b : Nat), b + k = n → ∀ (acc : List ZZ) (v : AV) (H : Heap), TrG G n acc v H → acc.length + k < 1000 →
    (∀ v' H', TrG G n (acc ++ ((List.range' b k).filter fun b => tieB l a b).map fun b : Nat => ((a : Int), (b : Int))) v' H' →
      R (.exit 2) [(1, .ptr p 0 0), (2, t2), (3, .ptr G.length 0 0), (4, .int .i64 (a : Nat)), (5, .int .i64 (n : Nat)), (20, .bool false)] H') →
    Wp E base bar (.loop c66_l0) [(1, .ptr p 0 0), (2, t2), (3, .ptr G.length 0 0), (4, .int .i64 (a : Nat)), (5, .int .i64 (b : Nat))] H R := by
  intro k
  induction k with
  | zero =>
    intro b hb acc v H g hlen h
    obtain rfl : b = n := by omega
    simp only [List.range'_zero, List.filter_nil, List.map_nil, List.append_nil] at h
    have hbox := g.old hG
    rw [wp_round c66_l0.eq_1]
    simp [go_sem, aload, hbox]
    exact h v H g
  | succ k ih =>
    intro b hb acc v H g hlen h
    have hlt : b < n := by omega
    rw [List.range'_succ, List.filter_cons] at h
    have hget := g.get
    have hbox := g.old hG
    have gl := g.glen
    rw [wp_round c66_l0.eq_1]
    simp [go_sem, aload, hbox, hlt]
    refine k54 hq hl ?_
    rw [tieZ_nat]
    cases ht : tieB l a b with
    | true =>
      simp only [ht, if_true, List.map_cons] at h
      simp [go_sem, aload, hget, aop, fillA, setCells, AV.cells, chunks]
      refine g.add (p := ((a : Int), (b : Int))) hbar hbase (by omega) fun v' H' tc hg hv1 hv2 g' => ?_
      simp [go_sem, storeWp, astore, hv1, hv2, setCells, hg, hbar, hbase, i64_suc (show b < 1000000 by omega)]
      refine ih (b + 1) (by omega) _ v' _ g' (by simp; omega) fun v'' H'' g'' => h v'' H'' ?_
      simpa using g''
    | false =>
      simp only [ht, Bool.false_eq_true, if_false] at h
      simp [go_sem, i64_suc (show b < 1000000 by omega)]
      exact ih (b + 1) (by omega) acc v H g (by omega) h
theorem l66b {n p : Nat} {G : Heap} {t2 q : AV} {l : List ZZ} (hq : isP q l) (hl : l.length < 1000) (hn : n ≤ 9) (hv : ∀ x y, tieB l x y = true → y < n) (hG : G[p]? = some (.row 0 [.int .i64 (n : Nat), q] 0 true)) (hbar : bar ≤ G.length) (hbase : base ≤ G.length) {R : PQ} :
    ∀ (k a : Nat), a + k = n → ∀ (v : AV) (H : Heap), TrG G n (tidyF (tieB l) a) v H →
    (∀ v' H', TrG G n (tidyF (tieB l) n) v' H' → R (.exit 0) [(1, .ptr p 0 0), (2, t2), (3, .ptr G.length 0 0), (4, .int .i64 (n : Nat)), (12, .bool false)] H') →
    Wp E base bar (.loop c66_l1) [(1, .ptr p 0 0), (2, t2), (3, .ptr G.length 0 0), (4, .int .i64 (a : Nat))] H R := by
  intro k
  induction k with
  | zero =>
    intro a ha v H g h
    obtain rfl : a = n := by omega
    have hbox := g.old hG
    rw [wp_round c66_l1.eq_1]
    simp [go_sem, aload, hbox]
    exact h v H g
  | succ k ih =>
    intro a ha v H g h
    have hlt : a < n := by omega
    have hlen := tidyF_len (f := tieB l) (n := a)
    have hbox := g.old hG
    have i0 := i64_suc (show a < 1000000 by omega)
    rw [wp_round c66_l1.eq_1]
    simp [go_sem, aload, hbox, hlt, i0]
    refine l66a hq hl hn hG hbar hbase (n - (a + 1)) (a + 1) (by omega) _ v H g (by omega) fun v' H' g' => ?_
    simp [go_sem, i0]
    refine ih (a + 1) (by omega) v' H' ?_ h
    rw [tidyF_suc, rowT_range hlt hn fun b hb => hv a b hb]
    exact g'
theorem k66 {n : Nat} {q : AV} {l : List ZZ} (hq : isP q l) (hl : l.length < 1000) (hn : n ≤ 9) (hv : ∀ x y, tieB l x y = true → y < n) (hbar : bar ≤ H.length)
    (k : ∀ u, isT u n (tidyF (tieB l) n) → Q u H) : WpCall E pure base bar 66 [.agg [.int .i64 (n : Nat), q]] H Q := by
  rw [call66]
  have e0 : frzAll bar H [.agg [.int .i64 (n : Nat), q]] = some ([.agg [.int .i64 (n : Nat), q]], H) := by simp [frzAll, frz.frzs, frzsW, frz_agg, frz_int, hq.frz]
  rw [e0]
  have hb' : (if pure = true then H.length else bar) ≤ H.length := bar_if hbar
  have hb2 : (if pure = true then H.length else bar) ≤ H.length + 1 := by omega
  have hb3 : (if pure = true then H.length else bar) ≤ H.length + 2 := by omega
  simp [go_sem, WpFun, c66, hq.isTup, hq.cells, aload, fillA, setCells, storeWp, astore, AV.isTup, AV.cells, hb2, hb3]
  have tn : TrG (H ++ [.row 0 [.int .i64 (n : Nat), q] 0 true, .row 0 [.int .i64 0, .nils] 0 true]) n (tidyF (tieB l) 0) .nils (H ++ [.row 0 [.int .i64 (n : Nat), q] 0 true, .row 0 [.int .i64 0, .nils] 0 true, .row 0 [.int .i64 (n : Nat), .nils] 0 true]) := by
    have := TrG.nil (G := H ++ [.row 0 [.int .i64 (n : Nat), q] 0 true, .row 0 [.int .i64 0, .nils] 0 true]) (n := n)
    rw [List.append_assoc] at this
    exact this
  have l' := fun {R : PQ} hr => l66b (base := H.length) (bar := if pure = true then H.length else bar) (G := H ++ [.row 0 [.int .i64 (n : Nat), q] 0 true, .row 0 [.int .i64 0, .nils] 0 true]) (p := H.length) (t2 := .ptr (H.length + 1) 0 0) hq hl hn hv (by simp) (by simp; omega) (by simp) n 0 (by omega) .nils _ tn (R := R) hr
  simp only [List.length_append, List.length_cons, List.length_nil] at l'
  refine l' fun v' H' g => ?_
  have hg := g.get
  simp at hg
  simp [go_sem, aload, hg]
  obtain ⟨s1, s2⟩ := Grow.one g
  have hc : H'[H.length + 1]? = some (.row 0 [.int .i64 0, .nils] 0 true) := g.old (by simp)
  rw [storeWp_ptr (size := 2) hc rfl rfl (by omega) (by simp) hb2 (.inl (by omega))]
  have g2 := Grow.set g (i := H.length + 1) (b := .row 0 [.int .i64 (n : Nat), v'] 0 true) (by simp)
  have e2 : (H'.set (H.length + 1) (.row 0 [.int .i64 (n : Nat), v'] 0 true))[H.length + 1]? = some (.row 0 [.int .i64 (n : Nat), v'] 0 true) := Grow.get g2 (by simp [own_set])
  simp [go_sem, aload_ptr e2]
  obtain ⟨H2, f1, f2, f3, f4⟩ := Grow.frz g2 (d := 4) (bar := if pure = true then H.length else bar) (by decide) ⟨_, prs_length⟩ prs_plain (by simp; omega)
  have e3 : H2.take H.length = H := by
    have := congrArg (List.take H.length) f4
    rw [List.take_take] at this
    simp [own_set] at this
    exact this
  rw [show 4 + 3 = 7 from rfl] at f1
  simp only [f1]
  have hk := k _ ⟨_, isP.out, rfl⟩
  simp [go_sem, isP.out.top, e3]
  exact hk
/-! Tidy -/
theorem tieB_lt {n : Nat} {l : List ZZ} (hv : ∀ p ∈ l, okP n p) {x y : Nat} (h : tieB l x y = true) : x < n ∧ y < n ∧ x ≠ y := by
  rw [tieB_iff] at h
  rcases h with h1 | h1
  · obtain ⟨_, _, h2, h3, h4⟩ := hv _ h1
    simp only at h2 h3 h4; omega
  · obtain ⟨_, _, h2, h3, h4⟩ := hv _ h1
    simp only at h2 h3 h4; omega
theorem errL_ok {n : Nat} : ∀ {r b : List ZZ}, errL n b r = 0 → ∀ p ∈ r, okP n p
  | [], _, _, p, hp => by cases hp
  | q :: r, b, h, p, hp => by
    unfold errL at h
    split at h
    · rename_i h1; exact absurd h h1
    · rename_i h1
      split at h
      · cases h
      · rcases List.mem_cons.1 hp with rfl | hp
        · exact mayS_ok.1 (by simpa using h1)
        · exact errL_ok h p hp
theorem errT_ok {n : Int} {l : List ZZ} (h : errT n l = 0) : ∃ m : Nat, n = m ∧ 1 ≤ m ∧ m ≤ 9 ∧ (∀ p ∈ l, okP m p) ∧ errL m [] l = 0 ∧ l.length < m ∧ Conn m l := by
  unfold errT at h
  split at h
  · cases h
  · rename_i h1
    split at h
    · rename_i h2; exact absurd h h2
    · rename_i h2
      split at h
      · cases h
      · rename_i h3
        split at h
        · rename_i h4
          obtain ⟨m, rfl⟩ := Int.eq_ofNat_of_zero_le (show 0 ≤ n by omega)
          have h2' : errL (m : Int) [] l = 0 := by simpa using h2
          exact ⟨m, rfl, by omega, by omega, errL_ok h2', h2', by omega, by simpa using h4⟩
        · cases h
end Go.Proofs.Ytoipleipokpnaaa.Code
end
section
namespace Go.Proofs.Ytoipleipokpnaaa.Code
open Go Go.Ab
variable {pure : Bool} {base bar : Nat} {H : Heap} {Q : AV → Heap → Prop}
/-- a clone of a wood -/
theorem k76 {n : Nat} {ex : Bool} {w : Nat → Nat} (h1 : 1 ≤ n) (hn : n ≤ 9) (h : Q (.vec H.length 0 0 n 1) (H ++ [.row 0 (wc n w) 0 false])) : WpCall E pure base bar 76 [.lst 1 ex (wc n w)] H Q := by
  rw [call76]
  have e0 : frzAll bar H [.lst 1 ex (wc n w)] = some ([.lst 1 ex (wc n w)], H) := rfl
  rw [e0]
  have hne : wc n w ≠ [] := fun e => by have := congrArg List.length e; rw [wc_len] at this; simp at this; omega
  have eq_ln : ∀ {l : List AV} {H : Heap} {K : AV → Heap → List Nat → Prop}, eqWp false .nilS (some (.lst 1 ex l)) (some .nils) H K = K (.bool false) H [] := (rfl)
  have hfl : (wc n w).flatMap AV.cells = wc n w := by
    unfold wc
    rw [List.flatMap_map]
    induction (List.range n) with
    | nil => rfl
    | cons x r ih => rw [List.flatMap_cons, List.map_cons, ih]; rfl
  simp [go_sem, WpFun, c76, aop, fillA, chunks, eq_ln]
  have hz : frzsW (frz 8 (if pure = true then H.length else bar)) H (wc n w) = some (wc n w, H) := plains (d := 6) wc_plain
  simp [Opd.ev, go_sem, appWp, asrc, aappend, hfl, wc_len, hz, hne, show n * 2 ≤ 140737488355328 by omega]
  exact h
/-- a list that grows from an empty literal -/
def OG (H0 : Heap) (l : List Nat) (v : AV) (H : Heap) : Prop := (l = [] ∧ v = .lst 1 true [] ∧ H = H0) ∨ Grow 1 (nats l) H0 v H
theorem OG.add {H0 : Heap} {bytes x : Nat} {l : List Nat} {v : AV} {ex : Bool} {K : AV → Heap → List Nat → Prop} (g : OG H0 l v H) (hb : bar ≤ H0.length) (hbase : base ≤ H0.length) (hlen : (l.length + 1) * bytes ≤ 140737488355328)
    (h : ∀ v' H' tc, OG H0 (l ++ [x]) v' H' → K v' H' tc) : appWp base bar 1 bytes (some v) (some (.lst 1 ex [.int .i64 (x : Int)])) H K := by
  rcases g with ⟨rfl, rfl, rfl⟩ | g
  · have e : asrc H 1 (.lst 1 ex [.int .i64 (x : Int)]) = some [.int .i64 (x : Int)] := by rw [asrc_lst]; rfl
    simp at hlen
    simp [appWp, e, go_sem, aappend, AV.noVec.noVecs, AV.noVec, hlen]
    exact h _ _ _ (.inr (.inr ⟨0, 0, by simp [nats], by omega, by simp [nats], by simp [nats]⟩))
  · exact g.nat hb hbase hlen fun v' H' tc g' => h v' H' tc (.inr g')
theorem OG.get {H0 : Heap} {l : List Nat} {v : AV} {i : Nat} {b : Blk} (g : OG H0 l v H) (h : H0[i]? = some b) : H[i]? = some b := by
  rcases g with ⟨rfl, rfl, rfl⟩ | g
  · exact h
  · exact g.get h
theorem OG.set {H0 : Heap} {l : List Nat} {v : AV} {i : Nat} {b : Blk} (g : OG H0 l v H) (hi : i < H0.length) : OG (H0.set i b) l v (H.set i b) := by
  rcases g with ⟨rfl, rfl, rfl⟩ | g
  · exact .inl ⟨rfl, rfl, rfl⟩
  · exact .inr (g.set hi)
theorem OG.frz {H0 : Heap} {l : List Nat} {v : AV} {d : Nat} (g : OG H0 l v H) (hb : bar ≤ H0.length) : ∃ u H', frz (d + 3) bar H v = some (u, H') ∧ isL u l ∧ H'.take H0.length = H0 := by
  rcases g with ⟨rfl, rfl, rfl⟩ | g
  · exact ⟨_, _, rfl, .inr ⟨true, rfl⟩, by simp⟩
  · obtain ⟨H', h1, h2, h3, h4⟩ := g.frz (d := d) (bar := bar) (by omega) (Nat.one_dvd _) nats_plain hb
    exact ⟨_, _, h1, isL.out, h4⟩
theorem OG.len {H0 : Heap} {l : List Nat} {v : AV} (g : OG H0 l v H) : H0.length ≤ H.length := by
  rcases g with ⟨rfl, rfl, rfl⟩ | g
  · exact Nat.le_refl _
  · exact g.len
end Go.Proofs.Ytoipleipokpnaaa.Code
end
section
namespace Go.Proofs.Ytoipleipokpnaaa.Code
open Go Go.Ab
variable {pure : Bool} {base bar : Nat} {H : Heap} {Q : AV → Heap → Prop}
/-! a tree that was checked has the properties that writing needs -/
theorem Sm_zero : ∀ n, Sm n (fun _ => 0) = 0 := fun n => by induction n with
  | zero => rfl
  | succ n ih => simp only [Sm]; omega
theorem Sm_one : ∀ n, Sm n (fun _ => 1) = n := fun n => by induction n with
  | zero => rfl
  | succ n ih => simp only [Sm]; omega
theorem bitsN_set : ∀ s, s < 512 → ∀ b, b < 9 → s.testBit b = false → (bitsN (bxor s (pw b))).length = (bitsN s).length + 1 := by decide +kernel
theorem bitsN_zero : (bitsN 0).length = 0 := by decide
/-- masks and their number of bits -/
theorem wd_sum {n : Nat} (hn : n ≤ 9) : ∀ {r b : List ZZ} {w : Nat → Nat}, Wd n b w → errL n b r = 0 → Sm n (fun x => (bitsN (w x)).length) = 2 * b.length → ∃ w', Wd n (b ++ r) w' ∧ Sm n (fun x => (bitsN (w' x)).length) = 2 * (b ++ r).length
  | [], b, w, hw, _, hs => ⟨w, by rw [List.append_nil]; exact ⟨hw, hs⟩⟩
  | p :: r, b, w, hw, he, hs => by
    unfold errL at he
    split at he
    · rename_i h1; exact absurd he h1
    · rename_i h1
      split at he
      · cases he
      · rename_i h2
        have hok := mayS_ok.1 (show mayS n p = 0 by simpa using h1)
        obtain ⟨a, c⟩ := p
        obtain ⟨q1, q2, q3, q4, q5⟩ := hok
        simp only at q1 q2 q3 q4 q5
        obtain ⟨a, rfl⟩ := Int.eq_ofNat_of_zero_le q1
        obtain ⟨c, rfl⟩ := Int.eq_ofNat_of_zero_le q2
        have ha : a < n := by omega
        have hc : c < n := by omega
        have hac : a ≠ c := by omega
        have ht : tieB b a c = false := by simpa using h2
        have hw' := hw.tie hn ha hc hac ht
        have h1 : (w a).testBit c = false := by rw [hw.bit]; exact ht
        have h3 : (w c).testBit a = false := by rw [hw.bit, tieB_symm]; exact ht
        have hca : upd w a (bxor (w a) (pw c)) c = w c := by unfold upd; rw [if_neg (fun e => hac e.symm)]
        have c1 := bitsN_set (w a) (hw.lt a) c (by omega) h1
        have c2 := bitsN_set (w c) (hw.lt c) a (by omega) h3
        have s1 := Sm_upd (n := n) (G := fun x => (bitsN (w x)).length) (F := fun x => (bitsN (upd w a (bxor (w a) (pw c)) x)).length) (a := a) (d := 1) ha (fun x hx hne => by simp [upd, hne]) (by simpa [upd] using c1.symm)
        have s2 := Sm_upd (n := n) (G := fun x => (bitsN (upd w a (bxor (w a) (pw c)) x)).length) (F := fun x => (bitsN (tieW w a c x)).length) (a := c) (d := 1) hc (fun x hx hne => by simp [tieW, upd, hne]) (by
          have wt : tieW w a c c = bxor (w c) (pw a) := by unfold tieW; rw [hca]; unfold upd; rw [if_pos rfl]
          rw [wt]; simp only [hca]; exact c2.symm)
        obtain ⟨w', k1, k2⟩ := wd_sum hn (r := r) (b := b ++ [((a : Int), (c : Int))]) hw' he (by rw [List.length_append, List.length_singleton]; omega)
        refine ⟨w', ?_, ?_⟩
        · simpa using k1
        · simpa using k2
theorem wd_unique {n : Nat} {b : List ZZ} {w w' : Nat → Nat} (h : Wd n b w) (h' : Wd n b w') : w = w' := by
  funext x
  apply Nat.eq_of_testBit_eq
  intro i
  rw [h.bit, h'.bit]
theorem Rch.trans {f : Nat → Nat → Bool} {x y z : Nat} (h1 : Rch f x y) (h2 : Rch f y z) : Rch f x z := by
  induction h2 with
  | refl => exact h1
  | step _ hf ih => exact .step ih hf
theorem Rch.symm {f : Nat → Nat → Bool} (hs : ∀ a b, f a b = f b a) {x y : Nat} (h : Rch f x y) : Rch f y x := by
  induction h with
  | refl => exact .refl _
  | step _ hf ih => exact Rch.trans (.step (.refl _) (by rw [hs]; exact hf)) ih
theorem inv_start {n : Nat} {l : List ZZ} {w : Nat → Nat} (hn : n ≤ 9) (hw : Wd n l w) (he : errL n [] l = 0) (hl : l.length < n) (hc : Conn n l) : Inv n l w (fun _ => false) n := by
  obtain ⟨w', k1, k2⟩ := wd_sum hn (r := l) Wd.nil he (by simp [bitsN_zero, Sm_zero])
  rw [List.nil_append] at k1 k2
  obtain rfl := wd_unique hw k1
  refine ⟨hw.lt, fun x y => by rw [hw.bit]; simp, fun x y h => tieB_lt hw.val h, ?_, fun x y hx hy _ _ => ?_, by omega⟩
  · have := Sm_one n
    unfold lftN; simpa using this
  · have ef : (fun a b => (w a).testBit b) = tieB l := by funext a b; exact hw.bit a b
    rw [ef]
    exact Rch.trans (Rch.symm (fun a b => tieB_symm) (hc x hx)) (hc y hy)
theorem OG.one {H0 : Heap} {l : List Nat} {v : AV} (g : OG H0 l v H) : v.isTup = false := by
  rcases g with ⟨rfl, rfl, rfl⟩ | g
  · rfl
  · exact (Grow.one g).1
end Go.Proofs.Ytoipleipokpnaaa.Code
end
section
namespace Go.Proofs.Ytoipleipokpnaaa.Code
open Go Go.Ab
variable {pure : Bool} {base bar : Nat} {H : Heap} {Q : AV → Heap → Prop}
/-- a wood is frozen -/
theorem wood_frz {id ver n fz : Nat} {ex : Bool} {w : Nat → Nat} {d : Nat} (h : H[id]? = some (.row ver (wc n w) fz ex)) (hbar : bar ≤ id) : ∃ b, frz (d + 3) bar H (.vec id ver 0 n 1) = some (.lst 1 false (wc n w), H.set id b) := by
  refine ⟨.row ver (wc n w) (max fz (0 + n)) ex, ?_⟩
  have e := frz_vec (d := d + 2) (bar := bar) (H := H) (id := id) (ver := ver) (off := 0) (len := n) (sz := 1) (cs := wc n w) (fz := fz) (ex := ex) (xs := wc n w) (H' := H.set id (.row ver (wc n w) (max fz (0 + n)) ex)) h (by simp [wc_len]) hbar (by
    have e1 : ((wc n w).drop 0).take (n * 1) = wc n w := by
      rw [List.drop_zero, Nat.mul_one, List.take_of_length_le (by rw [wc_len]; exact Nat.le_refl _)]
    rw [e1, plains wc_plain, Nat.mul_one])
  have e2 : chunks 1 n (wc n w) = wc n w := by have := chunks_one (l := wc n w); rwa [wc_len] at this
  rw [e2] at e
  exact e
end Go.Proofs.Ytoipleipokpnaaa.Code
end
section
namespace Go.Proofs.Ytoipleipokpnaaa.Code
open Go Go.Ab
variable {pure : Bool} {base bar : Nat} {H : Heap} {Q : AV → Heap → Prop}
/-! the reference: a list that is written -/
def gc (n : Nat) (g : Nat → Bool) : List AV := (List.range n).map fun a => .bool (g a)
end Go.Proofs.Ytoipleipokpnaaa.Code
end
section
namespace Go.Proofs.Ytoipleipokpnaaa.Code
open Go Go.Ab
variable {pure : Bool} {base bar : Nat} {H : Heap} {Q : AV → Heap → Prop}
end Go.Proofs.Ytoipleipokpnaaa.Code
end
section
namespace Go.Proofs.Ytoipleipokpnaaa.Code
open Go Go.Ab
variable {pure : Bool} {base bar : Nat} {H : Heap} {Q : AV → Heap → Prop}
def firstF (n : Nat) (p : Nat → Bool) : Nat := ((List.range n).find? p).getD 0
theorem firstF_ok {n : Nat} {p : Nat → Bool} (h : ∃ k, k < n ∧ p k = true) : firstF n p < n ∧ p (firstF n p) = true ∧ ∀ j, j < firstF n p → p j = false := by
  obtain ⟨k0, a1, a2⟩ := h
  unfold firstF
  cases hf : (List.range n).find? p with
  | none =>
    have := List.find?_eq_none.1 hf k0 (List.mem_range.2 a1)
    exact absurd a2 this
  | some k =>
    obtain ⟨b1, l1, l2, b2, b3⟩ := List.find?_eq_some_iff_append.1 hf
    have hk : k < n := List.mem_range.1 (by rw [b2]; simp)
    refine ⟨hk, b1, fun j hj => ?_⟩
    simp only [Option.getD_some] at hj
    have hlen : l1.length = k := by
      have e1 : (List.range n)[l1.length]? = some k := by rw [b2]; simp
      rw [List.getElem?_range (by
        have : (List.range n).length = n := List.length_range
        rw [b2] at this; simp at this; omega)] at e1
      simpa using e1
    have : j ∈ l1 := by
      have e1 : (List.range n)[j]? = some j := by rw [List.getElem?_range (by omega)]
      rw [b2, List.getElem?_append_left (by omega)] at e1
      exact List.mem_of_getElem? e1
    simpa using b3 j this
def rdP (L : List Nat) (g : Nat → Bool) : Nat → Bool := fun k => !g k && !L.contains k
def lastF (n : Nat) (g : Nat → Bool) : ZZ := ((firstF n fun k => !g k : Nat), (firstF n fun k => !updB g (firstF n fun k => !g k) true k : Nat))
theorem lftN_clear {n k : Nat} {g : Nat → Bool} (hk : k < n) (hg : g k = false) : lftN n (updB g k true) + 1 = lftN n g :=
  Sm_upd (n := n) (F := fun x => if g x then 0 else 1) (G := fun x => if updB g k true x then 0 else 1) (a := k) (d := 1) hk (fun x hx hne => by simp [updB, hne]) (by simp [hg, updB])
theorem lftN_list {n : Nat} : ∀ {L : List Nat} {g : Nat → Bool}, (∀ k, k < n → g k = false → k ∈ L) → lftN n g ≤ L.length
  | [], g, h => by
    have : lftN n g = Sm n fun _ => 0 := Sm_congr fun x hx => by
      cases e : g x with
      | true => rfl
      | false => exact absurd (h x hx e) (by simp)
    rw [this, Sm_zero]; simp
  | x :: r, g, h => by
    have ih := lftN_list (n := n) (L := r) (g := updB g x true) fun k hk hg => by
      have hne : k ≠ x := fun e => by subst e; simp [updB] at hg
      rcases List.mem_cons.1 (h k hk (by simpa [updB, hne] using hg)) with e | e
      · exact absurd e hne
      · exact e
    rw [List.length_cons]
    by_cases hx : x < n ∧ g x = false
    · have := lftN_clear hx.1 hx.2; omega
    · have : lftN n (updB g x true) = lftN n g := Sm_congr fun y hy => by
        by_cases e : y = x
        · subst e
          have : g y = true := by
            cases e2 : g y with
            | true => rfl
            | false => exact absurd ⟨hy, e2⟩ hx
          simp [updB, this]
        · simp [updB, e]
      omega
structure RI (n : Nat) (L : List Nat) (g : Nat → Bool) (b : List ZZ) : Prop where
  lt : ∀ x ∈ L, x < n
  ng : ∀ x ∈ L, g x = false
  cnt : lftN n g = L.length + 2
  gone : ∀ p ∈ b, g p.1.toNat = true
  ok : ∀ p ∈ b, okP n p
theorem RI.free {n x y : Nat} {L : List Nat} {g : Nat → Bool} {b : List ZZ} (h : RI n L g b) (hx : g x = false) (hy : g y = false) : tieB b x y = false := by
  cases ht : tieB b x y with
  | false => rfl
  | true =>
    rw [tieB_iff] at ht
    rcases ht with e | e
    · have := h.gone _ e; simp only [Int.toNat_natCast] at this; rw [hx] at this; cases this
    · have := h.gone _ e; simp only [Int.toNat_natCast] at this; rw [hy] at this; cases this
theorem RI.step {n x : Nat} {r : List Nat} {g : Nat → Bool} {b : List ZZ} (h : RI n (x :: r) g b) : ∃ k, k = firstF n (rdP (x :: r) g) ∧ k < n ∧ x < n ∧ k ≠ x ∧ g k = false ∧ g x = false ∧ k ∉ x :: r ∧ (∀ j, j < k → g j = true ∨ j ∈ x :: r) ∧ tieB b k x = false ∧ RI n r (updB g k true) (b ++ [((k : Int), (x : Int))]) := by
  have hex : ∃ k, k < n ∧ rdP (x :: r) g k = true := by
    apply Classical.byContradiction
    intro hc
    have := lftN_list (n := n) (L := x :: r) (g := g) fun k hk hg => by
      apply Classical.byContradiction
      intro hm
      refine hc ⟨k, hk, ?_⟩
      unfold rdP
      simp only [hg, Bool.not_false, Bool.true_and, Bool.not_eq_true', List.contains_eq_mem, decide_eq_false_iff_not]
      exact hm
    have := h.cnt
    omega
  obtain ⟨a1, a2, a3⟩ := firstF_ok hex
  refine ⟨_, rfl, ?_⟩
  generalize firstF n (rdP (x :: r) g) = k at *
  have hx := h.lt x (List.mem_cons_self ..)
  have gx := h.ng x (List.mem_cons_self ..)
  unfold rdP at a2 a3
  simp only [Bool.and_eq_true, Bool.not_eq_true', List.contains_eq_mem, decide_eq_false_iff_not] at a2
  have hkx : k ≠ x := fun e => a2.2 (by rw [e]; exact List.mem_cons_self ..)
  refine ⟨a1, hx, hkx, a2.1, gx, a2.2, fun j hj => ?_, h.free a2.1 gx, fun y hy => h.lt y (List.mem_cons_of_mem _ hy), fun y hy => ?_, ?_, fun p hp => ?_, fun p hp => ?_⟩
  · have := a3 j hj
    cases e : g j with
    | true => exact .inl rfl
    | false =>
      right
      rw [e] at this
      have h2 : (x :: r).contains j = true := by
        cases h3 : (x :: r).contains j with
        | true => rfl
        | false => rw [h3] at this; cases this
      simpa using h2
  · have hne : y ≠ k := fun e => a2.2 (by rw [← e]; exact List.mem_cons_of_mem _ hy)
    simp [updB, hne, h.ng y (List.mem_cons_of_mem _ hy)]
  · have := lftN_clear a1 a2.1
    have := h.cnt
    rw [List.length_cons] at this
    omega
  · rcases List.mem_append.1 hp with hp | hp
    · have := h.gone p hp
      simp only [updB]; split
      · rfl
      · exact this
    · rw [List.mem_singleton] at hp; subst hp
      simp [updB]
  · rcases List.mem_append.1 hp with hp | hp
    · exact h.ok p hp
    · rw [List.mem_singleton] at hp; subst hp
      exact ⟨by simp, by simp, by simp only; omega, by simp only; omega, by simp only; omega⟩
theorem RI.last {n : Nat} {g : Nat → Bool} {b : List ZZ} (h : RI n [] g b) : ∃ a c : Nat, lastF n g = ((a : Int), (c : Int)) ∧ a < n ∧ c < n ∧ a ≠ c ∧ g a = false ∧ g c = false ∧ (∀ j, j < a → g j = true) ∧ (∀ j, j < c → updB g a true j = true) ∧ tieB b a c = false ∧ ∀ x, x < n → g x = false → x = a ∨ x = c := by
  have hc := h.cnt
  simp only [List.length_nil, Nat.zero_add] at hc
  have hex : ∃ k, k < n ∧ (!g k) = true := by
    apply Classical.byContradiction
    intro hcc
    have := lftN_list (n := n) (L := []) (g := g) fun k hk hg => absurd ⟨k, hk, by rw [hg]; rfl⟩ hcc
    simp at this; omega
  obtain ⟨a1, a2, a3⟩ := firstF_ok hex
  unfold lastF
  generalize (firstF n fun k => !g k) = a at *
  have ga : g a = false := by simpa using a2
  have hc2 := lftN_clear a1 ga
  have hex2 : ∃ k, k < n ∧ (!updB g a true k) = true := by
    apply Classical.byContradiction
    intro hcc
    have := lftN_list (n := n) (L := []) (g := updB g a true) fun k hk hg => absurd ⟨k, hk, by rw [hg]; rfl⟩ hcc
    simp at this; omega
  obtain ⟨c1, c2, c3⟩ := firstF_ok hex2
  generalize (firstF n fun k => !updB g a true k) = c at *
  have gc' : updB g a true c = false := by simpa using c2
  have hca : c ≠ a := fun e => by subst e; simp [updB] at gc'
  have gc : g c = false := by simpa [updB, hca] using gc'
  refine ⟨a, c, rfl, a1, c1, fun e => hca e.symm, ga, gc, fun j hj => by simpa using a3 j hj, fun j hj => by simpa using c3 j hj, h.free ga gc, fun x hx gx => ?_⟩
  apply Classical.byContradiction
  intro hne
  have h1 : x ≠ a := fun e => hne (.inl e)
  have h2 : x ≠ c := fun e => hne (.inr e)
  have d1 := lftN_clear c1 gc'
  have gx2 : updB (updB g a true) c true x = false := by simp [updB, h1, h2, gx]
  have d2 := lftN_clear hx gx2
  omega
end Go.Proofs.Ytoipleipokpnaaa.Code
end
section
namespace Go.Proofs.Ytoipleipokpnaaa.Code
open Go Go.Ab
variable {pure : Bool} {base bar : Nat} {H : Heap} {Q : AV → Heap → Prop}
end Go.Proofs.Ytoipleipokpnaaa.Code
end
section
namespace Go.Proofs.Ytoipleipokpnaaa.Code
open Go Go.Ab
variable {pure : Bool} {base bar : Nat} {H : Heap} {Q : AV → Heap → Prop}
theorem RI.start {n : Nat} {l : List Nat} (h2 : 2 ≤ n) (hlen : l.length = n - 2) (hv : ∀ x ∈ l, x < n) : RI n l (fun _ => false) [] := by
  refine ⟨hv, fun _ _ => rfl, ?_, fun p hp => (by cases hp), fun p hp => (by cases hp)⟩
  have : lftN n (fun _ => false) = n := by
    have := Sm_one n
    unfold lftN; simpa using this
  omega
end Go.Proofs.Ytoipleipokpnaaa.Code
end
section
namespace Go.Proofs.Ytoipleipokpnaaa.Code
open Go Go.Ab
variable {pure : Bool} {base bar : Nat} {H : Heap} {Q : AV → Heap → Prop} {K : AV → Heap → List Nat → Prop}
/-! lists of numbers with a sign -/
def ints (l : List Int) : List AV := l.map (.int .i64)
def isZ (v : AV) (l : List Int) : Prop := (v = .nils ∧ l = []) ∨ ∃ ex, v = .lst 1 ex (ints l)
def natsZ (l : List Nat) : List Int := l.map fun x : Nat => (x : Int)
theorem ints_nats {l : List Nat} : ints (natsZ l) = nats l := by simp [ints, natsZ, nats]
theorem isL.z {v : AV} {l : List Nat} (h : isL v l) : isZ v (natsZ l) := by
  rcases h with ⟨rfl, rfl⟩ | ⟨ex, rfl⟩
  · exact .inl ⟨rfl, rfl⟩
  · exact .inr ⟨ex, by rw [ints_nats]⟩
theorem isZ.l {v : AV} {l : List Nat} (h : isZ v (natsZ l)) : isL v l := by
  rcases h with ⟨rfl, h⟩ | ⟨ex, rfl⟩
  · cases l with
    | nil => exact .nil
    | cons a r => simp [natsZ] at h
  · rw [ints_nats]; exact .lst
theorem isZ.len {v : AV} {l : List Int} (h : isZ v l) : lenWp (some v) H K = K (.int .i64 (l.length : Int)) H [] := by
  rcases h with ⟨rfl, rfl⟩ | ⟨ex, rfl⟩
  · rfl
  · rw [lenWp_lst]; simp [ints]
theorem isZ.frz {v : AV} {l : List Int} (h : isZ v l) {d : Nat} : Go.Ab.frz (d + 1) bar H v = some (v, H) := by
  rcases h with ⟨rfl, rfl⟩ | ⟨ex, rfl⟩ <;> rfl
theorem isZ.top {v : AV} {l : List Int} (h : isZ v l) : v.top = 0 := by
  rcases h with ⟨rfl, rfl⟩ | ⟨ex, rfl⟩
  · rfl
  · show AV.top.tops _ = 0
    exact tops_ints
theorem isZ.ix {v : AV} {l : List Int} (h : isZ v l) {k : IntKind} {i : Nat} (hi : i < l.length) : ixaSWp 1 (some v) (some (.int k (i : Int))) H K = K (.fp (.int .i64 l[i])) H [] := by
  rcases h with ⟨rfl, rfl⟩ | ⟨ex, rfl⟩
  · simp at hi
  · rw [ixaSWp_lst]
    simp only [Int.toNat_natCast]
    rw [show (ints l)[i]? = some (.int .i64 l[i]) by simp [ints, List.getElem?_eq_getElem hi]]
    simp [valWp_some]
theorem isZ.isTup {v : AV} {l : List Int} (h : isZ v l) : v.isTup = false := by
  rcases h with ⟨rfl, rfl⟩ | ⟨ex, rfl⟩ <;> rfl
theorem isZ.cells {v : AV} {l : List Int} (h : isZ v l) : v.cells = [v] := by
  rcases h with ⟨rfl, rfl⟩ | ⟨ex, rfl⟩ <;> rfl
end Go.Proofs.Ytoipleipokpnaaa.Code
end
section
namespace Go.Proofs.Ytoipleipokpnaaa.Code
open Go Go.Ab
variable {pure : Bool} {base bar : Nat} {H : Heap} {Q : AV → Heap → Prop} {K : AV → Heap → List Nat → Prop}
end Go.Proofs.Ytoipleipokpnaaa.Code
end
section
namespace Go.Proofs.Ytoipleipokpnaaa.Code
open Go Go.Ab
variable {pure : Bool} {base bar : Nat} {H : Heap} {Q : AV → Heap → Prop} {K : AV → Heap → List Nat → Prop}
theorem take_same {X : Heap} (hl : H.length ≤ X.length) (h : ∀ j, j < H.length → X[j]? = H[j]?) : X.take H.length = H := by
  apply List.ext_getElem?
  intro j
  rcases Nat.lt_or_ge j H.length with hj | hj
  · rw [List.getElem?_take_of_lt hj]; exact h j hj
  · rw [List.getElem?_eq_none (by rw [List.length_take]; omega), List.getElem?_eq_none hj]
theorem Grow.own {sz : Nat} {cs : List AV} {H0 : Heap} {v : AV} (g : Grow sz cs H0 v H) : Own H0.length sz cs v H := by
  rcases g with ⟨rfl, rfl, rfl⟩ | ⟨ver, fz, h1, h2, rfl, rfl⟩
  · exact .inl ⟨rfl, rfl⟩
  · exact .inr ⟨_, ver, fz, h1, Nat.le_refl _, h2, rfl, by simp⟩
end Go.Proofs.Ytoipleipokpnaaa.Code
end
section
namespace Go.Proofs.Ytoipleipokpnaaa.Code
open Go Go.Ab
variable {pure : Bool} {base bar : Nat} {H : Heap} {Q : AV → Heap → Prop} {K : AV → Heap → List Nat → Prop}
/-! same, ties, trees, large -/
theorem k10 {n : Int} {q : AV} {l : List ZZ} (hq : isP q l) : WpCall E pure base bar 10 [.agg [.int .i64 n, q]] H Q ↔ Q (.bool (decide (60 < l.length))) H := by
  rw [call10]
  have e0 : frzAll bar H [.agg [.int .i64 n, q]] = some ([.agg [.int .i64 n, q]], H) := by simp [frzAll, frz.frzs, frzsW, frz_agg, frz_int, hq.frz]
  rw [e0]
  by_cases h : 60 < l.length
  · have h' : (60 : Int) < (l.length : Int) := by omega
    simp [go_sem, WpFun, c10, hq.isTup, hq.cells, aload, AV.isTup, AV.cells, hq.len, h, h']
  · have h' : ¬ (60 : Int) < (l.length : Int) := by omega
    simp [go_sem, WpFun, c10, hq.isTup, hq.cells, aload, AV.isTup, AV.cells, hq.len, h, h']
theorem l46 {u v : AV} {l : List ZZ} (hu : isP u l) (hv : isP v l) (hl : l.length < 1000) {R : PQ} :
    ∀ (k i : Nat), i + k = l.length → R (.exit 0) [(0, u), (1, v), (5, .int .i64 (l.length : Nat)), (14, .bool false)] H →
    Wp E base bar (.loop c46_l0) [(0, u), (1, v), (5, .int .i64 (i : Nat))] H R := by
  intro k
  have ulen := fun (H : Heap) (K : AV → Heap → List Nat → Prop) => hu.len (H := H) (K := K)
  induction k with
  | zero =>
    intro i hi h
    obtain rfl : i = l.length := by omega
    rw [wp_round c46_l0.eq_1]
    simp [go_sem, ulen]
    exact h
  | succ k ih =>
    intro i hi h
    have hlt : i < l.length := by omega
    have uix := fun (H : Heap) (K : AV → Heap → List Nat → Prop) (k : IntKind) => hu.ix (H := H) (K := K) (k := k) hlt
    have vix := fun (H : Heap) (K : AV → Heap → List Nat → Prop) (k : IntKind) => hv.ix (H := H) (K := K) (k := k) hlt
    have hnext := ih (i + 1) (by omega) h
    simp only [zc] at uix vix
    generalize l[i] = x at *
    rw [wp_round c46_l0.eq_1]
    simp [go_sem, ulen, hlt, uix, vix, aload, eqWp_flat2, i64_suc (show i < 1000000 by omega)]
    exact hnext
theorem k46 {u v : AV} {l : List ZZ} (hu : isP u l) (hv : isP v l) (hl : l.length < 1000) (h : Q (.bool true) H) : WpCall E pure base bar 46 [u, v] H Q := by
  rw [call46]
  have e0 : frzAll bar H [u, v] = some ([u, v], H) := by simp [frzAll, frz.frzs, frzsW, hu.frz, hv.frz]
  rw [e0]
  simp [go_sem, WpFun, c46, hu.len, hv.len]
  refine l46 hu hv hl l.length 0 (by omega) ?_
  simp [go_sem]
  exact h
theorem k26 {n : Int} {u v : AV} {l : List ZZ} (hu : isP u l) (hv : isP v l) (hl : l.length < 1000) (h : Q (.bool true) H) : WpCall E pure base bar 26 [.agg [.int .i64 n, u], .agg [.int .i64 n, v]] H Q := by
  rw [call26]
  have e0 : frzAll bar H [.agg [.int .i64 n, u], .agg [.int .i64 n, v]] = some ([.agg [.int .i64 n, u], .agg [.int .i64 n, v]], H) := by simp [frzAll, frz.frzs, frzsW, frz_agg, frz_int, hu.frz, hv.frz]
  rw [e0]
  simp [go_sem, WpFun, c26, hu.isTup, hu.cells, hv.isTup, hv.cells, aload, AV.isTup, AV.cells]
  refine k46 hu hv hl ?_
  simp [go_sem]
  exact h
end Go.Proofs.Ytoipleipokpnaaa.Code
end
section
namespace Go.Proofs.Ytoipleipokpnaaa.Code
open Go Go.Ab
variable {pure : Bool} {base bar : Nat} {H : Heap} {Q : AV → Heap → Prop} {K : AV → Heap → List Nat → Prop}
end Go.Proofs.Ytoipleipokpnaaa.Code
end
section
namespace Go.Proofs.Ytoipleipokpnaaa.Code
open Go Go.Ab
variable {pure : Bool} {base bar : Nat} {H : Heap} {Q : AV → Heap → Prop} {K : AV → Heap → List Nat → Prop}
end Go.Proofs.Ytoipleipokpnaaa.Code
end
section
namespace Go.Proofs.Ytoipleipokpnaaa.Code
open Go Go.Ab
variable {pure : Bool} {base bar : Nat} {H : Heap} {Q : AV → Heap → Prop} {K : AV → Heap → List Nat → Prop}
end Go.Proofs.Ytoipleipokpnaaa.Code
end
section
namespace Go.Proofs.Ytoipleipokpnaaa.Code
open Go Go.Ab
variable {pure : Bool} {base bar : Nat} {H : Heap} {Q : AV → Heap → Prop} {K : AV → Heap → List Nat → Prop}
end Go.Proofs.Ytoipleipokpnaaa.Code
end
section
namespace Go.Proofs.Ytoipleipokpnaaa.Code
open Go Go.Ab
variable {pure : Bool} {base bar : Nat} {H : Heap} {Q : AV → Heap → Prop} {K : AV → Heap → List Nat → Prop}
end Go.Proofs.Ytoipleipokpnaaa.Code
end
section
namespace Go.Proofs.Ytoipleipokpnaaa.Code
open Go Go.Ab
variable {pure : Bool} {base bar : Nat} {H : Heap} {Q : AV → Heap → Prop} {K : AV → Heap → List Nat → Prop}
def ch : Nat → Nat → Nat
  | _, 0 => 1
  | 0, _ + 1 => 0
  | n + 1, k + 1 => ch n k + ch n (k + 1)
end Go.Proofs.Ytoipleipokpnaaa.Code
end
section
namespace Go.Proofs.Ytoipleipokpnaaa.Code
open Go Go.Ab
variable {pure : Bool} {base bar : Nat} {H : Heap} {Q : AV → Heap → Prop} {K : AV → Heap → List Nat → Prop}
end Go.Proofs.Ytoipleipokpnaaa.Code
end
section
namespace Go.Proofs.Ytoipleipokpnaaa.Code
open Go Go.Ab
variable {pure : Bool} {base bar : Nat} {H : Heap} {Q : AV → Heap → Prop} {K : AV → Heap → List Nat → Prop}
end Go.Proofs.Ytoipleipokpnaaa.Code
end
section
namespace Go.Proofs.Ytoipleipokpnaaa.Code
open Go Go.Ab
variable {pure : Bool} {base bar : Nat} {H : Heap} {Q : AV → Heap → Prop} {K : AV → Heap → List Nat → Prop}
end Go.Proofs.Ytoipleipokpnaaa.Code
end
section
namespace Go.Proofs.Ytoipleipokpnaaa.Code
open Go Go.Ab
variable {pure : Bool} {base bar : Nat} {H : Heap} {Q : AV → Heap → Prop} {K : AV → Heap → List Nat → Prop}
/-! names: an order of the knots -/
def LO (k : Nat) (l : List Nat) (v : AV) (H : Heap) : Prop := (l = [] ∧ v = .lst 1 true []) ∨ Own k 1 (nats l) v H
theorem flat_nats : ∀ {b : List Nat}, (nats b).flatMap AV.cells = nats b
  | [] => rfl
  | x :: r => by
    have := flat_nats (b := r)
    simp only [nats, List.map_cons, List.flatMap_cons, AV.cells] at this ⊢; rw [this]; rfl
theorem noVecs_nats : ∀ {b : List Nat}, AV.noVec.noVecs (nats b) = true
  | [] => rfl
  | x :: r => by
    have := noVecs_nats (b := r)
    simp only [nats, List.map_cons] at this ⊢
    simp only [AV.noVec.noVecs, AV.noVec, this, Bool.and_self]
theorem nats_app {a b : List Nat} : nats (a ++ b) = nats a ++ nats b := by simp [nats]
theorem nats_len {a : List Nat} : (nats a).length = a.length := by simp [nats]
theorem LO.app {k : Nat} {l news : List Nat} {v y : AV} (g : LO k l v H) (hk : k ≤ H.length) (hs : asrc H 1 y = some (nats news)) (hb : bar ≤ k) (hbase : base ≤ k) (hlen : l.length + news.length < 1000)
    (h : ∀ v' H' tc, LO k (l ++ news) v' H' → Kept1 v v' H H' tc → K v' H' tc) : appWp base bar 1 8 (some v) (some y) H K := by
  have e : appWp base bar 1 8 (some v) (some y) H K = appWp base bar 1 8 (some v) (some (.lst 1 true (nats news))) H K := by
    simp only [appWp, hs, asrc_lst, flat_nats]
  rw [e]
  rcases g with ⟨rfl, rfl⟩ | g
  · have hz : frzAll bar H (nats news) = some (nats news, H) := by
      have := plains (d := 6) (bar := bar) (H := H) (nats_plain (l := news))
      simpa [frzAll, frz.frzs] using this
    have hdv : ¬ ((1 : Nat) = 0 ∨ ¬ 1 ∣ (nats news).length) := by simp
    by_cases he : news = []
    · subst he
      refine cast ?_ (h (.lst 1 true []) H [] (.inl ⟨rfl, rfl⟩) ⟨Nat.le_refl _, fun _ _ _ => rfl, fun i hi => (by cases hi), fun j hj => (by cases hj)⟩)
      simp [appWp, asrc, hz, aappend, nats, frzAll, frz.frzs, frzsW, AV.noVec.noVecs]
    · have hne : (nats news).isEmpty = false := by cases news with
        | nil => exact absurd rfl he
        | cons a r => rfl
      refine cast ?_ (h (.vec H.length 0 0 news.length 1) (H ++ [.row 0 (nats news) 0 false]) [] (.inr (.inr ⟨H.length, 0, 0, (fun e => by rw [List.nil_append] at e; rw [e] at hne; cases hne), hk, Nat.zero_le _, (by rw [List.nil_append, nats_len, Nat.div_one]), (by simp)⟩)) ⟨(by simp), (fun j hj _ => List.getElem?_append_left hj), (fun i hi => by cases hi), (fun j hj => by cases hj; exact .inr rfl)⟩)
      simp [appWp, asrc_lst, flat_nats, hz, aappend, hne, nats_len, noVecs_nats, show news.length * 8 ≤ 140737488355328 by simp at hlen; omega]
  · refine g.app hk (by decide) (Nat.one_dvd _) (by rw [flat_nats]; exact nats_plain) (by rw [flat_nats]; exact noVecs_nats) (Nat.one_dvd _) hb hbase (by rw [flat_nats, List.length_append, nats_len, nats_len, Nat.div_one]; omega) fun v' H' tc g' kp => h v' H' tc (.inr ?_) kp
    rw [flat_nats, ← nats_app] at g'
    exact g'
end Go.Proofs.Ytoipleipokpnaaa.Code
end
section
namespace Go.Proofs.Ytoipleipokpnaaa.Code
open Go Go.Ab
variable {pure : Bool} {base bar : Nat} {H : Heap} {Q : AV → Heap → Prop} {K : AV → Heap → List Nat → Prop}
theorem LO.lt {k j : Nat} {l : List Nat} {v : AV} (g : LO k l v H) (h : idOf v = some j) : k ≤ j ∧ j < H.length := by
  rcases g with ⟨rfl, rfl⟩ | g
  · cases h
  · exact g.lt h
theorem LO.mono {k : Nat} {l : List Nat} {v : AV} {H' : Heap} (g : LO k l v H) (h : ∀ j, idOf v = some j → H'[j]? = H[j]?) : LO k l v H' := by
  rcases g with g | g
  · exact .inl g
  · exact .inr (g.mono h)
end Go.Proofs.Ytoipleipokpnaaa.Code
end
section
namespace Go.Proofs.Ytoipleipokpnaaa.Code
open Go Go.Ab
variable {pure : Bool} {base bar : Nat} {H : Heap} {Q : AV → Heap → Prop} {K : AV → Heap → List Nat → Prop}
theorem LO.frz {k d : Nat} {l : List Nat} {v : AV} (g : LO k l v H) (hb : bar ≤ k) : ∃ u H', frz (d + 3) bar H v = some (u, H') ∧ isL u l ∧ H'.length = H.length ∧ ∀ j, j < k → H'[j]? = H[j]? := by
  rcases g with ⟨rfl, rfl⟩ | g
  · exact ⟨_, _, rfl, .inr ⟨true, rfl⟩, rfl, fun _ _ => rfl⟩
  · obtain ⟨H', f1, f2, f3, f4⟩ := g.frz (d := d) (bar := bar) (by decide) (Nat.one_dvd _) nats_plain hb
    exact ⟨_, H', f1, isL.out, f3, fun j hj => f4 j fun e => by have := (g.lt e).1; omega⟩
end Go.Proofs.Ytoipleipokpnaaa.Code
end
section
namespace Go.Proofs.Ytoipleipokpnaaa.Code
open Go Go.Ab
variable {pure : Bool} {base bar : Nat} {H : Heap} {Q : AV → Heap → Prop} {K : AV → Heap → List Nat → Prop}
end Go.Proofs.Ytoipleipokpnaaa.Code
end
section
namespace Go.Proofs.Ytoipleipokpnaaa.Code
open Go Go.Ab
end Go.Proofs.Ytoipleipokpnaaa.Code
end
section
namespace Go.Proofs.Ytoipleipokpnaaa.Code
/-! distances in a tree -/
structure TM (V : Nat → Prop) (f : Nat → Nat → Bool) (D : Nat → Nat → Nat) : Prop where
  symF : ∀ {a b}, f a b = true → f b a = true
  inV : ∀ {a b}, f a b = true → V a ∧ V b ∧ a ≠ b
  zero : ∀ {x}, V x → D x x = 0
  eq : ∀ {x y}, V x → V y → D x y = 0 → x = y
  sym : ∀ {x y}, V x → V y → D x y = D y x
  step : ∀ {x a b}, V x → f a b = true → D x b = D x a + 1 ∨ D x a = D x b + 1
  par : ∀ {x y}, V x → V y → x ≠ y → ∃ b, f y b = true ∧ D x b + 1 = D x y ∧ ∀ c, f y c = true → D x c + 1 = D x y → c = b
theorem TM.single {V : Nat → Prop} {v : Nat} {f : Nat → Nat → Bool} (hV : ∀ x, V x ↔ x = v) (hf : ∀ a b, f a b = false) : TM V f (fun _ _ => 0) where
  symF := fun h => by rw [hf] at h; cases h
  inV := fun h => by rw [hf] at h; cases h
  zero := fun _ => rfl
  eq := fun hx hy _ => by rw [(hV _).1 hx, (hV _).1 hy]
  sym := fun _ _ => rfl
  step := fun _ h => by rw [hf] at h; cases h
  par := fun hx hy hne => absurd (by rw [(hV _).1 hx, (hV _).1 hy]) hne
/-- a leaf more -/
def dLeaf (D : Nat → Nat → Nat) (k to x y : Nat) : Nat := if x = k then (if y = k then 0 else D to y + 1) else if y = k then D x to + 1 else D x y
theorem dLeaf_kk {D : Nat → Nat → Nat} {k to : Nat} : dLeaf D k to k k = 0 := by simp [dLeaf]
theorem dLeaf_ky {D : Nat → Nat → Nat} {k to y : Nat} (h : y ≠ k) : dLeaf D k to k y = D to y + 1 := by simp [dLeaf, h]
theorem dLeaf_xk {D : Nat → Nat → Nat} {k to x : Nat} (h : x ≠ k) : dLeaf D k to x k = D x to + 1 := by simp [dLeaf, h]
theorem dLeaf_xy {D : Nat → Nat → Nat} {k to x y : Nat} (h : x ≠ k) (h' : y ≠ k) : dLeaf D k to x y = D x y := by simp [dLeaf, h, h']
theorem TM.leaf {V V' : Nat → Prop} {k to : Nat} {f f' : Nat → Nat → Bool} {D : Nat → Nat → Nat} (h : TM V f D) (hto : V to) (hk : ¬ V k) (hV : ∀ x, V' x ↔ V x ∨ x = k)
    (hf : ∀ a b, f' a b = true ↔ f a b = true ∨ (a = k ∧ b = to) ∨ (a = to ∧ b = k)) : TM V' f' (dLeaf D k to) := by
  have htk : to ≠ k := fun e => hk (e ▸ hto)
  have hne : ∀ {x}, V x → x ≠ k := fun hx e => hk (e ▸ hx)
  refine ⟨fun {a b} h1 => ?_, fun {a b} h1 => ?_, fun {x} hx => ?_, fun {x y} hx hy e => ?_, fun {x y} hx hy => ?_, fun {x a b} hx h1 => ?_, fun {x y} hx hy hxy => ?_⟩
  · rw [hf] at h1 ⊢
    rcases h1 with h1 | ⟨h1, h2⟩ | ⟨h1, h2⟩
    · exact .inl (h.symF h1)
    · exact .inr (.inr ⟨h2, h1⟩)
    · exact .inr (.inl ⟨h2, h1⟩)
  · rw [hf] at h1
    rw [hV, hV]
    rcases h1 with h1 | ⟨h1, h2⟩ | ⟨h1, h2⟩
    · obtain ⟨p, q, r⟩ := h.inV h1; exact ⟨.inl p, .inl q, r⟩
    · subst h1; subst h2; exact ⟨.inr rfl, .inl hto, fun e => htk e.symm⟩
    · subst h1; subst h2; exact ⟨.inl hto, .inr rfl, htk⟩
  · rcases (hV _).1 hx with hx | rfl
    · rw [dLeaf_xy (hne hx) (hne hx)]; exact h.zero hx
    · exact dLeaf_kk
  · rcases (hV _).1 hx with hx | rfl <;> rcases (hV _).1 hy with hy | rfl
    · rw [dLeaf_xy (hne hx) (hne hy)] at e; exact h.eq hx hy e
    · rw [dLeaf_xk (hne hx)] at e; omega
    · rw [dLeaf_ky (hne hy)] at e; omega
    · rfl
  · rcases (hV _).1 hx with hx | rfl <;> rcases (hV _).1 hy with hy | rfl
    · rw [dLeaf_xy (hne hx) (hne hy), dLeaf_xy (hne hy) (hne hx)]; exact h.sym hx hy
    · rw [dLeaf_xk (hne hx), dLeaf_ky (hne hx), h.sym hx hto]
    · rw [dLeaf_ky (hne hy), dLeaf_xk (hne hy), h.sym hto hy]
    · rfl
  · rw [hf] at h1
    rcases (hV _).1 hx with hx | rfl
    · rcases h1 with h1 | ⟨rfl, rfl⟩ | ⟨rfl, rfl⟩
      · obtain ⟨p, q, r⟩ := h.inV h1
        rw [dLeaf_xy (hne hx) (hne p), dLeaf_xy (hne hx) (hne q)]; exact h.step hx h1
      · rw [dLeaf_xy (hne hx) htk, dLeaf_xk (hne hx)]; exact .inr rfl
      · rw [dLeaf_xy (hne hx) htk, dLeaf_xk (hne hx)]; exact .inl rfl
    · rcases h1 with h1 | ⟨rfl, rfl⟩ | ⟨rfl, rfl⟩
      · obtain ⟨p, q, r⟩ := h.inV h1
        rw [dLeaf_ky (hne p), dLeaf_ky (hne q)]
        have := h.step hto h1
        omega
      · rw [dLeaf_kk, dLeaf_ky htk, h.zero hto]; exact .inl rfl
      · rw [dLeaf_kk, dLeaf_ky htk, h.zero hto]; exact .inr rfl
  · rcases (hV _).1 hx with hx | rfl <;> rcases (hV _).1 hy with hy | rfl
    · obtain ⟨b, b1, b2, b3⟩ := h.par hx hy hxy
      have hb := (h.inV b1).2.1
      refine ⟨b, (hf _ _).2 (.inl b1), ?_, fun c c1 c2 => ?_⟩
      · rw [dLeaf_xy (hne hx) (hne hb), dLeaf_xy (hne hx) (hne hy)]; exact b2
      · rw [hf] at c1
        rcases c1 with c1 | ⟨c1, _⟩ | ⟨rfl, rfl⟩
        · rw [dLeaf_xy (hne hx) (hne (h.inV c1).2.1), dLeaf_xy (hne hx) (hne hy)] at c2
          exact b3 c c1 c2
        · exact absurd c1 (hne hy)
        · rw [dLeaf_xk (hne hx), dLeaf_xy (hne hx) htk] at c2; omega
    · refine ⟨to, (hf _ _).2 (.inr (.inl ⟨rfl, rfl⟩)), ?_, fun c c1 c2 => ?_⟩
      · rw [dLeaf_xy (hne hx) htk, dLeaf_xk (hne hx)]
      · rw [hf] at c1
        rcases c1 with c1 | ⟨_, c1⟩ | ⟨c1, _⟩
        · exact absurd (h.inV c1).1 hk
        · exact c1
        · exact absurd c1.symm htk
    · by_cases hyt : y = to
      · subst hyt
        refine ⟨x, (hf _ _).2 (.inr (.inr ⟨rfl, rfl⟩)), ?_, fun c c1 c2 => ?_⟩
        · rw [dLeaf_kk, dLeaf_ky htk, h.zero hto]
        · rw [dLeaf_ky htk, h.zero hto] at c2
          apply Decidable.byContradiction
          intro e
          rw [dLeaf_ky e] at c2; omega
      · obtain ⟨b, b1, b2, b3⟩ := h.par hto hy (fun e => hyt e.symm)
        have hb := (h.inV b1).2.1
        refine ⟨b, (hf _ _).2 (.inl b1), ?_, fun c c1 c2 => ?_⟩
        · rw [dLeaf_ky (hne hb), dLeaf_ky (hne hy)]; omega
        · rw [hf] at c1
          rcases c1 with c1 | ⟨c1, _⟩ | ⟨c1, _⟩
          · rw [dLeaf_ky (hne (h.inV c1).2.1), dLeaf_ky (hne hy)] at c2
            exact b3 c c1 (by omega)
          · exact absurd c1 (hne hy)
          · exact absurd c1 hyt
    · exact absurd rfl hxy
theorem TM.tri {V : Nat → Prop} {f : Nat → Nat → Bool} {D : Nat → Nat → Nat} (h : TM V f D) {x y : Nat} (hx : V x) (hy : V y) : ∀ (m : Nat) {z : Nat}, V z → D y z = m → D x z ≤ D x y + m
  | 0, z, hz, e => by rw [h.eq hy hz e]; omega
  | m + 1, z, hz, e => by
    have hne : y ≠ z := fun e' => by subst e'; rw [h.zero hy] at e; omega
    obtain ⟨b, b1, b2, _⟩ := h.par hy hz hne
    have := TM.tri h hx hy m (h.inV b1).2.1 (by omega)
    have := h.step hx b1
    omega
theorem TM.adj {V : Nat → Prop} {f : Nat → Nat → Bool} {D : Nat → Nat → Nat} (h : TM V f D) {x y : Nat} (hxy : f x y = true) : D x y = 1 := by
  obtain ⟨p, q, r⟩ := h.inV hxy
  have := h.step p hxy
  rw [h.zero p] at this; omega
end Go.Proofs.Ytoipleipokpnaaa.Code
end
section
namespace Go.Proofs.Ytoipleipokpnaaa.Code
open Go Go.Ab
theorem Sm_pos {F : Nat → Nat} : ∀ {n : Nat}, 0 < Sm n F → ∃ x, x < n ∧ F x ≠ 0
  | 0, h => by simp [Sm] at h
  | n + 1, h => by
    simp only [Sm] at h
    by_cases e : F n = 0
    · obtain ⟨x, h1, h2⟩ := Sm_pos (F := F) (n := n) (by omega)
      exact ⟨x, by omega, h2⟩
    · exact ⟨n, by omega, e⟩
theorem Sm_none {F : Nat → Nat} {n : Nat} (h : Sm n F = 0) : ∀ x, x < n → F x = 0 := by
  induction n with
  | zero => intro x hx; omega
  | succ n ih =>
    simp only [Sm] at h
    intro x hx
    by_cases e : x = n
    · subst e; omega
    · exact ih (by omega) x (by omega)
theorem Inv.tm {n : Nat} {l : List ZZ} (hn : n ≤ 9) : ∀ (left : Nat) {w : Nat → Nat} {g : Nat → Bool}, Inv n l w g (left + 1) →
    ∃ D, TM (fun x => x < n ∧ g x = false) (fun a b => (w a).testBit b) D ∧ ∀ x y, x < n → g x = false → y < n → g y = false → D x y ≤ left
  | 0, w, g, h => by
    have hs := h.sum
    have hz := Sm_none (n := n) (F := fun x => (bitsN (w x)).length) (by omega)
    have hno : ∀ x b, x < n → (w x).testBit b = false := fun x b hx => by
      cases e : (w x).testBit b with
      | false => rfl
      | true =>
        have h1 := (mem_bitsN (h.lt x)).2 e
        have h2 := hz x hx
        rw [List.length_eq_zero_iff] at h2
        rw [h2] at h1; cases h1
    have hno' : ∀ x b, (w x).testBit b = false := fun x b => by
      cases e : (w x).testBit b with
      | false => rfl
      | true =>
        have e' := e
        rw [h.bit] at e'
        simp only [Bool.and_eq_true] at e'
        rw [hno x b (h.inn _ _ e'.1.1).1] at e; cases e
    have hc := h.cnt
    obtain ⟨v, v1, v2⟩ := Sm_pos (n := n) (F := fun x => if g x then 0 else 1) (by unfold lftN at hc; omega)
    have gv : g v = false := by
      cases e : g v with
      | false => rfl
      | true => simp [e] at v2
    refine ⟨_, TM.single (v := v) (fun x => ⟨fun ⟨x1, x2⟩ => ?_, fun e => by subst e; exact ⟨v1, gv⟩⟩) hno', fun x y _ _ _ _ => Nat.le_refl 0⟩
    have := h.conn v x v1 x1 gv x2
    cases this with
    | refl => rfl
    | step a b => have b' : (w _).testBit x = true := b
                  rw [hno'] at b'; cases b'
  | left + 1, w, g, h => by
    obtain ⟨k, to, hk, hto, hne, gk, _, hb, hI, _⟩ := h.next hn
    obtain ⟨D, hD, hle⟩ := Inv.tm hn left hI
    have hkt : ∀ y, (w k).testBit y = true ↔ y = to := fun y => by rw [← mem_bitsN (h.lt k), hb, List.mem_singleton]
    have gto : g to = false := by
      have := (hkt to).2 rfl
      rw [h.bit] at this
      simp only [Bool.and_eq_true, Bool.not_eq_true'] at this
      exact this.2
    have g' : ∀ x, updB g k true x = false ↔ g x = false ∧ x ≠ k := fun x => by
      unfold updB
      split
      · rename_i e; subst e; simp
      · rename_i e; simp [e]
    refine ⟨dLeaf D k to, TM.leaf hD ⟨hto, (g' _).2 ⟨gto, hne⟩⟩ (fun e => ((g' _).1 e.2).2 rfl) (fun x => ?_) (fun a b => ?_), fun x y x1 x2 y1 y2 => ?_⟩
    · simp only [g']
      constructor
      · rintro ⟨x1, x2⟩
        by_cases e : x = k
        · exact .inr e
        · exact .inl ⟨x1, x2, e⟩
      · rintro (⟨x1, x2, x3⟩ | rfl)
        · exact ⟨x1, x2⟩
        · exact ⟨hk, gk⟩
    · rw [h.bit, hI.bit]
      have ht : tieB l k to = true ∧ g to = false := by
        have := (hkt to).2 rfl
        rw [h.bit] at this
        simp only [Bool.and_eq_true, Bool.not_eq_true'] at this
        exact ⟨this.1.1, this.2⟩
      have hka : ∀ y, (tieB l k y && !g k && !g y) = true ↔ y = to := fun y => by rw [← h.bit]; exact hkt y
      by_cases ea : a = k
      · subst ea
        rw [hka]
        simp [updB, show ¬ a = to from fun e => hne e.symm]
      · by_cases eb : b = k
        · subst eb
          rw [tieB_symm, show (tieB l b a && !g a && !g b) = (tieB l b a && !g b && !g a) from by cases tieB l b a <;> cases g a <;> cases g b <;> rfl, hka]
          simp [updB, ea]
        · simp [updB, ea, eb]
    · by_cases ex : x = k
      · by_cases ey : y = k
        · subst ex; subst ey; rw [dLeaf_kk]; omega
        · subst ex; rw [dLeaf_ky ey]
          have := hle to y hto ((g' _).2 ⟨gto, hne⟩) y1 ((g' _).2 ⟨y2, ey⟩); omega
      · by_cases ey : y = k
        · subst ey; rw [dLeaf_xk ex]
          have := hle x to x1 ((g' _).2 ⟨x2, ex⟩) hto ((g' _).2 ⟨gto, hne⟩); omega
        · rw [dLeaf_xy ex ey]
          have := hle x y x1 ((g' _).2 ⟨x2, ex⟩) y1 ((g' _).2 ⟨y2, ey⟩); omega
theorem TM.congr {V V' : Nat → Prop} {f f' : Nat → Nat → Bool} {D : Nat → Nat → Nat} (h : TM V f D) (hV : ∀ x, V x ↔ V' x) (hf : ∀ a b, f a b = f' a b) : TM V' f' D := by
  obtain rfl : V = V' := funext fun x => propext (hV x)
  obtain rfl : f = f' := funext fun a => funext fun b => hf a b
  exact h
/-- a tree that was checked has distances -/
theorem tree_tm {n : Nat} {l : List ZZ} {w : Nat → Nat} (hn : n ≤ 9) (h1 : 1 ≤ n) (hw : Wd n l w) (he : errL n [] l = 0) (hl : l.length < n) (hc : Conn n l) :
    ∃ D, TM (fun x => x < n) (tieB l) D ∧ ∀ x y, x < n → y < n → D x y < n := by
  obtain ⟨n, rfl⟩ : ∃ m, n = m + 1 := ⟨n - 1, by omega⟩
  obtain ⟨D, d1, d2⟩ := (inv_start hn hw he hl hc).tm hn
  exact ⟨D, d1.congr (fun x => by simp) (fun a b => hw.bit a b), fun x y hx hy => by have := d2 x y hx rfl hy rfl; omega⟩
/-! the distances of the reference are these -/
structure RelI (n k : Nat) (f : Nat → Nat → Bool) (D : Nat → Nat → Nat) (E : Nat → Int) : Prop where
  val : ∀ x, x < n → 0 ≤ E x → E x = (D k x : Int)
  up : ∀ x b, x < n → 0 ≤ E x → f x b = true → D k b + 1 = D k x → 0 ≤ E b
theorem RelI.relD {n k a b : Nat} {f : Nat → Nat → Bool} {D : Nat → Nat → Nat} {E : Nat → Int} (hT : TM (fun x => x < n) f D) (hk : k < n) (hab : f a b = true) (h : RelI n k f D E) : RelI n k f D (relD E a b) := by
  by_cases hc : 0 ≤ E a ∧ E b < 0
  · have e : Code.relD E a b = updZ E b (E a + 1) := by unfold Code.relD; rw [if_pos hc]
    have keep : ∀ x, 0 ≤ E x → 0 ≤ Code.relD E a b x := fun x hx => by rw [relD_keep hx]; exact hx
    obtain ⟨ha, hb, hne⟩ := hT.inV hab
    have va := h.val a ha hc.1
    have hst : D k b = D k a + 1 := by
      rcases hT.step hk hab with e1 | e1
      · exact e1
      · have := h.up a b ha hc.1 hab e1.symm
        omega
    have hkb : k ≠ b := fun e' => by rw [← e', hT.zero hk] at hst; omega
    refine ⟨fun x hx h0 => ?_, fun x c hx h0 hxc hd => ?_⟩
    · by_cases ex : x = b
      · subst ex
        rw [e]; unfold updZ; rw [if_pos rfl, va, hst]; rfl
      · have e2 : Code.relD E a b x = E x := by rw [e]; unfold updZ; rw [if_neg ex]
        rw [e2] at h0 ⊢; exact h.val x hx h0
    · by_cases ex : x = b
      · subst ex
        obtain ⟨p, p1, p2, p3⟩ := hT.par hk hx hkb
        have q1 := p3 c hxc hd
        have q2 := p3 a (hT.symF hab) hst.symm
        rw [q1, ← q2]
        exact keep a hc.1
      · have e2 : Code.relD E a b x = E x := by rw [e]; unfold updZ; rw [if_neg ex]
        rw [e2] at h0
        exact keep c (h.up x c hx h0 hxc hd)
  · have e : Code.relD E a b = E := by unfold Code.relD; rw [if_neg hc]
    rw [e]; exact h
theorem RelI.relL {n k : Nat} {l0 : List ZZ} {D : Nat → Nat → Nat} (hT : TM (fun x => x < n) (tieB l0) D) (hk : k < n) : ∀ {l : List ZZ} {E : Nat → Int}, (∀ p ∈ l, tieB l0 p.1.toNat p.2.toNat = true) → RelI n k (tieB l0) D E → RelI n k (tieB l0) D (relL E l)
  | [], _, _, h => h
  | p :: r, E, hp, h => by
    have e : Code.relL E (p :: r) = Code.relL (relP E p) r := rfl
    rw [e]
    have h1 := hp p (List.mem_cons_self ..)
    exact RelI.relL hT hk (fun q hq => hp q (List.mem_cons_of_mem _ hq)) ((h.relD hT hk h1).relD hT hk (by rw [tieB_symm]; exact h1))
end Go.Proofs.Ytoipleipokpnaaa.Code
end
section
namespace Go.Proofs.Ytoipleipokpnaaa.Code
/-! leaves are taken off round by round: what is left last is the middle -/
def mx : Nat → (Nat → Nat) → Nat
  | 0, _ => 0
  | n + 1, F => max (mx n F) (F n)
theorem le_mx {F : Nat → Nat} {x : Nat} : ∀ {n : Nat}, x < n → F x ≤ mx n F
  | 0, h => by omega
  | n + 1, h => by
    simp only [mx]
    by_cases e : x = n
    · subst e; omega
    · have := le_mx (F := F) (x := x) (n := n) (by omega); omega
theorem mx_le {F : Nat → Nat} {m : Nat} : ∀ {n : Nat}, (∀ x, x < n → F x ≤ m) → mx n F ≤ m
  | 0, _ => Nat.zero_le _
  | n + 1, h => by
    simp only [mx]
    have := mx_le (F := F) (m := m) (n := n) fun x hx => h x (by omega)
    have := h n (by omega)
    omega
theorem mx_get {F : Nat → Nat} : ∀ {n : Nat}, mx n F = 0 ∨ ∃ x, x < n ∧ F x = mx n F
  | 0 => .inl rfl
  | n + 1 => by
    simp only [mx]
    rcases Nat.le_total (mx n F) (F n) with h | h
    · rw [Nat.max_eq_right h]; exact .inr ⟨n, by omega, rfl⟩
    · rw [Nat.max_eq_left h]
      rcases mx_get (F := F) (n := n) with e | ⟨x, h1, h2⟩
      · exact .inl e
      · exact .inr ⟨x, by omega, h2⟩
def ecc (n : Nat) (S : Nat → Bool) (D : Nat → Nat → Nat) (x : Nat) : Nat := mx n fun y => if S y then D x y else 0
def rs (f : Nat → Nat → Bool) (S : Nat → Bool) (a b : Nat) : Bool := f a b && S a && S b
theorem rs_iff {f : Nat → Nat → Bool} {S : Nat → Bool} {a b : Nat} : rs f S a b = true ↔ f a b = true ∧ S a = true ∧ S b = true := by
  simp [rs, and_assoc]
abbrev TS (f : Nat → Nat → Bool) (S : Nat → Bool) (D : Nat → Nat → Nat) : Prop := TM (fun x => S x = true) (rs f S) D
def LfS (f : Nat → Nat → Bool) (S : Nat → Bool) (x : Nat) : Prop := ∀ a b, rs f S x a = true → rs f S x b = true → a = b
def Off (f : Nat → Nat → Bool) (S S' : Nat → Bool) : Prop := ∀ x, S' x = true ↔ S x = true ∧ ¬ LfS f S x
section
variable {n : Nat} {f : Nat → Nat → Bool} {S S' : Nat → Bool} {D : Nat → Nat → Nat}
theorem ecc_le (hS : ∀ x, S x = true → x < n) {x y : Nat} (hy : S y = true) : D x y ≤ ecc n S D x := by
  have := le_mx (F := fun y => if S y then D x y else 0) (hS y hy)
  simp only [hy, if_true] at this
  exact this
theorem ecc_get (h : TS f S D) {x : Nat} (hx : S x = true) : ∃ y, S y = true ∧ D x y = ecc n S D x := by
  rcases mx_get (n := n) (F := fun y => if S y then D x y else 0) with e | ⟨y, _, e⟩
  · exact ⟨x, hx, by rw [h.zero hx]; exact e.symm⟩
  · by_cases hy : S y = true
    · simp only [hy, if_true] at e
      exact ⟨y, hy, e⟩
    · simp only [hy] at e
      exact ⟨x, hx, by rw [h.zero hx]; exact e⟩
/-- a knot between two is no leaf -/
theorem TS.mid (h : TS f S D) {x y b : Nat} (hx : S x = true) (hb : rs f S y b = true) (hd : D x b + 1 = D x y) (hne : b ≠ x) : ¬ LfS f S b := fun hl => by
  have hbS := (rs_iff.1 hb).2.2
  obtain ⟨c, c1, c2, _⟩ := h.par hx hbS (fun e => hne e.symm)
  have := hl c y c1 (h.symF hb)
  subst this
  omega
theorem TS.nonleaf (h : TS f S D) {x : Nat} (hx : S x = true) (hn : ¬ LfS f S x) : ∃ a b, a ≠ b ∧ rs f S x a = true ∧ rs f S x b = true := by
  apply Classical.byContradiction
  intro hc
  exact hn fun a b ha hb => Classical.byContradiction fun e => hc ⟨a, b, e, ha, hb⟩
/-- from a knot that is no leaf a way goes on -/
theorem TS.on (h : TS f S D) {x y : Nat} (hx : S x = true) (hy : S y = true) (hn : ¬ LfS f S y) : ∃ z, rs f S y z = true ∧ D x z = D x y + 1 := by
  obtain ⟨a, b, hab, ha, hb⟩ := h.nonleaf hy hn
  rcases h.step hx ha with e | e
  · exact ⟨a, ha, e⟩
  · rcases h.step hx hb with e2 | e2
    · exact ⟨b, hb, e2⟩
    · by_cases hxy : x = y
      · subst hxy; rw [h.zero hx] at e; omega
      · obtain ⟨p, _, _, p3⟩ := h.par hx hy hxy
        exact absurd ((p3 a ha e.symm).trans (p3 b hb e2.symm).symm) hab
theorem TS.round (h : TS f S D) (ho : Off f S S') : TS f S' D := by
  refine ⟨fun {a b} h1 => ?_, fun {a b} h1 => ?_, fun {x} hx => h.zero ((ho x).1 hx).1, fun {x y} hx hy e => h.eq ((ho x).1 hx).1 ((ho y).1 hy).1 e, fun {x y} hx hy => h.sym ((ho x).1 hx).1 ((ho y).1 hy).1, fun {x a b} hx h1 => ?_, fun {x y} hx hy hxy => ?_⟩
  · obtain ⟨h1, h2, h3⟩ := rs_iff.1 h1
    have := h.symF (rs_iff.2 ⟨h1, ((ho _).1 h2).1, ((ho _).1 h3).1⟩)
    exact rs_iff.2 ⟨(rs_iff.1 this).1, h3, h2⟩
  · obtain ⟨h1, h2, h3⟩ := rs_iff.1 h1
    have := h.inV (rs_iff.2 ⟨h1, ((ho _).1 h2).1, ((ho _).1 h3).1⟩)
    exact ⟨h2, h3, this.2.2⟩
  · obtain ⟨h1, h2, h3⟩ := rs_iff.1 h1
    exact h.step ((ho _).1 hx).1 (rs_iff.2 ⟨h1, ((ho _).1 h2).1, ((ho _).1 h3).1⟩)
  · obtain ⟨b, b1, b2, b3⟩ := h.par ((ho _).1 hx).1 ((ho _).1 hy).1 hxy
    obtain ⟨q1, q2, q3⟩ := rs_iff.1 b1
    refine ⟨b, rs_iff.2 ⟨q1, hy, ?_⟩, b2, fun c c1 c2 => ?_⟩
    · by_cases e : b = x
      · subst e; exact hx
      · exact (ho _).2 ⟨q3, h.mid ((ho _).1 hx).1 b1 b2 e⟩
    · obtain ⟨r1, r2, r3⟩ := rs_iff.1 c1
      exact b3 c (rs_iff.2 ⟨r1, ((ho _).1 r2).1, ((ho _).1 r3).1⟩) c2
theorem TS.ecc_suc (h : TS f S D) (hS : ∀ x, S x = true → x < n) (ho : Off f S S') {x : Nat} (hx : S' x = true) : ecc n S D x = ecc n S' D x + 1 := by
  have hS' : ∀ x, S' x = true → x < n := fun x hx => hS x ((ho x).1 hx).1
  obtain ⟨x1, x2⟩ := (ho x).1 hx
  apply Nat.le_antisymm
  · obtain ⟨z, z1, z2⟩ := ecc_get (n := n) h x1
    by_cases e : x = z
    · subst e; rw [h.zero x1] at z2; omega
    · obtain ⟨b, b1, b2, _⟩ := h.par x1 z1 e
      have hb : S' b = true := by
        by_cases e : b = x
        · subst e; exact hx
        · exact (ho _).2 ⟨(rs_iff.1 b1).2.2, h.mid x1 b1 b2 e⟩
      have := ecc_le (n := n) (D := D) hS' (x := x) hb
      omega
  · obtain ⟨y, y1, y2⟩ := ecc_get (n := n) (h.round ho) hx
    obtain ⟨z, z1, z2⟩ := h.on x1 ((ho y).1 y1).1 ((ho y).1 y1).2
    have := ecc_le (n := n) (D := D) hS (x := x) (rs_iff.1 z1).2.2
    omega
/-- a leaf's way begins with its only tie -/
theorem TS.leafD (h : TS f S D) {x b : Nat} (hl : LfS f S x) (hb : rs f S x b = true) {y : Nat} (hy : S y = true) (hne : y ≠ x) : D x y = D b y + 1 := by
  have hx := (rs_iff.1 hb).2.1
  have hbS := (rs_iff.1 hb).2.2
  obtain ⟨c, c1, c2, _⟩ := h.par hy hx hne
  have := hl c b c1 hb
  subst this
  rw [h.sym hx hy, h.sym hbS hy]; omega
theorem TS.leaf_far (h : TS f S D) (hS : ∀ x, S x = true → x < n) (ho : Off f S S') {v x : Nat} (hv : S' v = true) (hx : S x = true) (hl : LfS f S x) : ∃ b, S b = true ∧ ecc n S D b < ecc n S D x := by
  obtain ⟨v1, v2⟩ := (ho v).1 hv
  have hvx : v ≠ x := fun e => v2 (e ▸ hl)
  obtain ⟨b, b1, b2, _⟩ := h.par v1 hx hvx
  have hb := (rs_iff.1 b1).2.2
  refine ⟨b, hb, ?_⟩
  obtain ⟨y, y1, y2⟩ := ecc_get (n := n) h hb
  by_cases e : y = x
  · subst e
    have e1 : D b y = 1 := by rw [h.sym hb hx]; exact h.adj b1
    by_cases e2 : v = b
    · subst e2
      obtain ⟨p, q, hpq, hp, hq⟩ := h.nonleaf v1 v2
      have : ∃ z, z ≠ y ∧ rs f S v z = true := by
        by_cases e3 : p = y
        · exact ⟨q, fun e => hpq (e3.trans e.symm), hq⟩
        · exact ⟨p, e3, hp⟩
      obtain ⟨z, z1, z2⟩ := this
      have hz := (rs_iff.1 z2).2.2
      have e4 := h.leafD hl b1 hz z1
      have := ecc_le (n := n) (D := D) hS (x := y) hz
      rw [h.adj z2] at e4
      omega
    · have e4 := h.leafD hl b1 v1 hvx
      have : D b v ≠ 0 := fun e => e2 (h.eq hb v1 e).symm
      have := ecc_le (n := n) (D := D) hS (x := y) v1
      omega
  · have e4 := h.leafD hl b1 y1 e
    have := ecc_le (n := n) (D := D) hS (x := x) y1
    omega
def IsCen (n : Nat) (S : Nat → Bool) (D : Nat → Nat → Nat) (x : Nat) : Prop := S x = true ∧ ∀ y, S y = true → ecc n S D x ≤ ecc n S D y
theorem TS.cen_round (h : TS f S D) (hS : ∀ x, S x = true → x < n) (ho : Off f S S') {v : Nat} (hv : S' v = true) {x : Nat} : IsCen n S D x ↔ IsCen n S' D x := by
  constructor
  · rintro ⟨x1, x2⟩
    have hx' : S' x = true := by
      refine (ho x).2 ⟨x1, fun hl => ?_⟩
      obtain ⟨b, b1, b2⟩ := h.leaf_far hS ho hv x1 hl
      have := x2 b b1; omega
    refine ⟨hx', fun y hy => ?_⟩
    have := x2 y ((ho y).1 hy).1
    rw [h.ecc_suc hS ho hx', h.ecc_suc hS ho hy] at this
    omega
  · rintro ⟨x1, x2⟩
    refine ⟨((ho x).1 x1).1, fun y hy => ?_⟩
    obtain ⟨m, hm⟩ : ∃ m, ecc n S D y = m := ⟨_, rfl⟩
    induction m using Nat.strongRecOn generalizing y with
    | ind m ih =>
      by_cases hl : LfS f S y
      · obtain ⟨b, b1, b2⟩ := h.leaf_far hS ho hv hy hl
        have := ih _ (by omega) b b1 rfl
        omega
      · have hy' : S' y = true := (ho y).2 ⟨hy, hl⟩
        have := x2 y hy'
        rw [h.ecc_suc hS ho x1, h.ecc_suc hS ho hy']
        omega
theorem TS.near (h : TS f S D) (hall : ∀ x, S x = true → LfS f S x) {x y : Nat} (hx : S x = true) (hy : S y = true) : D x y ≤ 1 := by
  by_cases e : x = y
  · subst e; rw [h.zero hx]; omega
  · obtain ⟨b, b1, b2, _⟩ := h.par hx hy e
    by_cases e2 : b = x
    · subst e2; rw [h.zero hx] at b2; omega
    · exact absurd (hall b (rs_iff.1 b1).2.2) (h.mid hx b1 b2 e2)
theorem TS.cen_all (h : TS f S D) (hS : ∀ x, S x = true → x < n) (hall : ∀ x, S x = true → LfS f S x) {x : Nat} (hx : S x = true) : IsCen n S D x := by
  refine ⟨hx, fun y hy => ?_⟩
  obtain ⟨z, z1, z2⟩ := ecc_get (n := n) h hx
  have h1 := h.near hall hx z1
  by_cases e : x = y
  · subst e; omega
  · have := ecc_le (n := n) (D := D) hS (x := y) hx
    have : D y x ≠ 0 := fun e' => e (h.eq hy hx e').symm
    omega
/-- there is a leaf -/
theorem TS.has_leaf (h : TS f S D) (hS : ∀ x, S x = true → x < n) {x : Nat} (hx : S x = true) {y : Nat} (hy : S y = true) (hf : D x y = ecc n S D x) : LfS f S y := by
  apply Classical.byContradiction
  intro hl
  obtain ⟨z, z1, z2⟩ := h.on hx hy hl
  have := ecc_le (n := n) (D := D) hS (x := x) (rs_iff.1 z1).2.2
  omega
end
end Go.Proofs.Ytoipleipokpnaaa.Code
end
section
namespace Go.Proofs.Ytoipleipokpnaaa.Code
open Go Go.Ab
/-! the distances of all knots by Floyd and Warshall -/
abbrev Mat := Nat → Nat → Nat
def up2 (M : Mat) (a b v : Nat) : Mat := fun x y => if x = a ∧ y = b then v else M x y
def fwS (k a : Nat) (M : Mat) (b : Nat) : Mat := up2 M a b (min (M a b) (M a k + M k b))
def fwA (n k : Nat) (M : Mat) (a : Nat) : Mat := (List.range n).foldl (fwS k a) M
def fwK (n : Nat) (M : Mat) (k : Nat) : Mat := (List.range n).foldl (fwA n k) M
def Mids (n m : Nat) (D : Mat) (a b : Nat) : Prop := ∀ z, z < n → z ≠ a → z ≠ b → D a z + D z b = D a b → z < m
structure FJ (n m : Nat) (D M : Mat) : Prop where
  ge : ∀ a b, a < n → b < n → D a b ≤ M a b
  eq : ∀ a b, a < n → b < n → Mids n m D a b → M a b = D a b
section
variable {n : Nat} {f : Nat → Nat → Bool} {D M : Mat}
theorem FJ.step {m a b : Nat} (hT : TM (fun x => x < n) f D) (hm : m < n) (ha : a < n) (hb : b < n) (h : FJ n m D M) : FJ n m D (fwS m a M b) := by
  have t := hT.tri ha hm (D m b) hb rfl
  have h1 := h.ge a m ha hm
  have h2 := h.ge m b hm hb
  have h3 := h.ge a b ha hb
  refine ⟨fun x y hx hy => ?_, fun x y hx hy hM => ?_⟩
  · unfold fwS up2
    split
    · rename_i e; obtain ⟨rfl, rfl⟩ := e; omega
    · exact h.ge x y hx hy
  · have := h.eq x y hx hy hM
    unfold fwS up2
    split
    · rename_i e; obtain ⟨rfl, rfl⟩ := e; omega
    · exact this
theorem FJ.hit {m a b : Nat} (hT : TM (fun x => x < n) f D) (hm : m < n) (ha : a < n) (hb : b < n) (h : FJ n m D M) (hM : Mids n (m + 1) D a b) : fwS m a M b a b = D a b := by
  have t := hT.tri ha hm (D m b) hb rfl
  have h1 := h.ge a m ha hm
  have h2 := h.ge m b hm hb
  have h3 := h.ge a b ha hb
  have e0 : fwS m a M b a b = min (M a b) (M a m + M m b) := by unfold fwS up2; rw [if_pos ⟨rfl, rfl⟩]
  rw [e0]
  by_cases hc : m ≠ a ∧ m ≠ b ∧ D a m + D m b = D a b
  · obtain ⟨c1, c2, c3⟩ := hc
    have e1 : M a m = D a m := h.eq a m ha hm fun z hz z1 z2 z3 => by
      have t2 := hT.tri hz hm (D m b) hb rfl
      have t3 := hT.tri ha hz (D z b) hb rfl
      have hzb : z ≠ b := fun e => by
        subst e
        have := hT.sym hb hm
        have : D m z = 0 := by omega
        exact c2 (hT.eq hm hb this)
      have := hM z hz z1 hzb (by omega)
      omega
    have e2 : M m b = D m b := h.eq m b hm hb fun z hz z1 z2 z3 => by
      have t2 := hT.tri ha hm (D m z) hz rfl
      have t3 := hT.tri ha hz (D z b) hb rfl
      have hza : z ≠ a := fun e => by
        subst e
        have := hT.sym hz hm
        have : D z m = 0 := by omega
        exact c1 (hT.eq hz hm this).symm
      have := hM z hz hza z2 (by omega)
      omega
    omega
  · have : M a b = D a b := h.eq a b ha hb fun z hz z1 z2 z3 => by
      have := hM z hz z1 z2 z3
      have : z ≠ m := fun e => by subst e; exact hc ⟨z1, z2, z3⟩
      omega
    omega
theorem fwS_le {m a b x y : Nat} : fwS m a M b x y ≤ M x y := by
  unfold fwS up2
  split
  · rename_i e; obtain ⟨rfl, rfl⟩ := e; omega
  · exact Nat.le_refl _
theorem FJ.row {m a : Nat} (hT : TM (fun x => x < n) f D) (hm : m < n) (ha : a < n) (G : Nat → Nat → Prop) (hG : ∀ x y, G x y → x < n ∧ y < n ∧ Mids n (m + 1) D x y) :
    ∀ (L : List Nat) (M : Mat), (∀ b ∈ L, b < n) → FJ n m D M → (∀ x y, G x y → M x y = D x y) → FJ n m D (L.foldl (fwS m a) M) ∧ (∀ x y, G x y → L.foldl (fwS m a) M x y = D x y) ∧ ∀ b ∈ L, Mids n (m + 1) D a b → L.foldl (fwS m a) M a b = D a b
  | [], M, _, h, hg => ⟨h, hg, fun b hb => by cases hb⟩
  | b :: L, M, hL, h, hg => by
    have hb := hL b (List.mem_cons_self ..)
    have h' := h.step hT hm ha hb
    have hit := fun hM => h.hit hT hm ha hb hM
    have hg' : ∀ x y, G x y ∨ (x = a ∧ y = b ∧ Mids n (m + 1) D a b) → fwS m a M b x y = D x y := fun x y hxy => by
      rcases hxy with e | ⟨rfl, rfl, e⟩
      · obtain ⟨g1, g2, _⟩ := hG x y e
        have q1 := h'.ge x y g1 g2
        have q2 := fwS_le (m := m) (a := a) (b := b) (M := M) (x := x) (y := y)
        have q3 := hg x y e
        omega
      · exact hit e
    obtain ⟨r1, r2, r3⟩ := FJ.row hT hm ha (fun x y => G x y ∨ (x = a ∧ y = b ∧ Mids n (m + 1) D a b)) (fun x y hxy => by
      rcases hxy with e | ⟨rfl, rfl, e⟩
      · exact hG x y e
      · exact ⟨ha, hb, e⟩) L _ (fun c hc => hL c (List.mem_cons_of_mem _ hc)) h' hg'
    refine ⟨r1, fun x y e => r2 x y (.inl e), fun c hc hM => ?_⟩
    rcases List.mem_cons.1 hc with rfl | hc
    · exact r2 a c (.inr ⟨rfl, rfl, hM⟩)
    · exact r3 c hc hM
theorem FJ.rows {m : Nat} (hT : TM (fun x => x < n) f D) (hm : m < n) (G : Nat → Nat → Prop) (hG : ∀ x y, G x y → x < n ∧ y < n ∧ Mids n (m + 1) D x y) :
    ∀ (L : List Nat) (M : Mat), (∀ b ∈ L, b < n) → FJ n m D M → (∀ x y, G x y → M x y = D x y) → FJ n m D (L.foldl (fwA n m) M) ∧ (∀ x y, G x y → L.foldl (fwA n m) M x y = D x y) ∧ ∀ a ∈ L, ∀ b, b < n → Mids n (m + 1) D a b → L.foldl (fwA n m) M a b = D a b
  | [], M, _, h, hg => ⟨h, hg, fun b hb => by cases hb⟩
  | a :: L, M, hL, h, hg => by
    have ha := hL a (List.mem_cons_self ..)
    obtain ⟨p1, p2, p3⟩ := FJ.row hT hm ha G hG (List.range n) M (fun b hb => List.mem_range.1 hb) h hg
    obtain ⟨r1, r2, r3⟩ := FJ.rows hT hm (fun x y => G x y ∨ (x = a ∧ y < n ∧ Mids n (m + 1) D a y)) (fun x y hxy => by
      rcases hxy with e | ⟨rfl, e1, e⟩
      · exact hG x y e
      · exact ⟨ha, e1, e⟩) L (fwA n m M a) (fun c hc => hL c (List.mem_cons_of_mem _ hc)) p1 (fun x y hxy => by
      rcases hxy with e | ⟨rfl, e1, e⟩
      · exact p2 x y e
      · exact p3 y (List.mem_range.2 e1) e)
    refine ⟨r1, fun x y e => r2 x y (.inl e), fun c hc b hb hM => ?_⟩
    rcases List.mem_cons.1 hc with rfl | hc
    · exact r2 c b (.inr ⟨rfl, hb, hM⟩)
    · exact r3 c hc b hb hM
theorem FJ.round {m : Nat} (hT : TM (fun x => x < n) f D) (hm : m < n) (h : FJ n m D M) : FJ n (m + 1) D (fwK n M m) := by
  obtain ⟨r1, _, r3⟩ := FJ.rows hT hm (fun _ _ => False) (fun _ _ e => e.elim) (List.range n) M (fun b hb => List.mem_range.1 hb) h (fun _ _ e => e.elim)
  exact ⟨r1.ge, fun a b ha hb hM => r3 a (List.mem_range.2 ha) b hb hM⟩
theorem FJ.all (hT : TM (fun x => x < n) f D) (h : FJ n 0 D M) : ∀ m, m ≤ n → FJ n m D ((List.range m).foldl (fwK n) M)
  | 0, _ => h
  | m + 1, hm => by
    rw [List.range_succ, List.foldl_append]
    exact FJ.round hT (by omega) (FJ.all hT h m (by omega))
end
/-! what is below 100 can be reached -/
def FR (n : Nat) (f : Nat → Nat → Bool) (M : Mat) : Prop := ∀ a b, M a b < 100 → Rch f a b
theorem FR.step {n k a b : Nat} {f : Nat → Nat → Bool} {M : Mat} (h : FR n f M) : FR n f (fwS k a M b) := fun x y e => by
  unfold fwS up2 at e
  split at e
  · rename_i e'; obtain ⟨rfl, rfl⟩ := e'
    rcases Nat.lt_or_ge (M x y) 100 with h1 | h1
    · exact h x y h1
    · exact Rch.trans (h x k (by omega)) (h k y (by omega))
  · exact h x y e
theorem FR.foldl {n : Nat} {f : Nat → Nat → Bool} {g : Mat → Nat → Mat} (hg : ∀ M c, FR n f M → FR n f (g M c)) : ∀ (L : List Nat) (M : Mat), FR n f M → FR n f (L.foldl g M)
  | [], _, h => h
  | c :: L, M, h => FR.foldl hg L _ (hg M c h)
end Go.Proofs.Ytoipleipokpnaaa.Code
end
section
namespace Go.Proofs.Ytoipleipokpnaaa.Code
open Go Go.Ab
end Go.Proofs.Ytoipleipokpnaaa.Code
end
section
namespace Go.Proofs.Ytoipleipokpnaaa.Code
open Go Go.Ab
theorem Inv.gone {n : Nat} {l : List ZZ} {w : Nat → Nat} {g : Nat → Bool} {left : Nat} (h : Inv n l w g left) {x : Nat} (hg : g x = true) : (bitsN (w x)).length = 0 := by
  rw [List.length_eq_zero_iff]
  apply List.eq_nil_iff_forall_not_mem.2
  intro y hy
  rw [mem_bitsN (h.lt x), h.bit, hg] at hy
  simp at hy
end Go.Proofs.Ytoipleipokpnaaa.Code
end
section
namespace Go.Proofs.Ytoipleipokpnaaa.Code
open Go Go.Ab Go.RowKit Go.ChangeShapes Go.WideShapes
variable {H : Type} {enc : TypeId × Value → H} {P : Program} {W W' : World} {base : Nat} {spare : Nat → Bool} {held : Bool}
theorem flat_vr {n : Nat} {t : TypeId} {v : Value} {d : DataW H} {ps : List MemPlace} {r : Reach} {b0 : Nat}
    (hu : (∃ fs, P.underlying t = some (.struct fs)) ∨ ∃ m e, P.underlying t = some (.array m e)) (hf : flatT P n t = true)
    (hval : Value.okWide P W r b0 t v) (hd : DataW.Trod enc P W 0 spare held t v d ps) : ∃ ys, VR (ctx0 W) (.agg ys) v ∧ Sh P n t ys := by
  have hv : ∃ cs, v = .agg cs := by
    unfold Value.okWide at hval
    rcases hu with ⟨fs, hu⟩ | ⟨m, e, hu⟩
    · rw [hu] at hval
      obtain ⟨cs, h, _⟩ := hval
      exact ⟨cs, h⟩
    · rw [hu] at hval
      obtain ⟨cs, h, _⟩ := hval
      exact ⟨cs, h⟩
  obtain ⟨cs, rfl⟩ := hv
  obtain ⟨fuel, hd⟩ := hd
  obtain ⟨ys, h1, h2⟩ := flat_cel (W := W) n t hf _ _ _ hd
  have hc : (Value.agg cs).cells.toList = cs.toList := rfl
  rw [hc] at h2
  exact ⟨ys, .agg ys cs (by rw [h2.len]; simp) h2.one fun i c u hi hu => h2.vr i c u hi (by simpa using hu), h1⟩
end Go.Proofs.Ytoipleipokpnaaa.Code
end
section
namespace Go.Proofs.Ytoipleipokpnaaa.Code
open Go Go.Ab
variable {pure : Bool} {base bar : Nat} {H : Heap} {Q : AV → Heap → Prop} {K : AV → Heap → List Nat → Prop}
/-! far: a square of numbers on the heap -/
def topR (n : Nat) (C : Nat → AV) : List AV := (List.range n).map C
/-- a square with rows of their own -/
structure MX (n p : Nat) (vs : Nat → Nat) (M : Mat) (A H : Heap) : Prop where
  base : A.length = p
  len : H.length = p + 1 + n
  low : ∀ j, j < p → H[j]? = A[j]?
  top : H[p]? = some (.row 0 (topR n fun i => .vec (p + 1 + i) (vs i) 0 n 1) 0 true)
  row : ∀ i, i < n → H[p + 1 + i]? = some (.row (vs i) (dc n fun j => ((M i j : Nat) : Int)) 0 false)
/-- a list of numbers under construction, nothing of it frozen -/
def Gr0 (l : List Nat) (H0 : Heap) (v : AV) (H : Heap) : Prop := (l = [] ∧ v = .nils ∧ H = H0) ∨ ∃ ver, l ≠ [] ∧ v = .vec H0.length ver 0 l.length 1 ∧ H = H0 ++ [.row ver (nats l) 0 false]
theorem Gr0.nat {l : List Nat} {H0 : Heap} {v : AV} {ex : Bool} {x : Nat} (g : Gr0 l H0 v H) (hb : bar ≤ H0.length) (hbase : base ≤ H0.length) (hlen : l.length < 1000)
    (h : ∀ v' H' tc, Gr0 (l ++ [x]) H0 v' H' → K v' H' tc) : appWp base bar 1 8 (some v) (some (.lst 1 ex [.int .i64 (x : Int)])) H K := by
  have e : asrc H 1 (.lst 1 ex [.int .i64 (x : Int)]) = some [.int .i64 (x : Int)] := by rw [asrc_lst]; rfl
  rcases g with ⟨rfl, rfl, rfl⟩ | ⟨ver, hne, rfl, rfl⟩
  · simp [appWp, e, go_sem, aappend, AV.noVec.noVecs, AV.noVec]
    exact h _ _ _ (.inr ⟨0, by simp, by simp, by simp [nats]⟩)
  · have hl : (nats l).length = l.length := nats_len
    have h1 : ¬ 140737488355328 < (l.length + 1) * 8 := by omega
    have h2 : ¬ l.length + 1 ≤ l.length := by omega
    simp [appWp, e, go_sem, aappend, AV.noVec.noVecs, AV.noVec, hl, h1, h2, hb, hbase, List.take_of_length_le (show (nats l).length ≤ l.length by omega)]
    exact h _ _ _ (.inr ⟨ver + 1, by simp, by simp, by simp [nats]⟩)
theorem Gr0.get {l : List Nat} {H0 : Heap} {v : AV} {i : Nat} {b : Blk} (g : Gr0 l H0 v H) (h : H0[i]? = some b) : H[i]? = some b := by
  rcases g with ⟨rfl, rfl, rfl⟩ | ⟨ver, hne, rfl, rfl⟩
  · exact h
  · rw [List.getElem?_append_left (List.getElem?_eq_some_iff.1 h).1]; exact h
theorem Gr0.set {l : List Nat} {H0 : Heap} {v : AV} {i : Nat} {b : Blk} (g : Gr0 l H0 v H) (hi : i < H0.length) : Gr0 l (H0.set i b) v (H.set i b) := by
  rcases g with ⟨rfl, rfl, rfl⟩ | ⟨ver, hne, rfl, rfl⟩
  · exact .inl ⟨rfl, rfl, rfl⟩
  · refine .inr ⟨ver, hne, by simp, ?_⟩
    rw [List.set_append_left _ _ hi]
theorem Gr0.one {l : List Nat} {H0 : Heap} {v : AV} (g : Gr0 l H0 v H) : v.isTup = false ∧ v.cells = [v] := by
  rcases g with ⟨rfl, rfl, rfl⟩ | ⟨ver, hne, rfl, rfl⟩ <;> exact ⟨rfl, rfl⟩
end Go.Proofs.Ytoipleipokpnaaa.Code
end
section
namespace Go.Proofs.Ytoipleipokpnaaa.Code
open Go Go.Ab
variable {pure : Bool} {base bar : Nat} {H : Heap} {Q : AV → Heap → Prop} {K : AV → Heap → List Nat → Prop}
theorem set_same {H : Heap} {p : Nat} {b : Blk} (h : H[p]? = some b) : H.set p b = H := by
  apply List.ext_getElem?
  intro j
  rw [List.getElem?_set]
  by_cases e : p = j
  · subst e
    rw [if_pos rfl, if_pos (List.getElem?_eq_some_iff.1 h).1, h]
  · rw [if_neg e]
/-- a number of the square is set -/
theorem MX.set {n p i j v : Nat} {vs : Nat → Nat} {M : Mat} {A : Heap} (h : MX n p vs M A H) (hi : i < n) : MX n p vs (up2 M i j v) A (H.set (p + 1 + i) (.row (vs i) (dc n (updZ (fun j => ((M i j : Nat) : Int)) j (v : Int))) 0 false)) := by
  have hl := h.len
  refine ⟨h.base, by rw [List.length_set]; exact hl, fun k hk => ?_, ?_, fun k hk => ?_⟩
  · rw [List.getElem?_set_ne (by omega)]; exact h.low k hk
  · rw [List.getElem?_set_ne (by omega)]; exact h.top
  · by_cases e : k = i
    · subst e
      rw [List.getElem?_set_self (by omega)]
      congr 3
      funext j'
      unfold updZ up2
      by_cases e2 : j' = j
      · subst e2; simp
      · simp [e2]
    · rw [List.getElem?_set_ne (by omega), h.row k hk]
      congr 3
      funext j'
      unfold up2
      rw [if_neg (fun e' => e e'.1)]
end Go.Proofs.Ytoipleipokpnaaa.Code
end
section
namespace Go.Proofs.Ytoipleipokpnaaa.Code
open Go Go.Ab
variable {pure : Bool} {base bar : Nat} {H : Heap} {Q : AV → Heap → Prop} {K : AV → Heap → List Nat → Prop}
abbrev cRow (M : Mat) (i : Nat) : Nat → Int := fun j => ((M i j : Nat) : Int)
end Go.Proofs.Ytoipleipokpnaaa.Code
end
section
namespace Go.Proofs.Ytoipleipokpnaaa.Code
open Go Go.Ab
variable {pure : Bool} {base bar : Nat} {H : Heap} {Q : AV → Heap → Prop} {K : AV → Heap → List Nat → Prop}
def Le100 (M : Mat) : Prop := ∀ i j, M i j ≤ 100
theorem Le100.step {M : Mat} {k a b : Nat} (h : Le100 M) : Le100 (fwS k a M b) := fun i j => Nat.le_trans fwS_le (h i j)
end Go.Proofs.Ytoipleipokpnaaa.Code
end
section
namespace Go.Proofs.Ytoipleipokpnaaa.Code
open Go Go.Ab
variable {pure : Bool} {base bar : Nat} {H : Heap} {Q : AV → Heap → Prop} {K : AV → Heap → List Nat → Prop}
/-- a square that can be read -/
def isSq (v : AV) (n : Nat) (M : Mat) : Prop := v = .lst 1 false ((List.range n).map fun i => .lst 1 false (dc n (cRow M i)))
theorem isSq.len {v : AV} {n : Nat} {M : Mat} (h : isSq v n M) : lenWp (some v) H K = K (.int .i64 (n : Int)) H [] := by
  subst h; rw [lenWp_lst]; simp
theorem isSq.frz {v : AV} {n : Nat} {M : Mat} (h : isSq v n M) {d : Nat} : Go.Ab.frz (d + 1) bar H v = some (v, H) := by subst h; rfl
theorem isSq.top {v : AV} {n : Nat} {M : Mat} (h : isSq v n M) : v.top = 0 := by
  subst h
  rw [top_lst]
  exact tops_zero fun x hx => by
    obtain ⟨i, _, rfl⟩ := List.mem_map.1 hx
    rw [top_lst]; exact dc_tops
theorem isSq.isTup {v : AV} {n : Nat} {M : Mat} (h : isSq v n M) : v.isTup = false := by subst h; rfl
theorem isSq.cells {v : AV} {n : Nat} {M : Mat} (h : isSq v n M) : v.cells = [v] := by subst h; rfl
theorem isSq.ix {v : AV} {n : Nat} {M : Mat} (h : isSq v n M) {i : Nat} {k : IntKind} (hi : i < n) : ixaSWp 1 (some v) (some (.int k (i : Int))) H K = K (.fp (.lst 1 false (dc n (cRow M i)))) H [] := by
  subst h
  rw [ixaSWp_lst]
  simp [hi, valWp_some]
end Go.Proofs.Ytoipleipokpnaaa.Code
end
section
namespace Go.Proofs.Ytoipleipokpnaaa.Code
open Go Go.Ab
variable {pure : Bool} {base bar : Nat} {H : Heap} {Q : AV → Heap → Prop} {K : AV → Heap → List Nat → Prop}
end Go.Proofs.Ytoipleipokpnaaa.Code
end
section
namespace Go.Proofs.Ytoipleipokpnaaa.Code
open Go Go.Ab
/-! a tie less: two sides -/
section
variable {V : Nat → Prop} {f : Nat → Nat → Bool} {D : Nat → Nat → Nat} {x y : Nat}
theorem TM.side (h : TM V f D) (hxy : f x y = true) {v : Nat} (hv : V v) : D v y = D v x + 1 ∨ D v x = D v y + 1 := h.step hv hxy
/-- a tie between the sides is the tie -/
theorem TM.cross (h : TM V f D) (hxy : f x y = true) {u v : Nat} (huv : f u v = true) (hu : D u y = D u x + 1) (hv : D v x = D v y + 1) : u = x ∧ v = y := by
  obtain ⟨vu, vv, huv'⟩ := h.inV huv
  obtain ⟨vx, vy, hxy'⟩ := h.inV hxy
  have s1 := h.step vx huv
  have s2 := h.step vy huv
  have e1 := h.sym vu vx
  have e2 := h.sym vu vy
  have e3 := h.sym vv vx
  have e4 := h.sym vv vy
  have hvy : v = y := by
    apply Decidable.byContradiction
    intro hne
    obtain ⟨c, c1, c2, _⟩ := h.par vy vv (fun e => hne e.symm)
    have vc := (h.inV c1).2.1
    have hcu : c ≠ u := fun e => by subst e; omega
    have hxv : x ≠ v := fun e => by subst e; rw [h.zero vx] at hv; omega
    obtain ⟨p, p1, p2, p3⟩ := h.par vx vv hxv
    have q1 := p3 u (h.symF huv) (by omega)
    have q2 : ¬ D x c + 1 = D x v := fun e => hcu ((p3 c c1 e).trans q1.symm)
    have s3 := h.step vx c1
    have s4 := h.side hxy vc
    have e5 := h.sym vc vx
    have e6 := h.sym vc vy
    omega
  subst hvy
  refine ⟨?_, rfl⟩
  have z := h.zero vv
  exact h.eq vu vx (by omega)
/-- the next knot towards x stays on x's side -/
theorem TM.toward (h : TM V f D) (hxy : f x y = true) {a c : Nat} (va : V a) (ha : D a y = D a x + 1) (hac : f a c = true) (hc : D x c + 1 = D x a) : D c y = D c x + 1 := by
  have vc := (h.inV hac).2.1
  obtain ⟨vx, vy, _⟩ := h.inV hxy
  rcases h.side hxy vc with e | e
  · exact e
  · obtain ⟨rfl, rfl⟩ := h.cross hxy hac ha e
    rw [h.zero va] at hc; omega
/-- what is on different sides is joined over the tie -/
theorem TM.over (h : TM V f D) (hxy : f x y = true) {a : Nat} (va : V a) (ha : D a y = D a x + 1) : ∀ (m b : Nat), D y b = m → V b → D b x = D b y + 1 → D a b = D a x + 1 + m := by
  obtain ⟨vx, vy, _⟩ := h.inV hxy
  have hyx := h.symF hxy
  intro m
  induction m using Nat.strongRecOn with
  | ind m ih =>
    intro b hm vb hb
    by_cases e : y = b
    · subst e
      rw [h.zero vy] at hm
      omega
    · obtain ⟨c, c1, c2, _⟩ := h.par vy vb e
      have vc := (h.inV c1).2.1
      have hc := h.toward hyx vb hb c1 c2
      have ihc := ih (D y c) (by omega) c rfl vc hc
      have hac : a ≠ c := fun e' => by subst e'; omega
      rcases h.step va c1 with s | s
      · -- D a c = D a b + 1
        exfalso
        obtain ⟨p, p1, p2, p3⟩ := h.par va vc hac
        have q1 := p3 b (h.symF c1) s.symm
        by_cases ec : y = c
        · subst ec
          have q2 := p3 x hyx (by omega)
          have : b = x := q1.trans q2.symm
          subst this
          rw [h.zero vb] at hb; omega
        · obtain ⟨c2', d1, d2, _⟩ := h.par vy vc ec
          have vd := (h.inV d1).2.1
          have hd := h.toward hyx vc hc d1 d2
          have ihd := ih (D y c2') (by omega) c2' rfl vd hd
          have q2 := p3 c2' d1 (by omega)
          have : b = c2' := q1.trans q2.symm
          subst this; omega
      · omega
end
/-- reach without the tie -/
theorem rch_side {n : Nat} {f f' : Nat → Nat → Bool} {D : Nat → Nat → Nat} {x y : Nat} (h : TM (fun v => v < n) f D) (hxy : f x y = true)
    (hf : ∀ u v, f' u v = true ↔ f u v = true ∧ ¬ ((u = x ∧ v = y) ∨ (u = y ∧ v = x))) {a b : Nat} (ha : a < n) (hb : b < n) :
    Rch f' a b ↔ ¬ (D a x + 1 + D y b = D a b ∨ D a y + 1 + D x b = D a b) := by
  obtain ⟨vx, vy, hne⟩ := h.inV hxy
  have hyx := h.symF hxy
  have tox : ∀ (m a : Nat), a < n → D x a = m → D a y = D a x + 1 → Rch f' a x := by
    intro m
    induction m with
    | zero =>
      intro a ha hm hs
      have := h.eq vx ha hm
      subst this; exact .refl _
    | succ m ih =>
      intro a ha hm hs
      have hxa : x ≠ a := fun e => by subst e; rw [h.zero vx] at hm; omega
      obtain ⟨c, c1, c2, _⟩ := h.par vx ha hxa
      have hc := h.toward hxy ha hs c1 c2
      have vc := (h.inV c1).2.1
      have st : f' a c = true := (hf a c).2 ⟨c1, fun e => by
        rcases e with ⟨rfl, _⟩ | ⟨rfl, rfl⟩
        · exact hxa rfl
        · rw [h.zero vy] at hs; omega⟩
      exact Rch.trans (.step (.refl _) st) (ih c vc (by omega) hc)
  have toy : ∀ (m a : Nat), a < n → D y a = m → D a x = D a y + 1 → Rch f' a y := by
    intro m
    induction m with
    | zero =>
      intro a ha hm hs
      have := h.eq vy ha hm
      subst this; exact .refl _
    | succ m ih =>
      intro a ha hm hs
      have hxa : y ≠ a := fun e => by subst e; rw [h.zero vy] at hm; omega
      obtain ⟨c, c1, c2, _⟩ := h.par vy ha hxa
      have hc := h.toward hyx ha hs c1 c2
      have vc := (h.inV c1).2.1
      have st : f' a c = true := (hf a c).2 ⟨c1, fun e => by
        rcases e with ⟨rfl, rfl⟩ | ⟨rfl, _⟩
        · rw [h.zero vx] at hs; omega
        · exact hxa rfl⟩
      exact Rch.trans (.step (.refl _) st) (ih c vc (by omega) hc)
  have symF' : ∀ u v, f' u v = f' v u := fun u v => by
    rw [Bool.eq_iff_iff, hf, hf]
    constructor
    · rintro ⟨h1, h2⟩; exact ⟨h.symF h1, fun e => h2 (by rcases e with ⟨e1, e2⟩ | ⟨e1, e2⟩; exact .inr ⟨e2, e1⟩; exact .inl ⟨e2, e1⟩)⟩
    · rintro ⟨h1, h2⟩; exact ⟨h.symF h1, fun e => h2 (by rcases e with ⟨e1, e2⟩ | ⟨e1, e2⟩; exact .inr ⟨e2, e1⟩; exact .inl ⟨e2, e1⟩)⟩
  have keep : ∀ {u v}, Rch f' u v → u < n → v < n ∧ ((D u y = D u x + 1 ∧ D v y = D v x + 1) ∨ (D u x = D u y + 1 ∧ D v x = D v y + 1)) := by
    intro u v hr hu
    induction hr with
    | refl =>
      rcases h.side hxy hu with e | e
      · exact ⟨hu, .inl ⟨e, e⟩⟩
      · exact ⟨hu, .inr ⟨e, e⟩⟩
    | step h1 h2 ih =>
      rename_i p q
      obtain ⟨hp, ih⟩ := ih
      obtain ⟨g1, g2⟩ := (hf p q).1 h2
      have hq := (h.inV g1).2.1
      refine ⟨hq, ?_⟩
      rcases ih with ⟨i1, i2⟩ | ⟨i1, i2⟩
      · rcases h.side hxy hq with e | e
        · exact .inl ⟨i1, e⟩
        · exact absurd (.inl (h.cross hxy g1 i2 e)) g2
      · rcases h.side hxy hq with e | e
        · exact absurd (.inr (h.cross hyx g1 i2 e)) g2
        · exact .inr ⟨i1, e⟩
  have ey := h.sym hb vy
  have ex := h.sym hb vx
  have ay := h.sym ha vy
  have ax := h.sym ha vx
  have t1 := h.tri ha vy (D y b) hb rfl
  have t2 := h.tri ha vx (D x b) hb rfl
  constructor
  · intro hr
    obtain ⟨_, hk⟩ := keep hr ha
    omega
  · intro hno
    rcases h.side hxy ha with e1 | e1
    · rcases h.side hxy hb with e2 | e2
      · exact Rch.trans (tox _ a ha rfl e1) (Rch.symm symF' (tox _ b hb rfl e2))
      · have := h.over hxy ha e1 _ b rfl hb e2
        exact absurd (.inl (by omega)) hno
    · rcases h.side hxy hb with e2 | e2
      · have := h.over hyx ha e1 _ b rfl hb e2
        exact absurd (.inr (by omega)) hno
      · exact Rch.trans (toy _ a ha rfl e1) (Rch.symm symF' (toy _ b hb rfl e2))
/-- the two sides and what joins them -/
theorem rch_join {n : Nat} {f f' : Nat → Nat → Bool} {D : Nat → Nat → Nat} {x y : Nat} (h : TM (fun v => v < n) f D) (hxy : f x y = true)
    (hf : ∀ u v, f' u v = true ↔ f u v = true ∧ ¬ ((u = x ∧ v = y) ∨ (u = y ∧ v = x))) {a b : Nat} (ha : a < n) (hb : b < n) (hno : ¬ Rch f' a b) {c : Nat} (hc : c < n) : Rch f' a c ∨ Rch f' b c := by
  have e1 := rch_side h hxy hf ha hb
  have e2 := rch_side h hxy hf ha hc
  have e3 := rch_side h hxy hf hb hc
  obtain ⟨vx, vy, hne⟩ := h.inV hxy
  apply Classical.byContradiction
  intro hno2
  have n1 : ¬ Rch f' a c := fun h' => hno2 (.inl h')
  have n2 : ¬ Rch f' b c := fun h' => hno2 (.inr h')
  rw [e1] at hno
  rw [e2] at n1
  rw [e3] at n2
  have n0 := Classical.not_not.1 hno
  have n1' := Classical.not_not.1 n1
  have n2' := Classical.not_not.1 n2
  have s1 := h.side hxy ha
  have s2 := h.side hxy hb
  have s3 := h.side hxy hc
  have q1 := h.sym ha vx
  have q2 := h.sym ha vy
  have q3 := h.sym hb vx
  have q4 := h.sym hb vy
  have q5 := h.sym hc vx
  have q6 := h.sym hc vy
  have t1 := h.tri ha vy (D y b) hb rfl
  have t2 := h.tri ha vx (D x b) hb rfl
  have t3 := h.tri ha vy (D y c) hc rfl
  have t4 := h.tri ha vx (D x c) hc rfl
  have t5 := h.tri hb vy (D y c) hc rfl
  have t6 := h.tri hb vx (D x c) hc rfl
  omega
end Go.Proofs.Ytoipleipokpnaaa.Code
end
section
namespace Go.Proofs.Ytoipleipokpnaaa.Code
open Go Go.Ab
/-! ties that differ -/
def sameT (p q : ZZ) : Prop := (p.1 = q.1 ∧ p.2 = q.2) ∨ (p.1 = q.2 ∧ p.2 = q.1)
theorem sameT.symm {p q : ZZ} (h : sameT p q) : sameT q p := by
  rcases h with ⟨h1, h2⟩ | ⟨h1, h2⟩
  · exact .inl ⟨h1.symm, h2.symm⟩
  · exact .inr ⟨h2.symm, h1.symm⟩
theorem tieB_same {n : Nat} {b : List ZZ} {p : ZZ} (hp : okP n p) : tieB b p.1.toNat p.2.toNat = true ↔ ∃ q ∈ b, sameT q p := by
  obtain ⟨q1, q2, _⟩ := hp
  rw [tieB_iff, Int.toNat_of_nonneg q1, Int.toNat_of_nonneg q2]
  constructor
  · rintro (h | h)
    · exact ⟨_, h, .inl ⟨rfl, rfl⟩⟩
    · exact ⟨_, h, .inr ⟨rfl, rfl⟩⟩
  · rintro ⟨⟨c, d⟩, h, ⟨h1, h2⟩ | ⟨h1, h2⟩⟩
    · simp only at h1 h2; subst h1 h2; exact .inl h
    · simp only at h1 h2; subst h1 h2; exact .inr h
theorem errL_iff {n : Nat} : ∀ {r b : List ZZ}, errL n b r = 0 ↔ (∀ p ∈ r, okP n p) ∧ (∀ p ∈ r, ∀ q ∈ b, ¬ sameT q p) ∧ r.Pairwise fun p q => ¬ sameT p q
  | [], b => by simp [errL]
  | p :: r, b => by
    unfold errL
    by_cases h1 : mayS n p = 0
    · rw [if_neg (by simp [h1])]
      have hp := mayS_ok.1 h1
      cases h2 : tieB b p.1.toNat p.2.toNat with
      | true =>
        rw [if_pos rfl]
        obtain ⟨q, hq, hs⟩ := (tieB_same hp).1 h2
        constructor
        · intro e; cases e
        · rintro ⟨_, h3, _⟩; exact absurd hs (h3 p (List.mem_cons_self ..) q hq)
      | false =>
        rw [if_neg (by decide), errL_iff]
        have h3 : ∀ q ∈ b, ¬ sameT q p := fun q hq hs => by
          have := (tieB_same hp).2 ⟨q, hq, hs⟩
          rw [h2] at this; cases this
        constructor
        · rintro ⟨g1, g2, g3⟩
          refine ⟨fun q hq => ?_, fun q hq c hc => ?_, List.pairwise_cons.2 ⟨fun q hq => g2 q hq p (by simp), g3⟩⟩
          · rcases List.mem_cons.1 hq with rfl | hq
            · exact hp
            · exact g1 q hq
          · rcases List.mem_cons.1 hq with rfl | hq
            · exact h3 c hc
            · exact g2 q hq c (List.mem_append_left _ hc)
        · rintro ⟨g1, g2, g3⟩
          obtain ⟨g4, g5⟩ := List.pairwise_cons.1 g3
          refine ⟨fun q hq => g1 q (List.mem_cons_of_mem _ hq), fun q hq c hc => ?_, g5⟩
          rcases List.mem_append.1 hc with hc | hc
          · exact g2 q (List.mem_cons_of_mem _ hq) c hc
          · rw [List.mem_singleton.1 hc]; exact g4 q hq
    · rw [if_pos h1]
      constructor
      · intro e; exact absurd e h1
      · rintro ⟨g1, _⟩; exact absurd (mayS_ok.2 (g1 p (List.mem_cons_self ..))) h1
/-- trees: no tie twice, a tie less than knots, all joined -/
structure Tre (n : Nat) (l : List ZZ) : Prop where
  one : 1 ≤ n
  nine : n ≤ 9
  ok : ∀ p ∈ l, okP n p
  dis : l.Pairwise fun p q => ¬ sameT p q
  len : l.length < n
  conn : Conn n l
theorem Tre.errL {n : Nat} {l : List ZZ} (h : Tre n l) : errL n [] l = 0 := errL_iff.2 ⟨h.ok, (fun _ _ _ hq => by cases hq), h.dis⟩
theorem Tre.errT {n : Nat} {l : List ZZ} (h : Tre n l) : errT n l = 0 := by
  have h1 := h.one
  have h2 := h.nine
  have h3 := h.len
  unfold Code.errT
  rw [if_neg (by simp; omega), if_neg (by simp [h.errL]), if_neg (by simp; omega), if_pos (by simpa using h.conn)]
theorem tre_of {n : Nat} {l : List ZZ} (h : Code.errT n l = 0) : Tre n l := by
  obtain ⟨m, em, h1, h9, hv, hE, hlen, hc⟩ := errT_ok h
  obtain rfl : n = m := by omega
  exact ⟨h1, h9, hv, (errL_iff.1 hE).2.2, hlen, hc⟩
theorem Tre.tm {n : Nat} {l : List ZZ} (h : Tre n l) : ∃ D, TM (fun x => x < n) (tieB l) D ∧ ∀ x y, x < n → y < n → D x y < n := by
  obtain ⟨w', k1, _⟩ := wd_sum h.nine (r := l) Wd.nil h.errL (by simp [bitsN_zero, Sm_zero])
  rw [List.nil_append] at k1
  exact tree_tm h.nine h.one k1 h.errL h.len h.conn
theorem erase_mem {l : List ZZ} {k : Nat} (hk : k < l.length) : l = l.take k ++ l[k] :: l.drop (k + 1) := by
  rw [← List.drop_eq_getElem_cons hk, List.take_append_drop]
def lessT (l : List ZZ) (k : Nat) : List ZZ := l.take k ++ l.drop (k + 1)
theorem lessT_sub {l : List ZZ} {k : Nat} : (lessT l k).Sublist l := by
  unfold lessT
  conv => rhs; rw [← List.take_append_drop k l]
  refine List.Sublist.append (List.Sublist.refl _) ?_
  rw [show k + 1 = 1 + k by omega, ← List.drop_drop]
  have := List.drop_sublist 1 (l.drop k)
  simpa [List.drop_drop, Nat.add_comm] using this
theorem lessT_len {l : List ZZ} {k : Nat} (hk : k < l.length) : (lessT l k).length + 1 = l.length := by
  unfold lessT
  rw [List.length_append, List.length_take, List.length_drop]; omega
/-- ties without one -/
theorem lessT_tie {n : Nat} {l : List ZZ} {k x y : Nat} (ht : Tre n l) (hk : k < l.length) (hp : l[k] = ((x : Int), (y : Int))) (u v : Nat) : tieB (lessT l k) u v = true ↔ tieB l u v = true ∧ ¬ ((u = x ∧ v = y) ∨ (u = y ∧ v = x)) := by
  have hl := erase_mem hk
  rw [hp] at hl
  have hd := ht.dis
  rw [hl, List.pairwise_append] at hd
  obtain ⟨_, d2, d3⟩ := hd
  obtain ⟨d4, _⟩ := List.pairwise_cons.1 d2
  have hno : ∀ q ∈ lessT l k, ¬ sameT q ((x : Int), (y : Int)) := fun q hq => by
    unfold lessT at hq
    rcases List.mem_append.1 hq with hq | hq
    · exact d3 q hq _ (List.mem_cons_self ..)
    · exact fun e => d4 q hq e.symm
  have hmem : ∀ q, q ∈ l ↔ q ∈ lessT l k ∨ q = ((x : Int), (y : Int)) := fun q => by
    conv => lhs; rw [hl]
    unfold lessT
    simp only [List.mem_append, List.mem_cons]
    constructor
    · rintro (h | h | h)
      · exact .inl (.inl h)
      · exact .inr h
      · exact .inl (.inr h)
    · rintro ((h | h) | h)
      · exact .inl h
      · exact .inr (.inr h)
      · exact .inr (.inl h)
  rw [tieB_iff, tieB_iff, hmem, hmem]
  constructor
  · intro h
    refine ⟨by rcases h with h | h; exact .inl (.inl h); exact .inr (.inl h), ?_⟩
    rintro (⟨rfl, rfl⟩ | ⟨rfl, rfl⟩)
    · rcases h with h | h
      · exact hno _ h (.inl ⟨rfl, rfl⟩)
      · exact hno _ h (.inr ⟨rfl, rfl⟩)
    · rcases h with h | h
      · exact hno _ h (.inr ⟨rfl, rfl⟩)
      · exact hno _ h (.inl ⟨rfl, rfl⟩)
  · rintro ⟨h, hn⟩
    rcases h with (h | h) | (h | h)
    · exact .inl h
    · injection h with h1 h2
      exact absurd (.inl ⟨by omega, by omega⟩) hn
    · exact .inr h
    · injection h with h1 h2
      exact absurd (.inr ⟨by omega, by omega⟩) hn
/-- another tie in its place -/
theorem swap_tree {n : Nat} {l : List ZZ} {k x y a b : Nat} (ht : Tre n l) (hk : k < l.length) (hp : l[k] = ((x : Int), (y : Int))) (ha : a < n) (hb : b < n) (hab : a ≠ b) (hno : ¬ Rch (tieB (lessT l k)) a b) : Tre n (lessT l k ++ [((a : Int), (b : Int))]) := by
  obtain ⟨D, hD, _⟩ := ht.tm
  have hxy : tieB l x y = true := by rw [tieB_iff]; exact .inl (by rw [← hp]; exact List.getElem_mem hk)
  have hf := lessT_tie ht hk hp
  have hnt : tieB (lessT l k) a b = false := by
    cases e : tieB (lessT l k) a b with
    | false => rfl
    | true => exact absurd (.step (.refl _) e) hno
  have hgrow : ∀ {u v}, Rch (tieB (lessT l k)) u v → Rch (tieB (lessT l k ++ [((a : Int), (b : Int))])) u v := by
    intro u v hr
    induction hr with
    | refl => exact .refl _
    | step h1 h2 ih => exact .step ih (by rw [tieB_snoc, h2]; rfl)
  refine ⟨ht.one, ht.nine, fun p hp' => ?_, ?_, ?_, ?_⟩
  · rcases List.mem_append.1 hp' with h | h
    · exact ht.ok p (lessT_sub.mem h)
    · rw [List.mem_singleton.1 h]
      exact ⟨by simp, by simp, by simp only; omega, by simp only; omega, by simp only; omega⟩
  · rw [List.pairwise_append]
    refine ⟨ht.dis.sublist lessT_sub, by simp, fun q hq c hc hs => ?_⟩
    rw [List.mem_singleton.1 hc] at hs
    have okc : okP n ((a : Int), (b : Int)) := ⟨by simp, by simp, by simp only; omega, by simp only; omega, by simp only; omega⟩
    have := (tieB_same okc).2 ⟨q, hq, hs⟩
    simp only [Int.toNat_natCast] at this
    rw [hnt] at this; cases this
  · have := lessT_len hk
    have := ht.len
    simp; omega
  · have hj := fun c hc => rch_join hD hxy hf ha hb hno (c := c) hc
    have hab' : Rch (tieB (lessT l k ++ [((a : Int), (b : Int))])) a b := .step (.refl _) (by rw [tieB_snoc]; simp)
    have hto : ∀ c, c < n → Rch (tieB (lessT l k ++ [((a : Int), (b : Int))])) a c := fun c hc => by
      rcases hj c hc with h | h
      · exact hgrow h
      · exact Rch.trans hab' (hgrow h)
    intro c hc
    exact Rch.trans (Rch.symm (fun u v => tieB_symm) (hto 0 ht.one)) (hto c hc)
end Go.Proofs.Ytoipleipokpnaaa.Code
end
section
namespace Go.Proofs.Ytoipleipokpnaaa.Code
open Go Go.Ab
/-! tidy ties in order -/
def ltZ (p q : ZZ) : Prop := p.1 < q.1 ∨ (p.1 = q.1 ∧ p.2 < q.2)
theorem ltZ.irr {p : ZZ} : ¬ ltZ p p := by unfold ltZ; omega
theorem ltZ.trans {p q r : ZZ} (h1 : ltZ p q) (h2 : ltZ q r) : ltZ p r := by unfold ltZ at *; omega
theorem ltZ.asymm {p q : ZZ} (h1 : ltZ p q) (h2 : ltZ q p) : False := ltZ.irr (h1.trans h2)
/-- lists in strict order with the same members are the same -/
theorem sort_unique : ∀ {L M : List ZZ}, L.Pairwise ltZ → M.Pairwise ltZ → (∀ p, p ∈ L ↔ p ∈ M) → L = M
  | [], [], _, _, _ => rfl
  | [], q :: M, _, _, h => by have := (h q).2 (List.mem_cons_self ..); cases this
  | p :: L, [], _, _, h => by have := (h p).1 (List.mem_cons_self ..); cases this
  | p :: L, q :: M, hL, hM, h => by
    obtain ⟨l1, l2⟩ := List.pairwise_cons.1 hL
    obtain ⟨m1, m2⟩ := List.pairwise_cons.1 hM
    have e : p = q := by
      rcases List.mem_cons.1 ((h p).1 (List.mem_cons_self ..)) with e | e
      · exact e
      · rcases List.mem_cons.1 ((h q).2 (List.mem_cons_self ..)) with e' | e'
        · exact e'.symm
        · exact (ltZ.asymm (l1 q e') (m1 p e)).elim
    subst e
    congr 1
    refine sort_unique l2 m2 fun r => ?_
    constructor
    · intro hr
      rcases List.mem_cons.1 ((h r).1 (List.mem_cons_of_mem _ hr)) with e' | e'
      · subst e'; exact (ltZ.irr (l1 r hr)).elim
      · exact e'
    · intro hr
      rcases List.mem_cons.1 ((h r).2 (List.mem_cons_of_mem _ hr)) with e' | e'
      · subst e'; exact (ltZ.irr (m1 r hr)).elim
      · exact e'
theorem mem_rowT {f : Nat → Nat → Bool} {a : Nat} {p : ZZ} : p ∈ rowT f a ↔ ∃ b : Nat, p = ((a : Int), (b : Int)) ∧ b < 9 ∧ a < b ∧ f a b = true := by
  unfold rowT
  constructor
  · intro h
    obtain ⟨b, hb, rfl⟩ := List.mem_map.1 h
    obtain ⟨h1, h2⟩ := List.mem_filter.1 hb
    simp only [Bool.and_eq_true, decide_eq_true_eq] at h2
    exact ⟨b, rfl, List.mem_range.1 h1, h2.2, h2.1⟩
  · rintro ⟨b, rfl, h1, h2, h3⟩
    exact List.mem_map.2 ⟨b, List.mem_filter.2 ⟨List.mem_range.2 h1, by simp [h2, h3]⟩, rfl⟩
theorem mem_tidyF {f : Nat → Nat → Bool} {n : Nat} {p : ZZ} : p ∈ tidyF f n ↔ ∃ a b : Nat, p = ((a : Int), (b : Int)) ∧ a < n ∧ b < 9 ∧ a < b ∧ f a b = true := by
  unfold tidyF
  rw [List.mem_flatMap]
  constructor
  · rintro ⟨a, ha, hp⟩
    obtain ⟨b, rfl, h1, h2, h3⟩ := mem_rowT.1 hp
    exact ⟨a, b, rfl, List.mem_range.1 ha, h1, h2, h3⟩
  · rintro ⟨a, b, rfl, h0, h1, h2, h3⟩
    exact ⟨a, List.mem_range.2 h0, mem_rowT.2 ⟨b, rfl, h1, h2, h3⟩⟩
theorem rowT_sorted {f : Nat → Nat → Bool} {a : Nat} : (rowT f a).Pairwise ltZ := by
  unfold rowT
  rw [List.pairwise_map]
  have h : ((List.range 9).filter fun b => f a b && decide (a < b)).Pairwise (· < ·) := (List.pairwise_lt_range).sublist List.filter_sublist
  refine h.imp fun {x y} hxy => .inr ⟨rfl, ?_⟩
  show (x : Int) < (y : Int)
  omega
theorem tidyF_sorted {f : Nat → Nat → Bool} : ∀ {n : Nat}, (tidyF f n).Pairwise ltZ
  | 0 => by simp [tidyF]
  | n + 1 => by
    rw [tidyF_suc, List.pairwise_append]
    refine ⟨tidyF_sorted, rowT_sorted, fun p hp q hq => ?_⟩
    obtain ⟨a, b, rfl, h1, _⟩ := mem_tidyF.1 hp
    obtain ⟨c, rfl, _⟩ := mem_rowT.1 hq
    unfold ltZ; simp only; omega
def normT (p : ZZ) : ZZ := (min p.1 p.2, max p.1 p.2)
theorem normT_or {p : ZZ} : normT p = p ∨ normT p = (p.2, p.1) := by
  unfold normT
  rcases Int.le_total p.1 p.2 with h | h
  · left; rw [Int.min_eq_left h, Int.max_eq_right h]
  · right; rw [Int.min_eq_right h, Int.max_eq_left h]
theorem normT_same {p q : ZZ} (h : normT p = normT q) : sameT p q := by
  rcases normT_or (p := p) with e1 | e1 <;> rcases normT_or (p := q) with e2 | e2
  · rw [e1, e2] at h; exact .inl ⟨by rw [h], by rw [h]⟩
  · rw [e1, e2] at h; exact .inr ⟨by rw [h], by rw [h]⟩
  · rw [e1, e2] at h
    exact .inr ⟨congrArg Prod.snd h, congrArg Prod.fst h⟩
  · rw [e1, e2] at h
    injection h with h1 h2
    exact .inl ⟨h2, h1⟩
/-- what sorting tidied ties gives -/
theorem tidied_eq {n : Nat} {l L : List ZZ} (ht : Tre n l) (hp : L.Perm (l.map normT)) (hs : L.Pairwise fun p q => ¬ ltZ q p) : L = tidyF (tieB l) n := by
  have hnd : (l.map normT).Nodup := by
    unfold List.Nodup
    rw [List.pairwise_map]
    exact ht.dis.imp fun {p q} h e => h (normT_same e)
  have hnd' : L.Nodup := hp.nodup_iff.2 hnd
  have hst : L.Pairwise ltZ := by
    have := hs.and hnd'
    refine this.imp fun {p q} h => ?_
    obtain ⟨h1, h2⟩ := h
    unfold ltZ at *
    have : ¬ (p.1 = q.1 ∧ p.2 = q.2) := fun e => h2 (Prod.ext e.1 e.2)
    omega
  refine sort_unique hst tidyF_sorted fun p => ?_
  rw [hp.mem_iff, mem_tidyF]
  have h9 := ht.nine
  constructor
  · intro h
    obtain ⟨q, hq, rfl⟩ := List.mem_map.1 h
    obtain ⟨q1, q2, q3, q4, q5⟩ := ht.ok q hq
    obtain ⟨c, d⟩ := q
    simp only at q1 q2 q3 q4 q5
    obtain ⟨c, rfl⟩ := Int.eq_ofNat_of_zero_le q1
    obtain ⟨d, rfl⟩ := Int.eq_ofNat_of_zero_le q2
    rcases Nat.lt_or_ge c d with hcd | hcd
    · exact ⟨c, d, by unfold normT; simp only; rw [Int.min_eq_left (by omega), Int.max_eq_right (by omega)], by omega, by omega, hcd, by rw [tieB_iff]; exact .inl hq⟩
    · exact ⟨d, c, by unfold normT; simp only; rw [Int.min_eq_right (by omega), Int.max_eq_left (by omega)], by omega, by omega, by omega, by rw [tieB_iff]; exact .inr hq⟩
  · rintro ⟨a, b, rfl, h1, h2, h3, h4⟩
    rw [tieB_iff] at h4
    rw [List.mem_map]
    rcases h4 with h4 | h4
    · exact ⟨_, h4, by unfold normT; simp only; rw [Int.min_eq_left (by omega), Int.max_eq_right (by omega)]⟩
    · exact ⟨_, h4, by unfold normT; simp only; rw [Int.min_eq_right (by omega), Int.max_eq_left (by omega)]⟩
theorem Tre.inn {n : Nat} {l : List ZZ} (h : Tre n l) : ∀ a b, tieB l a b = true → a < n ∧ b < n ∧ a ≠ b := fun a b hab => tieB_lt h.ok hab
theorem Rch.congr {f g : Nat → Nat → Bool} (h : ∀ a b, f a b = g a b) {x y : Nat} (hr : Rch f x y) : Rch g x y := by
  obtain rfl : f = g := funext fun a => funext fun b => h a b
  exact hr
/-- insertion sort of the plain kind, for lengths -/
theorem tidyF_length {n : Nat} {l : List ZZ} (h : Tre n l) : (tidyF (tieB l) n).length = l.length := by
  have hp := List.mergeSort_perm (l.map normT) (fun p q => decide (p.1 < q.1 ∨ (p.1 = q.1 ∧ p.2 ≤ q.2)))
  have hs := List.pairwise_mergeSort (le := fun p q : ZZ => decide (p.1 < q.1 ∨ (p.1 = q.1 ∧ p.2 ≤ q.2))) (fun a b c => by simp only [decide_eq_true_eq]; omega) (fun a b => by simp only [Bool.or_eq_true, decide_eq_true_eq]; omega) (l.map normT)
  rw [← tidied_eq h hp (hs.imp fun {p q} hpq hlt => by
    simp only [decide_eq_true_eq] at hpq
    unfold ltZ at hlt
    omega), hp.length_eq, List.length_map]
end Go.Proofs.Ytoipleipokpnaaa.Code
end
section
namespace Go.Proofs.Ytoipleipokpnaaa.Code
open Go Go.Ab
variable {pure : Bool} {base bar : Nat} {H : Heap} {Q : AV → Heap → Prop} {K : AV → Heap → List Nat → Prop}
/-! a tie less, on the masks -/
theorem wd_untie {n k x y : Nat} {l : List ZZ} {w : Nat → Nat} (ht : Tre n l) (hk : k < l.length) (hp : l[k] = ((x : Int), (y : Int))) (hw : Wd n l w) : Wd n (lessT l k) (tieW w x y) := by
  have hok := ht.ok _ (List.getElem_mem hk)
  rw [hp] at hok
  obtain ⟨_, _, g1, g2, g3⟩ := hok
  simp only at g1 g2 g3
  have h9 := ht.nine
  have hne : y ≠ x := fun e => g3 (by rw [e])
  have hca : upd w x (bxor (w x) (pw y)) y = w y := by unfold upd; rw [if_neg hne]
  have hin := hw.inn
  have hxy : tieB l x y = true := tieB_iff.2 (.inl (by rw [← hp]; exact List.getElem_mem hk))
  refine ⟨fun i => ?_, fun u v => ?_, fun p hp => ?_⟩
  · unfold tieW
    rw [hca]
    unfold upd
    split
    · exact bxor9 (hw.lt y) (pw9 (by omega))
    · split
      · exact bxor9 (hw.lt x) (pw9 (by omega))
      · exact hw.lt i
  · have hlt := lessT_tie ht hk hp u v
    have hb := hw.bit u v
    have e : (tieW w x y u).testBit v = (tieB l u v && !decide ((u = x ∧ v = y) ∨ (u = y ∧ v = x))) := by
      rw [← hb]
      unfold tieW
      rw [hca]
      simp only [upd]
      by_cases h1 : u = y
      · rw [if_pos h1, testBit_bxor, testBit_pw]
        by_cases h2 : x = v
        · have : (w u).testBit v = true := by rw [hb, h1, ← h2, tieB_symm]; exact hxy
          have h3 : (w y).testBit v = true := by rw [← h1]; exact this
          simp [this, h2, h1, h3]
        · subst h1
          simp [h2, show ¬ v = x from fun e => h2 e.symm, hne]
      · rw [if_neg h1]
        by_cases h2 : u = x
        · rw [if_pos h2, testBit_bxor, testBit_pw]
          by_cases h3 : y = v
          · have : (w u).testBit v = true := by rw [hb, h2, ← h3]; exact hxy
            have h4 : (w x).testBit v = true := by rw [← h2]; exact this
            simp [this, h2, h3, h4]
          · subst h2
            simp [h3, show ¬ v = y from fun e => h3 e.symm, h1]
        · rw [if_neg h2]
          simp [h1, h2]
    rw [e]
    cases hq : tieB (lessT l k) u v
    · have : ¬ (tieB l u v = true ∧ ¬ ((u = x ∧ v = y) ∨ (u = y ∧ v = x))) := fun h => by rw [hlt.2 h] at hq; cases hq
      cases h5 : tieB l u v
      · rfl
      · rw [Bool.true_and, Bool.not_eq_false', decide_eq_true_eq]
        exact Classical.byContradiction fun hn => this ⟨h5, hn⟩
    · obtain ⟨h5, h6⟩ := hlt.1 hq
      rw [h5, Bool.true_and, Bool.not_eq_true', decide_eq_false_iff_not]
      exact h6
  · exact hw.val p (lessT_sub.subset hp)
theorem tieB_false_of {l : List ZZ} {a b : Nat} (h : ¬ Rch (tieB l) a b) : tieB l a b = false := by
  cases hq : tieB l a b
  · rfl
  · exact absurd (Rch.step (.refl a) hq) h
theorem k22 {n : Nat} {q : AV} {l : List ZZ} {i : Int} {p : ZZ} (hq : isP q l) (ht : Tre n l) (hbar : bar ≤ H.length)
    (h1 : ¬ (0 ≤ i ∧ i ≤ (l.length : Int) - 1) → Q (.tup [.agg [.int .i64 0, .nils], .int .i64 1]) H)
    (h2 : (0 ≤ i ∧ i ≤ (l.length : Int) - 1) → mayS n p ≠ 0 → Q (.tup [.agg [.int .i64 0, .nils], .int .i64 (mayS n p)]) H)
    (h3 : ∀ (k a b : Nat), i = k → k < l.length → p = ((a : Int), (b : Int)) → a < n → b < n → a ≠ b → Rch (tieB (lessT l k)) a b → Q (.tup [.agg [.int .i64 0, .nils], .int .i64 12]) H)
    (h4 : ∀ (k a b : Nat), i = k → k < l.length → p = ((a : Int), (b : Int)) → a < n → b < n → a ≠ b → ¬ Rch (tieB (lessT l k)) a b → ∀ u, isT u n (tidyF (tieB (lessT l k ++ [((a : Int), (b : Int))])) n) → Q (.tup [u, .int .i64 0]) H) :
    WpCall E pure base bar 22 [.agg [.int .i64 (n : Nat), q], .int .i64 i, .agg [.int .i64 p.1, .int .i64 p.2]] H Q := by
  rw [call22]
  have e0 : frzAll bar H [.agg [.int .i64 (n : Nat), q], .int .i64 i, .agg [.int .i64 p.1, .int .i64 p.2]] = some ([.agg [.int .i64 (n : Nat), q], .int .i64 i, .agg [.int .i64 p.1, .int .i64 p.2]], H) := by simp [frzAll, frz.frzs, frzsW, frz_agg, frz_int, hq.frz]
  rw [e0]
  have hb' := bar_if (pure := pure) hbar
  have hlen := fun (H : Heap) (K : AV → Heap → List Nat → Prop) => hq.len (H := H) (K := K)
  have h9 := ht.nine
  have hl := ht.len
  have hH3 : ∀ G : Heap, bar ≤ (H ++ G).length := fun G => by rw [List.length_append]; omega
  simp [go_sem, WpFun, c22, aload, AV.isTup, AV.cells]
  refine k49 hq (by omega) (by simp; omega) (fun G he => absurd ht.errT he) fun m w hm _ _ hw _ => ?_
  obtain rfl : m = n := by omega
  have e31 : H.length + 3 + 1 = H.length + 4 := rfl
  simp [go_sem, k50, aload, hlen, e31]
  rw [Go.IntWalk.i64_in _ (by omega)]
  generalize (if pure = true then H.length else bar) = br at *
  have hb2 : br ≤ H.length + 2 := by omega
  have hb4 : br ≤ H.length + 4 := by omega
  by_cases hi : 0 ≤ i ∧ i ≤ (l.length : Int) - 1
  · obtain ⟨k, rfl⟩ := Int.eq_ofNat_of_zero_le hi.1
    have hk : k < l.length := by omega
    rw [if_neg (by omega)]
    have hrw : RW (.vec (H.length + 4) 0 0 m 1) m w (H ++ ([.row 0 [.int .i64 (m : Nat), q] 0 true, .row 0 [.int .i64 p.1, .int .i64 p.2] 0 true, .row 0 [.int .i64 0, .nils] 0 true, .row 0 [.int .i64 (m : Nat), q] 0 true, .row 0 (wc m w) 0 true])) := RW.vec (fz := 0) (ex := true) (by simp)
    refine k60 hrw h9 ?_
    by_cases hp : mayS m p = 0
    · have hok := mayS_ok.1 hp
      obtain ⟨⟨x, y⟩, hxy⟩ : ∃ x, l[k] = x := ⟨_, rfl⟩
      have hokl := ht.ok _ (List.getElem_mem hk)
      rw [hxy] at hokl
      obtain ⟨g1, g2, g3, g4, g5⟩ := hokl
      simp only at g1 g2 g3 g4 g5
      obtain ⟨x, rfl⟩ := Int.eq_ofNat_of_zero_le g1
      obtain ⟨y, rfl⟩ := Int.eq_ofNat_of_zero_le g2
      obtain ⟨a, b⟩ := p
      obtain ⟨q1, q2, q3, q4, q5⟩ := hok
      simp only at q1 q2 q3 q4 q5
      obtain ⟨a, rfl⟩ := Int.eq_ofNat_of_zero_le q1
      obtain ⟨b, rfl⟩ := Int.eq_ofNat_of_zero_le q2
      have hix := fun (H : Heap) (K : AV → Heap → List Nat → Prop) => hq.ix (H := H) (K := K) (k := .i64) hk
      rw [hxy] at hix
      have w1 := wd_untie ht hk hxy hw
      simp [go_sem, hp, hix, zc, aload]
      refine k61 (id := H.length + 4) (ver := 0) (ex := true) (w := w) (by simp) h9 hw.lt (by omega) (by omega) hb4 ?_
      have e1 : ∀ G, (H ++ G).set (H.length + 4) (.row 0 (wc m (tieW w x y)) 0 true) = H ++ G.set 4 (.row 0 (wc m (tieW w x y)) 0 true) := fun G => by
        rw [List.set_append_right _ _ (by omega)]; congr 2; omega
      simp [go_sem, e1, aload]
      refine k62 (n := m) (w := tieW w x y) (RW.vec (fz := 0) (ex := true) (by simp)) h9 (by omega) w1.lt (fun a b h => (w1.inn a b h).2.1) (by simp; omega) fun R hR => ?_
      have k63' := fun (pure : Bool) (base bar : Nat) (H : Heap) (Q : AV → Heap → Prop) => k63 (pure := pure) (base := base) (bar := bar) (H := H) (Q := Q) hR.lt (show b < 9 by omega)
      have nv : ∀ w, AV.noVec.noVecs (wc m w) = true := fun w => noVecs_plainW
      simp [go_sem, aload, k63', nv, flatV, idsV]
      have hrch := hR.rch w1 (x := b)
      by_cases hb : R.testBit b = true
      · have := h3 k a b rfl hk rfl (by omega) (by omega) (by omega) (hrch.1 hb)
        simp [go_sem, hb, nv, flatV, idsV, storeWp, astore, AV.isTup, AV.cells, setCells, aload, Ab.part, hb2]
        exact this
      · have hno : ¬ Rch (tieB (lessT l k)) a b := fun h => hb (hrch.2 h)
        have hh := h4 k a b rfl hk rfl (by omega) (by omega) (by omega) hno
        have w2 := w1.tie h9 (show a < m by omega) (show b < m by omega) (by omega) (tieB_false_of hno)
        have e2 : tieB (lessT l k ++ [((a : Int), (b : Int))]) = fun u v => (tieW (tieW w x y) a b u).testBit v := funext fun u => funext fun v => (w2.bit u v).symm
        simp [go_sem, hb, aload, Ab.part, nv, flatV, idsV]
        refine k61 (id := H.length + 4) (ver := 0) (ex := true) (w := tieW w x y) (by simp) h9 w1.lt (by omega) (by omega) hb4 ?_
        have e3 : ∀ G, (H ++ G).set (H.length + 4) (.row 0 (wc m (tieW (tieW w x y) a b)) 0 true) = H ++ G.set 4 (.row 0 (wc m (tieW (tieW w x y) a b)) 0 true) := fun G => by
          rw [List.set_append_right _ _ (by omega)]; congr 2; omega
        rw [e3]
        simp [go_sem, aload]
        refine k64 (id := H.length + 4) (ver := 0) (fz := 0) (ex := true) (w := tieW (tieW w x y) a b) (by simp) h9 w2.lt hb4 fun u hu c => ?_
        rw [← e2] at hu
        have hk := hh u hu
        obtain ⟨q', hq', rfl⟩ := hu
        have e4 : ∀ G, (H ++ G).set (H.length + 4) c = H ++ G.set 4 c := fun G => by
          rw [List.set_append_right _ _ (by omega)]; congr 2; omega
        simp [go_sem, e4, storeWp, astore, AV.isTup, AV.cells, setCells, aload, Ab.part, hb2, hq'.isTup, hq'.cells, hq'.frz, hq'.top, AV.top, AV.top.tops]
        exact hk
    · have := h2 hi hp
      generalize mayS m p = e at *
      simp [go_sem, storeWp, astore, AV.isTup, AV.cells, setCells, aload, Ab.part, hp, hb2]
      exact this
  · rw [if_pos (by omega)]
    have := h1 hi
    simp [go_sem, storeWp, astore, AV.isTup, AV.cells, setCells, aload, Ab.part, hb2, frzAll, frz.frzs, frzsW]
    exact this
end Go.Proofs.Ytoipleipokpnaaa.Code
end
section
namespace Go.Proofs.Ytoipleipokpnaaa.Code
open Go Go.Ab
variable {pure : Bool} {base bar : Nat} {H : Heap} {Q : AV → Heap → Prop} {K : AV → Heap → List Nat → Prop}
end Go.Proofs.Ytoipleipokpnaaa.Code
end
section
namespace Go.Proofs.Ytoipleipokpnaaa.Code
open Go Go.Ab
variable {pure : Bool} {base bar : Nat} {H : Heap} {Q : AV → Heap → Prop} {K : AV → Heap → List Nat → Prop}
end Go.Proofs.Ytoipleipokpnaaa.Code
end
