/-
  Parts of the proofs about this chapter, joined: contracts of functions and plain laws.
-/
import Derived.Test.YtoipleipokpnaaaGreatKit
import Derived.Test.YtoipleipokpnaaaGreatCall
set_option linter.all false
section
namespace Go.Proofs.YtoipleipokpnaaaGreat.Code
open Go Go.Ab
attribute [go_sem ↓] wpop_app
variable {pure : Bool} {base bar : Nat} {H : Heap} {Q : AV → Heap → Prop}
theorem i64_suc {i : Nat} (h : i < 1000000) : IntKind.i64.wrap ((i : Int) + 1) = ((i + 1 : Nat) : Int) := by
  rw [Go.IntWalk.i64_in _ (by omega)]; omega
theorem bar_if {pure : Bool} (hb : bar ≤ H.length) : (if pure = true then H.length else bar) ≤ H.length := by split <;> omega
/-! sets of knots: numbers below 512, in 16 bits -/
theorem u16_nat {a : Nat} (h : a < 65536) : IntKind.u16.wrap (a : Int) = a := Go.IntWalk.u16_in _ (by omega)
def bxor (a b : Nat) : Nat := a ^^^ b
def bcl (a b : Nat) : Nat := a &&& (511 ^^^ b)
def bsr (a b : Nat) : Nat := a / 2 ^ (min b 16)
theorem pw9 {b : Nat} (hb : b < 9) : pw b < 512 := Nat.pow_lt_pow_right (by decide) hb
theorem band9 {a b : Nat} (ha : a < 512) : band a b < 512 := Nat.lt_of_le_of_lt Nat.and_le_left ha
theorem bor9 {a b : Nat} (ha : a < 512) (hb : b < 512) : bor a b < 512 := Nat.or_lt_two_pow (n := 9) ha hb
theorem bxor9 {a b : Nat} (ha : a < 512) (hb : b < 512) : bxor a b < 512 := Nat.xor_lt_two_pow (n := 9) ha hb
theorem bcl9 {a b : Nat} (ha : a < 512) : bcl a b < 512 := Nat.lt_of_le_of_lt Nat.and_le_left ha
theorem testBit_bxor {a b i : Nat} : (bxor a b).testBit i = (a.testBit i ^^ b.testBit i) := Nat.testBit_xor ..
theorem bit9 {a i : Nat} (ha : a < 512) (h : a.testBit i = true) : i < 9 := by
  apply Decidable.byContradiction
  intro hi
  rw [Nat.testBit_lt_two_pow (Nat.lt_of_lt_of_le ha (Nat.pow_le_pow_right (by decide) (Nat.not_lt.1 hi) : 2 ^ 9 ≤ 2 ^ i))] at h
  cases h
theorem testBit_bcl {a b i : Nat} (ha : a < 512) : (bcl a b).testBit i = (a.testBit i && !b.testBit i) := by
  unfold bcl
  rw [Nat.testBit_and, Nat.testBit_xor]
  by_cases hi : i < 9
  · have : ∀ i, i < 9 → Nat.testBit 511 i = true := by decide
    rw [this i hi]; cases b.testBit i <;> simp
  · have : a.testBit i = false := by
      cases h : a.testBit i
      · rfl
      · exact absurd (bit9 ha h) hi
    rw [this]; simp
theorem and_u16 {a b : Nat} (ha : a < 512) (hb : b < 512) : abin .and (.int .u16 a) (.int .u16 b) = some (.int .u16 ((band a b : Nat) : Int)) := by
  have e : (BitVec.ofInt 16 (a : Int) &&& BitVec.ofInt 16 (b : Int)).toNat = band a b := by
    rw [BitVec.toNat_and, ofInt_toNat (w := 16) (by omega), ofInt_toNat (w := 16) (by omega)]; rfl
  have := band9 (b := b) ha
  simp only [abin, binInt, if_true]
  rw [show IntKind.u16.bits = 16 from rfl, e, u16_nat (by omega)]
theorem or_u16 {a b : Nat} (ha : a < 512) (hb : b < 512) : abin .or (.int .u16 a) (.int .u16 b) = some (.int .u16 ((bor a b : Nat) : Int)) := by
  have e : (BitVec.ofInt 16 (a : Int) ||| BitVec.ofInt 16 (b : Int)).toNat = bor a b := by
    rw [BitVec.toNat_or, ofInt_toNat (w := 16) (by omega), ofInt_toNat (w := 16) (by omega)]; rfl
  have := bor9 ha hb
  simp only [abin, binInt, if_true]
  rw [show IntKind.u16.bits = 16 from rfl, e, u16_nat (by omega)]
theorem xor_u16 {a b : Nat} (ha : a < 512) (hb : b < 512) : abin .xor (.int .u16 a) (.int .u16 b) = some (.int .u16 ((bxor a b : Nat) : Int)) := by
  have e : (BitVec.ofInt 16 (a : Int) ^^^ BitVec.ofInt 16 (b : Int)).toNat = bxor a b := by
    rw [BitVec.toNat_xor, ofInt_toNat (w := 16) (by omega), ofInt_toNat (w := 16) (by omega)]; rfl
  have := bxor9 ha hb
  simp only [abin, binInt, if_true]
  rw [show IntKind.u16.bits = 16 from rfl, e, u16_nat (by omega)]
theorem andNot_u16 {a b : Nat} (ha : a < 512) (hb : b < 512) : abin .andNot (.int .u16 a) (.int .u16 b) = some (.int .u16 ((bcl a b : Nat) : Int)) := by
  have e : (BitVec.ofInt 16 (a : Int) &&& ~~~ BitVec.ofInt 16 (b : Int)).toNat = bcl a b := by
    rw [BitVec.toNat_and, BitVec.toNat_not, ofInt_toNat (w := 16) (by omega), ofInt_toNat (w := 16) (by omega)]
    apply Nat.eq_of_testBit_eq
    intro i
    rw [testBit_bcl ha, Nat.testBit_and]
    cases h : a.testBit i
    · simp
    · have hi := bit9 ha h
      have : ∀ b, b < 512 → ∀ i, i < 9 → (2 ^ 16 - 1 - b).testBit i = !b.testBit i := by decide +kernel
      rw [this b hb i hi]
  have := bcl9 (b := b) ha
  simp only [abin, binInt, if_true]
  rw [show IntKind.u16.bits = 16 from rfl, e, u16_nat (by omega)]
theorem shl_u16 {b : Nat} (hb : b < 10) : abin .shl (.int .u16 1) (.int .i64 (b : Int)) = some (.int .u16 ((pw b : Nat) : Int)) := by
  have h2 : (2 : Nat) ^ b < 65536 := Nat.lt_of_lt_of_le (Nat.pow_lt_pow_right (by decide) hb) (by decide)
  simp only [abin]
  rw [if_neg (by omega), Int.toNat_natCast, show min b IntKind.u16.bits = b from Nat.min_eq_left (by simp [IntKind.bits]; omega)]
  rw [show (1 : Int) * 2 ^ b = ((2 ^ b : Nat) : Int) by simp, u16_nat h2]; rfl
theorem shr_u16 {a b : Nat} : abin .shr (.int .u16 (a : Int)) (.int .i64 (b : Int)) = some (.int .u16 ((bsr a b : Nat) : Int)) := by
  simp only [abin]
  rw [if_neg (by omega)]
  simp only [Int.toNat_natCast, show IntKind.u16.bits = 16 from rfl]
  congr 2
  rw [show (2 : Int) ^ (min b 16) = ((2 ^ (min b 16) : Nat) : Int) by simp, Int.fdiv_eq_ediv_of_nonneg _ (Int.natCast_nonneg _)]
  exact (Int.natCast_ediv _ _).symm
theorem bsr9 {a b : Nat} (ha : a < 512) : bsr a b < 512 := Nat.lt_of_le_of_lt (Nat.div_le_self _ _) ha
theorem bsr_bit {a b : Nat} (ha : a < 512) (hb : b < 9) : band (bsr a b) 1 = (a.testBit b).toNat := by
  have : ∀ a, a < 512 → ∀ b, b < 9 → band (bsr a b) 1 = (a.testBit b).toNat := by decide +kernel
  exact this a ha b hb
theorem k46 {a b c : Int} : WpCall E pure base bar 46 [.int .i64 a, .int .i64 b, .int .i64 c] H Q ↔ Q (.bool (decide (b ≤ a) && decide (a ≤ c))) H := by
  rw [call46]
  by_cases h : b ≤ a <;> simp [go_sem, WpFun, c46, h]
theorem k67 {s b : Nat} (hs : s < 512) (hb : b < 9) : WpCall E pure base bar 67 [.int .u16 (s : Nat), .int .i64 (b : Nat)] H Q ↔ Q (.bool (s.testBit b)) H := by
  rw [call67]
  have e := bsr_bit hs hb
  have e1 : abin .and (.int .u16 (bsr s b : Nat)) (.int .u16 1) = some (.int .u16 ((band (bsr s b) 1 : Nat) : Int)) := and_u16 (b := 1) (bsr9 hs) (by decide)
  rw [e] at e1
  cases h : s.testBit b <;> simp [h] at e1 <;> simp [go_sem, WpFun, c67, shr_u16, e1]
/-- the knots of a set -/
def bitsN (s : Nat) : List Nat := (List.range 9).filter s.testBit
theorem mem_bitsN {s a : Nat} (hs : s < 512) : a ∈ bitsN s ↔ s.testBit a = true := by
  unfold bitsN
  rw [List.mem_filter, List.mem_range]
  exact ⟨fun h => h.2, fun h => ⟨bit9 hs h, h⟩⟩
theorem bitsN_len {s : Nat} : (bitsN s).length ≤ 9 := by
  have := List.length_filter_le s.testBit (List.range 9)
  rwa [List.length_range] at this
theorem l74 {s : Nat} (hs : s < 512) {H0 : Heap} (hb : bar ≤ H0.length) (hbase : base ≤ H0.length) {R : PQ} :
    ∀ (k i : Nat), i + k = 9 → ∀ (v : AV) (H : Heap), Grow 1 (nats ((List.range i).filter s.testBit)) H0 v H →
    (∀ v' H', Grow 1 (nats (bitsN s)) H0 v' H' → R (.exit 0) [(0, .int .u16 (s : Nat)), (3, v'), (5, .int .i64 9), (6, .bool false)] H') →
    Wp E base bar (.loop c74_l0) [(0, .int .u16 (s : Nat)), (3, v), (5, .int .i64 (i : Nat))] H R := by
  intro k
  induction k with
  | zero =>
    intro i hi v H g h
    obtain rfl : i = 9 := by omega
    rw [wp_round c74_l0.eq_1]
    simp [go_sem]
    exact h v H g
  | succ k ih =>
    intro i hi v H g h
    have hlt : i < 9 := by omega
    have hlen : ((List.range i).filter s.testBit).length ≤ i := by
      have := List.length_filter_le s.testBit (List.range i)
      rwa [List.length_range] at this
    have hr : (List.range (i + 1)).filter s.testBit = if s.testBit i then (List.range i).filter s.testBit ++ [i] else (List.range i).filter s.testBit := by
      rw [List.range_succ, List.filter_append]
      cases h : s.testBit i <;> simp [h]
    have hlt' : (i : Int) < 9 := by omega
    have hnext := fun v H g => ih (i + 1) (by omega) v H g h
    rw [wp_round c74_l0.eq_1]
    cases hbit : s.testBit i with
    | false =>
      rw [hbit] at hr
      simp only [Bool.false_eq_true, if_false] at hr
      simp [go_sem, hlt', k67 hs hlt, hbit, i64_suc (show i < 1000000 by omega)]
      exact hnext v H (by rw [hr]; exact g)
    | true =>
      rw [hbit] at hr
      simp only [if_true] at hr
      simp [go_sem, hlt', k67 hs hlt, hbit, aop, fillA, setCells, chunks]
      refine g.nat hb hbase (by omega) fun v' H' tc g' => ?_
      simp [go_sem, i64_suc (show i < 1000000 by omega)]
      exact hnext v' H' (by rw [hr]; exact g')
theorem k74 {s : Nat} (hs : s < 512) (hb : bar ≤ H.length) (h : Q (outL 1 (nats (bitsN s))) H) : WpCall E pure base bar 74 [.int .u16 (s : Nat)] H Q := by
  rw [call74]
  have hb' := bar_if (pure := pure) hb
  simp [go_sem, WpFun, c74]
  refine l74 (H0 := H) hs hb' (by omega) 9 0 rfl .nils H (by simpa [nats] using Grow.nil) fun v' H' g => ?_
  simp [go_sem]
  refine g.out hb' (by omega) ?_
  rw [List.take_length]; exact h
end Go.Proofs.YtoipleipokpnaaaGreat.Code
end
section
namespace Go.Proofs.YtoipleipokpnaaaGreat.Code
open Go Go.Ab
variable {pure : Bool} {base bar : Nat} {H : Heap} {Q : AV → Heap → Prop}
/-- the cells of a wood -/
def wc (n : Nat) (w : Nat → Nat) : List AV := (List.range n).map fun a => .int .u16 ((w a : Nat) : Int)
theorem wc_len {n : Nat} {w : Nat → Nat} : (wc n w).length = n := by simp [wc]
theorem wc_get {n i : Nat} {w : Nat → Nat} (hi : i < n) : (wc n w)[i]? = some (.int .u16 ((w i : Nat) : Int)) := by simp [wc, hi]
theorem wc_getE {n i : Nat} {w : Nat → Nat} (h : i < (wc n w).length) : (wc n w)[i]'h = .int .u16 ((w i : Nat) : Int) := by simp [wc]
theorem wc_plain {n : Nat} {w : Nat → Nat} : ∀ c ∈ wc n w, Plain c := fun c hc => by
  simp only [wc, List.mem_map] at hc
  obtain ⟨a, _, rfl⟩ := hc; exact Plain.int
theorem wc_tops {n : Nat} {w : Nat → Nat} : AV.top.tops (wc n w) = 0 := tops_zero fun x hx => by
  simp only [wc, List.mem_map] at hx
  obtain ⟨a, _, rfl⟩ := hx; rfl
theorem wc_set {n i x : Nat} {w : Nat → Nat} (hi : i < n) : setCells (wc n w) i [.int .u16 (x : Nat)] = wc n (upd w i x) := by
  simp only [setCells]
  apply List.ext_getElem?
  intro j
  rw [List.getElem?_set]
  by_cases hj : i = j
  · subst hj
    rw [if_pos rfl, if_pos (by rw [wc_len]; exact hi), wc_get hi]; simp [upd]
  · rw [if_neg hj]
    rcases Nat.lt_or_ge j n with h | h
    · rw [wc_get h, wc_get h]; simp [upd, show ¬ j = i by omega]
    · rw [List.getElem?_eq_none (by rw [wc_len]; exact h), List.getElem?_eq_none (by rw [wc_len]; exact h)]
/-- a wood that can be read -/
def RW (wv : AV) (n : Nat) (w : Nat → Nat) (H : Heap) : Prop := (∃ id ver fz ex, wv = .vec id ver 0 n 1 ∧ H[id]? = some (.row ver (wc n w) fz ex)) ∨ ∃ ex, wv = .lst 1 ex (wc n w)
theorem RW.vec {id ver n fz : Nat} {ex : Bool} {w : Nat → Nat} (h : H[id]? = some (.row ver (wc n w) fz ex)) : RW (.vec id ver 0 n 1) n w H := .inl ⟨id, ver, fz, ex, rfl, h⟩
theorem RW.lst {n : Nat} {ex : Bool} {w : Nat → Nat} : RW (.lst 1 ex (wc n w)) n w H := .inr ⟨ex, rfl⟩
theorem RW.len {wv : AV} {n : Nat} {w : Nat → Nat} (h : RW wv n w H) {H' : Heap} {K : AV → Heap → List Nat → Prop} : lenWp (some wv) H' K = K (.int .i64 (n : Int)) H' [] := by
  rcases h with ⟨id, ver, fz, ex, rfl, _⟩ | ⟨ex, rfl⟩
  · rfl
  · rw [lenWp_lst, wc_len]
theorem RW.ix {wv : AV} {n : Nat} {w : Nat → Nat} (h : RW wv n w H) {i : Nat} (hi : i < n) : ∃ p, (∀ {H' : Heap} {k : IntKind} {K : AV → Heap → List Nat → Prop}, ixaSWp 1 (some wv) (some (.int k (i : Int))) H' K = K p H' []) ∧ ∀ {s : Nat}, aload H ⟨false, s⟩ p = some (.int .u16 ((w i : Nat) : Int)) := by
  rcases h with ⟨id, ver, fz, ex, rfl, h⟩ | ⟨ex, rfl⟩
  · exact ⟨.ptr id ver i, fun {H' k K} => by simp [go_sem, hi], fun {s} => by rw [aload_ptr h, part_one, wc_get hi]⟩
  · exact ⟨.fp (.int .u16 ((w i : Nat) : Int)), fun {H' k K} => by simp [go_sem, wc_get hi], fun {s} => rfl⟩
theorem RW.mono {wv : AV} {n : Nat} {w : Nat → Nat} {H' : Heap} (h : RW wv n w H) (hH : ∀ (i : Nat) (b : Blk), H[i]? = some b → H'[i]? = some b) : RW wv n w H' := by
  rcases h with ⟨id, ver, fz, ex, rfl, h⟩ | ⟨ex, rfl⟩
  · exact .inl ⟨id, ver, fz, ex, rfl, hH _ _ h⟩
  · exact .inr ⟨ex, rfl⟩
theorem RW.app {wv : AV} {n : Nat} {w : Nat → Nat} (h : RW wv n w H) (G : Heap) : RW wv n w (H ++ G) := h.mono fun i b hb => by
  rw [List.getElem?_append_left (List.getElem?_eq_some_iff.1 hb).1]; exact hb
/-! may: the error of a tie -/
def mayS (n : Int) (p : ZZ) : Int := if ¬ (0 ≤ p.1 ∧ p.1 ≤ n - 1) ∨ ¬ (0 ≤ p.2 ∧ p.2 ≤ n - 1) then 2 else if p.1 = p.2 then 13 else 0
theorem i64_pred {n : Nat} (hn : n ≤ 9) : IntKind.i64.wrap ((n : Int) - 1) = (n : Int) - 1 := Go.IntWalk.i64_in _ (by omega)
theorem k64 {wv : AV} {n : Nat} {w : Nat → Nat} {p : ZZ} (h : RW wv n w H) (hn : n ≤ 9) (k : Q (.int .i64 (mayS n p)) H) : WpCall E pure base bar 64 [wv, .agg [.int .i64 p.1, .int .i64 p.2]] H Q := by
  rw [call64]
  have e1 := i64_pred hn
  unfold mayS at k
  by_cases h1 : 0 ≤ p.1 ∧ p.1 ≤ (n : Int) - 1
  · by_cases h2 : 0 ≤ p.2 ∧ p.2 ≤ (n : Int) - 1
    · rw [if_neg (by simp [h1, h2])] at k
      by_cases h3 : p.1 = p.2
      · rw [if_pos h3] at k
        simp [go_sem, WpFun, c64, AV.isTup, AV.cells, aload, h.len, e1, k46, h1, h2, h3]
        exact k
      · rw [if_neg h3] at k
        simp [go_sem, WpFun, c64, AV.isTup, AV.cells, aload, h.len, e1, k46, h1, h2, h3]
        exact k
    · rw [if_pos (.inr h2)] at k
      have h2' : (decide (0 ≤ p.2) && decide (p.2 ≤ (n : Int) - 1)) = false := by simpa using h2
      simp [go_sem, WpFun, c64, AV.isTup, AV.cells, aload, h.len, e1, k46, h1, h2']
      exact k
  · rw [if_pos (.inl h1)] at k
    have h1' : (decide (0 ≤ p.1) && decide (p.1 ≤ (n : Int) - 1)) = false := by simpa using h1
    simp [go_sem, WpFun, c64, AV.isTup, AV.cells, aload, h.len, e1, k46, h1']
    exact k
/-! tie -/
def tieW (w : Nat → Nat) (a b : Nat) : Nat → Nat := upd (upd w a (bxor (w a) (pw b))) b (bxor (upd w a (bxor (w a) (pw b)) b) (pw a))
theorem k65 {id ver n a b : Nat} {ex : Bool} {w : Nat → Nat} (h : H[id]? = some (.row ver (wc n w) 0 ex)) (hn : n ≤ 9) (hw : ∀ i, w i < 512) (ha : a < n) (hb : b < n) (hbar : bar ≤ id)
    (k : Q (.tup []) (H.set id (.row ver (wc n (tieW w a b)) 0 ex))) : WpCall E false base bar 65 [.vec id ver 0 n 1, .agg [.int .i64 (a : Nat), .int .i64 (b : Nat)]] H Q := by
  rw [call65]
  have hid := (List.getElem?_eq_some_iff.1 h).1
  have h1 : ∀ G, (H ++ G)[id]? = some (.row ver (wc n w) 0 ex) := fun G => by rw [List.getElem?_append_left hid]; exact h
  have e1 := shl_u16 (show b < 10 by omega)
  have e2 := shl_u16 (show a < 10 by omega)
  have e3 := xor_u16 (hw a) (pw9 (show b < 9 by omega))
  have hw' : upd w a (bxor (w a) (pw b)) b < 512 := by
    unfold upd
    split
    · exact bxor9 (hw a) (pw9 (by omega))
    · exact hw b
  have e4 := xor_u16 hw' (pw9 (show a < 9 by omega))
  have s1 : ∀ (G : Heap) b, (H ++ G).set id b = H.set id b ++ G := fun G b => List.set_append_left _ _ hid
  have s2 : ∀ (G : Heap) b, (H.set id b ++ G)[id]? = some b := fun G b => by rw [List.getElem?_append_left (by simpa using hid), List.getElem?_set_self hid]
  have s3 : ∀ (G : Heap) b, (H.set id b ++ G)[H.length]? = G[0]? := fun G b => by
    rw [show H.length = (H.set id b).length by simp, own_get0]
  have s4 : ∀ (G : Heap) b c, (H.set id b ++ G).set id c = H.set id c ++ G := fun G b c => by
    rw [List.set_append_left _ _ (by simpa using hid), List.set_set]
  have s5 : ∀ (G : Heap) b, (H.set id b ++ G).take H.length = H.set id b := fun G b => by
    rw [show H.length = (H.set id b).length by simp, List.take_left]
  have c1 : bar ≤ H.length := by omega
  have hk := k
  unfold tieW at hk
  generalize hx : bxor (w a) (pw b) = x at *
  generalize hy : bxor (upd w a x b) (pw a) = y at *
  simp [go_sem, WpFun, c65, AV.isTup, AV.cells, aload, storeWp, astore, h1, wc_get, wc_getE, wc_len, ha, hb, e1, e2, e3, hbar, wc_set, s1, s2, s3, s4, s5, e4, show a + 1 ≤ n from ha, show b + 1 ≤ n from hb]
  exact hk
end Go.Proofs.YtoipleipokpnaaaGreat.Code
end
section
namespace Go.Proofs.YtoipleipokpnaaaGreat.Code
open Go Go.Ab
variable {pure : Bool} {base bar : Nat} {H : Heap} {Q : AV → Heap → Prop}
/-! from: all knots that can be reached -/
def nextF (w : Nat → Nat) (L : List Nat) (s : Nat) : Nat := L.foldl (fun s a => bor s (w a)) s
theorem nextF_lt {w : Nat → Nat} (hw : ∀ i, w i < 512) : ∀ {L : List Nat} {s : Nat}, s < 512 → nextF w L s < 512
  | [], s, h => h
  | a :: r, s, h => nextF_lt (L := r) hw (bor9 h (hw a))
theorem nextF_bit {w : Nat → Nat} {i : Nat} : ∀ {L : List Nat} {s : Nat}, (nextF w L s).testBit i = true ↔ s.testBit i = true ∨ ∃ a ∈ L, (w a).testBit i = true
  | [], s => by simp [nextF]
  | a :: r, s => by
    have := nextF_bit (w := w) (i := i) (L := r) (s := bor s (w a))
    unfold nextF at this ⊢
    rw [List.foldl_cons, this, testBit_bor]
    simp only [Bool.or_eq_true, List.mem_cons, exists_eq_or_imp]
    exact ⟨fun h => by rcases h with (h | h) | h <;> simp [h], fun h => by rcases h with h | h | h <;> simp [h]⟩
theorem l66a {wv lv : AV} {n : Nat} {w : Nat → Nat} {L : List Nat} {all : Nat} (h : RW wv n w H) (hn : n ≤ 9) (hw : ∀ i, w i < 512) (hl : isL lv L) (hL : ∀ a ∈ L, a < n) (hlen : L.length ≤ 9) {R : PQ} :
    ∀ (k i : Nat), i + k = L.length → ∀ s, s < 512 →
    R (.exit 2) [(0, wv), (5, .int .u16 (all : Nat)), (7, .int .u16 (nextF w (L.drop i) s : Nat)), (16, lv), (17, .int .i64 (L.length : Nat)), (18, .int .i64 (L.length : Nat)), (19, .bool false)] H →
    Wp E base bar (.loop c66_l0) [(0, wv), (5, .int .u16 (all : Nat)), (7, .int .u16 (s : Nat)), (16, lv), (17, .int .i64 (L.length : Nat)), (18, .int .i64 (i : Nat))] H R := by
  intro k
  induction k with
  | zero =>
    intro i hi s hs k
    obtain rfl : i = L.length := by omega
    rw [List.drop_length] at k
    rw [wp_round c66_l0.eq_1]
    simp [go_sem]
    exact k
  | succ k ih =>
    intro i hi s hs k
    have hlt : i < L.length := by omega
    have ha := hL _ (List.getElem_mem hlt)
    obtain ⟨p, p1, p2⟩ := h.ix ha
    have e1 := or_u16 hs (hw L[i])
    rw [List.drop_eq_getElem_cons hlt] at k
    rw [wp_round c66_l0.eq_1]
    simp [go_sem, hlt, hl.ix hlt, p1, p2, e1, i64_suc (show i < 1000000 by omega)]
    exact ih (i + 1) (by omega) _ (bor9 hs (hw _)) k
/-- what can be reached: it has the knot, is closed, and is the least such -/
structure Clo (w : Nat → Nat) (k R : Nat) : Prop where
  lt : R < 512
  mem : R.testBit k = true
  closed : ∀ a b, R.testBit a = true → (w a).testBit b = true → R.testBit b = true
  least : ∀ S : Nat → Prop, S k → (∀ a b, S a → (w a).testBit b = true → S b) → ∀ a, R.testBit a = true → S a
structure Clos (w : Nat → Nat) (n k all more : Nat) : Prop where
  lt : all < 512
  lt2 : more < 512
  mem : all.testBit k = true
  sub : ∀ a, more.testBit a = true → all.testBit a = true
  closed : ∀ a b, all.testBit a = true → more.testBit a = false → (w a).testBit b = true → all.testBit b = true
  least : ∀ S : Nat → Prop, S k → (∀ a b, S a → (w a).testBit b = true → S b) → ∀ a, all.testBit a = true → S a
  inn : ∀ a, all.testBit a = true → a < n
theorem Clos.step {w : Nat → Nat} {n k all more : Nat} (h : Clos w n k all more) (hw : ∀ i, w i < 512) (hin : ∀ a b, (w a).testBit b = true → b < n) : Clos w n k (bor all (nextF w (bitsN more) 0)) (bcl (nextF w (bitsN more) 0) all) := by
  have hN := nextF_lt hw (L := bitsN more) (s := 0) (by omega)
  have hb : ∀ i, (nextF w (bitsN more) 0).testBit i = true ↔ ∃ a, more.testBit a = true ∧ (w a).testBit i = true := fun i => by
    rw [nextF_bit]
    simp only [Nat.zero_testBit, Bool.false_eq_true, false_or]
    exact ⟨fun ⟨a, h1, h2⟩ => ⟨a, (mem_bitsN h.lt2).1 h1, h2⟩, fun ⟨a, h1, h2⟩ => ⟨a, (mem_bitsN h.lt2).2 h1, h2⟩⟩
  generalize nextF w (bitsN more) 0 = N at *
  refine ⟨bor9 h.lt hN, bcl9 hN, by rw [testBit_bor, h.mem]; rfl, fun a ha => ?_, fun a b ha hm hwb => ?_, fun S s1 s2 a ha => ?_, fun a ha => ?_⟩
  · rw [testBit_bcl hN] at ha
    rw [testBit_bor]
    simp only [Bool.and_eq_true] at ha
    rw [ha.1]; simp
  · rw [testBit_bor, Bool.or_eq_true] at ha ⊢
    rw [testBit_bcl hN] at hm
    by_cases hall : all.testBit a = true
    · by_cases hmo : more.testBit a = true
      · exact .inr ((hb b).2 ⟨a, hmo, hwb⟩)
      · exact .inl (h.closed a b hall (by simpa using hmo) hwb)
    · rcases ha with ha | ha
      · exact absurd ha hall
      · rw [ha] at hm; simp at hm; exact absurd hm hall
  · rw [testBit_bor, Bool.or_eq_true] at ha
    rcases ha with ha | ha
    · exact h.least S s1 s2 a ha
    · obtain ⟨c, h1, h2⟩ := (hb a).1 ha
      exact s2 c a (h.least S s1 s2 c (h.sub c h1)) h2
  · rw [testBit_bor, Bool.or_eq_true] at ha
    rcases ha with ha | ha
    · exact h.inn a ha
    · obtain ⟨c, _, h2⟩ := (hb a).1 ha
      exact hin c a h2
theorem Clos.done {w : Nat → Nat} {n k all : Nat} (h : Clos w n k all 0) : Clo w k all := ⟨h.lt, h.mem, fun a b h1 h2 => h.closed a b h1 (by simp) h2, h.least⟩
theorem bor_grow {a b : Nat} (ha : a < 512) (hb : b < 512) (h : bcl b a ≠ 0) : a < bor a b := by
  have h1 : a ≤ bor a b := Nat.left_le_or
  rcases Nat.lt_or_ge a (bor a b) with h2 | h2
  · exact h2
  · exfalso
    apply h
    have e : bor a b = a := Nat.le_antisymm h2 h1
    apply Nat.eq_of_testBit_eq
    intro i
    rw [testBit_bcl hb, Nat.zero_testBit]
    have : (bor a b).testBit i = a.testBit i := by rw [e]
    rw [testBit_bor] at this
    cases h3 : b.testBit i <;> cases h4 : a.testBit i <;> simp_all
theorem l66 {wv : AV} {n k0 : Nat} {w : Nat → Nat} (hn : n ≤ 9) (hw : ∀ i, w i < 512) (hin : ∀ a b, (w a).testBit b = true → b < n) {R : PQ} :
    ∀ (f all more : Nat) (H : Heap), bar ≤ H.length → RW wv n w H → Clos w n k0 all more → (512 - all) * 2 + (if more = 0 then 0 else 1) ≤ f →
    (∀ all' fr, Clo w k0 all' → fr = [(0, wv), (5, AV.int .u16 (all' : Nat)), (6, .int .u16 0), (14, .bool false)] → R (.exit 0) fr H) →
    Wp E base bar (.loop c66_l1) [(0, wv), (5, .int .u16 (all : Nat)), (6, .int .u16 (more : Nat))] H R := by
  intro f
  induction f with
  | zero =>
    intro all more H hb h hc hf k
    have := hc.lt
    omega
  | succ f ih =>
    intro all more H hb h hc hf k
    have hal := hc.lt
    rw [wp_round c66_l1.eq_1]
    by_cases hm : more = 0
    · subst hm
      have kk := k all _ hc.done rfl
      simp [go_sem]
      exact kk
    · have hst := hc.step hw hin
      have hN := nextF_lt hw (L := bitsN more) (s := 0) (by omega)
      have hLn : ∀ a ∈ bitsN more, a < n := fun a ha => hc.inn a (hc.sub a ((mem_bitsN hc.lt2).1 ha))
      have e1 := andNot_u16 hN hc.lt
      have e2 := or_u16 hc.lt hN
      have hfuel : (512 - bor all (nextF w (bitsN more) 0)) * 2 + (if bcl (nextF w (bitsN more) 0) all = 0 then 0 else 1) ≤ f := by
        rw [if_neg hm] at hf
        split
        · have : all ≤ bor all (nextF w (bitsN more) 0) := Nat.left_le_or
          omega
        · rename_i hne
          have := bor_grow hc.lt hN hne
          have := hst.lt
          omega
      have hnext := fun k => ih _ _ H hb h hst hfuel k
      have hm' : ¬ ((more : Nat) : Int) = 0 := by omega
      simp [go_sem, hm', hm]
      refine k74 hc.lt2 hb ?_
      have hout : isL (outL 1 (nats (bitsN more))) (bitsN more) := isL.out
      simp [go_sem, hout.len]
      refine l66a (s := 0) h hn hw hout hLn bitsN_len (bitsN more).length 0 (by omega) (by omega) ?_
      rw [List.drop_zero]
      generalize nextF w (bitsN more) 0 = N at *
      simp [go_sem, e1, e2]
      exact hnext k
theorem k66 {wv : AV} {n k0 : Nat} {w : Nat → Nat} (h : RW wv n w H) (hn : n ≤ 9) (hk : k0 < n) (hw : ∀ i, w i < 512) (hin : ∀ a b, (w a).testBit b = true → b < n) (hb : bar ≤ H.length) (k : ∀ R, Clo w k0 R → Q (.int .u16 (R : Nat)) H) :
    WpCall E pure base bar 66 [wv, .int .i64 (k0 : Nat)] H Q := by
  rw [call66]
  have e1 := shl_u16 (show k0 < 10 by omega)
  have hb' := bar_if (pure := pure) hb
  have hc : Clos w n k0 (pw k0) (pw k0) := ⟨pw9 (by omega), pw9 (by omega), by rw [testBit_pw]; simp, fun a h => h, fun a b h1 h2 => (by rw [h1] at h2; cases h2), fun S s1 _ a ha => by rw [testBit_pw] at ha; simp at ha; rw [← ha]; exact s1, fun a ha => by rw [testBit_pw] at ha; simp at ha; omega⟩
  simp [go_sem, WpFun, c66, e1]
  refine l66 hn hw hin 2000 _ _ H hb' h hc ?_ fun all' fr hall hfr => ?_
  · split <;> omega
  · subst hfr
    simp [go_sem]
    exact k all' hall
end Go.Proofs.YtoipleipokpnaaaGreat.Code
end
section
namespace Go.Proofs.YtoipleipokpnaaaGreat.Code
open Go Go.Ab
variable {pure : Bool} {base bar : Nat} {H : Heap} {Q : AV → Heap → Prop}
/-- two knots are tied -/
def tieB (l : List ZZ) (x y : Nat) : Bool := l.any fun p => (p.1 == (x : Int) && p.2 == (y : Int)) || (p.1 == (y : Int) && p.2 == (x : Int))
theorem tieB_nil {x y : Nat} : tieB [] x y = false := rfl
theorem tieB_snoc {l : List ZZ} {p : ZZ} {x y : Nat} : tieB (l ++ [p]) x y = (tieB l x y || ((p.1 == (x : Int) && p.2 == (y : Int)) || (p.1 == (y : Int) && p.2 == (x : Int)))) := by simp [tieB]
theorem tieB_symm {l : List ZZ} {x y : Nat} : tieB l x y = tieB l y x := by
  unfold tieB
  congr 1; funext p
  rw [Bool.or_comm]
theorem tieB_iff {l : List ZZ} {x y : Nat} : tieB l x y = true ↔ ((x : Int), (y : Int)) ∈ l ∨ ((y : Int), (x : Int)) ∈ l := by
  unfold tieB
  rw [List.any_eq_true]
  constructor
  · rintro ⟨⟨a, b⟩, h, hp⟩
    simp only [Bool.or_eq_true, Bool.and_eq_true, beq_iff_eq] at hp
    rcases hp with ⟨rfl, rfl⟩ | ⟨rfl, rfl⟩
    · exact .inl h
    · exact .inr h
  · rintro (h | h)
    · exact ⟨_, h, by simp⟩
    · exact ⟨_, h, by simp⟩
def okP (n : Int) (p : ZZ) : Prop := 0 ≤ p.1 ∧ 0 ≤ p.2 ∧ p.1 < n ∧ p.2 < n ∧ p.1 ≠ p.2
theorem mayS_ok {n : Int} {p : ZZ} : mayS n p = 0 ↔ okP n p := by
  unfold mayS okP
  split
  · rename_i h
    constructor
    · intro e; omega
    · intro e; omega
  · rename_i h
    split
    · rename_i h2
      constructor
      · intro e; omega
      · intro e; omega
    · rename_i h2
      constructor
      · intro e; omega
      · intro e; rfl
/-- the error of ties, one after the other -/
def errL (n : Int) (b : List ZZ) : List ZZ → Int
  | [] => 0
  | p :: r => if mayS n p ≠ 0 then mayS n p else if tieB b p.1.toNat p.2.toNat then 6 else errL n (b ++ [p]) r
/-- masks that tell ties -/
structure Wd (n : Nat) (b : List ZZ) (w : Nat → Nat) : Prop where
  lt : ∀ i, w i < 512
  bit : ∀ x y, (w x).testBit y = tieB b x y
  val : ∀ p ∈ b, okP n p
theorem Wd.nil {n : Nat} : Wd n [] (fun _ => 0) := ⟨fun _ => by simp, fun x y => by simp [tieB], fun p hp => by cases hp⟩
theorem Wd.inn {n : Nat} {b : List ZZ} {w : Nat → Nat} (h : Wd n b w) : ∀ x y, (w x).testBit y = true → x < n ∧ y < n ∧ x ≠ y := fun x y hxy => by
  rw [h.bit, tieB_iff] at hxy
  rcases hxy with h1 | h1
  · obtain ⟨_, _, h2, h3, h4⟩ := h.val _ h1
    simp only at h2 h3 h4; omega
  · obtain ⟨_, _, h2, h3, h4⟩ := h.val _ h1
    simp only at h2 h3 h4; omega
theorem Wd.tie {n a c : Nat} {b : List ZZ} {w : Nat → Nat} (h : Wd n b w) (hn : n ≤ 9) (ha : a < n) (hc : c < n) (hne : a ≠ c) (ht : tieB b a c = false) : Wd n (b ++ [((a : Int), (c : Int))]) (tieW w a c) := by
  have h1 : (w a).testBit c = false := by rw [h.bit]; exact ht
  have h2 : (w c).testBit a = false := by rw [h.bit, tieB_symm]; exact ht
  have hca : upd w a (bxor (w a) (pw c)) c = w c := by unfold upd; rw [if_neg (fun e => hne e.symm)]
  refine ⟨fun i => ?_, fun x y => ?_, fun p hp => ?_⟩
  · unfold tieW
    rw [hca]
    unfold upd
    split
    · exact bxor9 (h.lt c) (pw9 (by omega))
    · split
      · exact bxor9 (h.lt a) (pw9 (by omega))
      · exact h.lt i
  · rw [tieB_snoc, ← h.bit]
    unfold tieW
    rw [hca]
    simp only [upd]
    by_cases hxc : x = c
    · subst hxc
      rw [if_pos rfl, testBit_bxor, testBit_pw]
      by_cases hya : a = y
      · subst hya
        rw [h2]; simp
      · have e1 : ((a : Int) == (y : Int)) = false := by simpa using fun e => hya (by omega)
        have e2 : ((a : Int) == (x : Int)) = false := by simpa using fun e => hne (by omega)
        simp [hya, e1, e2]
    · rw [if_neg hxc]
      by_cases hxa : x = a
      · subst hxa
        rw [if_pos rfl, testBit_bxor, testBit_pw]
        by_cases hyc : c = y
        · subst hyc
          rw [h1]; simp
        · have e1 : ((c : Int) == (y : Int)) = false := by simpa using fun e => hyc (by omega)
          have e2 : ((c : Int) == (x : Int)) = false := by simpa using fun e => hxc (by omega)
          simp [hyc, e1, e2]
      · rw [if_neg hxa]
        have e1 : ((a : Int) == (x : Int)) = false := by simpa using fun e => hxa (by omega)
        have e2 : ((c : Int) == (x : Int)) = false := by simpa using fun e => hxc (by omega)
        simp [e1, e2]
  · rcases List.mem_append.1 hp with hp | hp
    · exact h.val p hp
    · rw [List.mem_singleton] at hp; subst hp
      exact ⟨by simp, by simp, by simp only; omega, by simp only; omega, by simp only; omega⟩
/-- a knot can be reached -/
inductive Rch (f : Nat → Nat → Bool) : Nat → Nat → Prop
  | refl (x : Nat) : Rch f x x
  | step {x y z : Nat} (h : Rch f x y) (hf : f y z = true) : Rch f x z
def Conn (n : Nat) (l : List ZZ) : Prop := ∀ x, x < n → Rch (tieB l) 0 x
theorem Clo.rch {n k R : Nat} {b : List ZZ} {w : Nat → Nat} (h : Clo w k R) (hw : Wd n b w) {x : Nat} : R.testBit x = true ↔ Rch (tieB b) k x := by
  constructor
  · intro hx
    refine h.least (Rch (tieB b) k) (.refl k) (fun a c ha hc => .step ha ?_) x hx
    rw [← hw.bit]; exact hc
  · intro hx
    induction hx with
    | refl => exact h.mem
    | step h1 h2 ih => exact h.closed _ _ ih (by rw [hw.bit]; exact h2)
theorem full_iff {n R : Nat} (h : ∀ x, R.testBit x = true → x < n) : R = pw n - 1 ↔ ∀ x, x < n → R.testBit x = true := by
  constructor
  · rintro rfl x hx
    unfold pw
    rw [Nat.testBit_two_pow_sub_one]; simpa using hx
  · intro hall
    apply Nat.eq_of_testBit_eq
    intro i
    unfold pw
    rw [Nat.testBit_two_pow_sub_one]
    cases hb : R.testBit i with
    | true => simpa using h i hb
    | false =>
      symm
      rw [decide_eq_false_iff_not]
      intro hi
      rw [hall i hi] at hb; cases hb
theorem Clo.full {n R : Nat} {b : List ZZ} {w : Nat → Nat} (hn : 1 ≤ n) (h : Clo w 0 R) (hw : Wd n b w) : R = pw n - 1 ↔ Conn n b := by
  rw [full_iff fun x hx => ?_]
  · exact ⟨fun hh x hx => (h.rch hw).1 (hh x hx), fun hh x hx => (h.rch hw).2 (hh x hx)⟩
  · have := (h.rch hw).1 hx
    cases this with
    | refl => omega
    | step h1 h2 =>
      rw [← hw.bit] at h2
      exact (hw.inn _ _ h2).2.1
end Go.Proofs.YtoipleipokpnaaaGreat.Code
end
section
namespace Go.Proofs.YtoipleipokpnaaaGreat.Code
open Go Go.Ab
variable {pure : Bool} {base bar : Nat} {H : Heap} {Q : AV → Heap → Prop}
theorem l55 {n : Nat} {q : AV} {l : List ZZ} (hq : isP q l) (hl : l.length < 1000) (hn : n ≤ 9) (hbar : bar ≤ H.length) {R : PQ} :
    ∀ (k i : Nat), i + k = l.length → ∀ (w : Nat → Nat), Wd n (l.take i) w →
    (∀ G, errL n (l.take i) (l.drop i) ≠ 0 → R .ret [(2, .nils), (3, .int .i64 (errL n (l.take i) (l.drop i)))] (H ++ G)) →
    (∀ w', Wd n l w' → errL n (l.take i) (l.drop i) = 0 → R (.exit 0) [(1, .ptr H.length 0 0), (4, .vec (H.length + 1) 0 0 n 1), (16, q), (17, .int .i64 (l.length : Nat)), (18, .int .i64 (l.length : Nat)), (19, .bool false)]
      (H ++ [.row 0 [.int .i64 (n : Nat), q] 0 true, .row 0 (wc n w') 0 true])) →
    Wp E H.length bar (.loop c55_l0) [(1, .ptr H.length 0 0), (4, .vec (H.length + 1) 0 0 n 1), (16, q), (17, .int .i64 (l.length : Nat)), (18, .int .i64 (i : Nat))]
      (H ++ [.row 0 [.int .i64 (n : Nat), q] 0 true, .row 0 (wc n w) 0 true]) R := by
  intro k
  induction k with
  | zero =>
    intro i hi w hw h1 h2
    obtain rfl : i = l.length := by omega
    rw [List.take_length] at hw h2
    rw [List.drop_length] at h2
    rw [wp_round c55_l0.eq_1]
    simp [go_sem]
    exact h2 w hw rfl
  | succ k ih =>
    intro i hi w hw h1 h2
    have hlt : i < l.length := by omega
    have htk : l.take (i + 1) = l.take i ++ [l[i]] := by rw [List.take_add_one, List.getElem?_eq_getElem hlt]; rfl
    rw [List.drop_eq_getElem_cons hlt] at h1 h2
    obtain ⟨p, hp⟩ : ∃ p, l[i] = p := ⟨_, rfl⟩
    rw [hp] at h1 h2 htk
    have hnext := ih (i + 1) (by omega)
    rw [htk] at hnext
    have hix := fun (H : Heap) (K : AV → Heap → List Nat → Prop) => hq.ix (H := H) (K := K) (k := .i64) hlt
    simp only [hp, zc] at hix
    have c1 : bar ≤ H.length + 2 := by omega
    simp only [errL] at h1 h2
    have hrw : ∀ G, RW (.vec (H.length + 1) 0 0 n 1) n w (H ++ (.row 0 [.int .i64 (n : Nat), q] 0 true :: .row 0 (wc n w) 0 true :: G)) := fun G => RW.vec (fz := 0) (ex := true) (by simp [own_get])
    rw [wp_round c55_l0.eq_1]
    simp [go_sem, hlt, hix, aload, storeWp, astore, AV.isTup, AV.cells, c1]
    refine k64 (hrw _) hn ?_
    by_cases hm : mayS n p = 0
    · simp only [hm, ne_eq, not_true_eq_false, if_false] at h1 h2
      have hok := mayS_ok.1 hm
      obtain ⟨a, c⟩ := p
      obtain ⟨q1, q2, q3, q4, q5⟩ := hok
      simp only at q1 q2 q3 q4 q5
      obtain ⟨a, rfl⟩ := Int.eq_ofNat_of_zero_le q1
      obtain ⟨c, rfl⟩ := Int.eq_ofNat_of_zero_le q2
      simp only [Int.toNat_natCast] at h1 h2
      have ha : a < n := by omega
      have hc : c < n := by omega
      have hbit := hw.bit a c
      obtain ⟨pp, p1, p2⟩ := (hrw [.row 0 [.int .i64 (a : Nat), .int .i64 (c : Nat)] 0 true]).ix ha
      simp [go_sem, hm, aload, wc_getE, wc_len, ha]
      simp only [k67 (hw.lt a) (show c < 9 by omega)]
      rw [hbit]
      cases ht : tieB (l.take i) a c with
      | true =>
        simp only [ht, if_true] at h1
        simp [go_sem, aload]
        exact h1 _ (by decide)
      | false =>
        simp only [ht, Bool.false_eq_true, if_false] at h1 h2
        have hw' := hw.tie hn ha hc (by omega) ht
        simp [go_sem, aload]
        refine k65 (ex := true) (by simp [own_get]) hn hw.lt ha hc (by omega) ?_
        simp [go_sem, hq.top, i64_suc (show i < 1000000 by omega)]
        exact hnext _ hw' h1 h2
    · simp only [hm, ne_eq, not_false_eq_true, if_true] at h1
      simp [go_sem, hm, aload]
      exact h1 _ trivial
open Classical in
/-- the error of a tree -/
noncomputable def errT (n : Int) (l : List ZZ) : Int :=
  if ¬ (1 ≤ n ∧ n ≤ 9) then 1 else if errL n [] l ≠ 0 then errL n [] l else if n ≤ l.length then 3 else if Conn n.toNat l then 0 else 21
theorem noVecs_plainW {n : Nat} {w : Nat → Nat} : AV.noVec.noVecs (wc n w) = true := by
  have : ∀ l : List AV, (∀ x ∈ l, x.noVec = true) → AV.noVec.noVecs l = true := by
    intro l
    induction l with
    | nil => intro _; rfl
    | cons x r ih => intro h; simp only [AV.noVec.noVecs, h x (List.mem_cons_self ..), ih fun y hy => h y (List.mem_cons_of_mem _ hy), Bool.and_self]
  refine this _ fun x hx => ?_
  simp only [wc, List.mem_map] at hx
  obtain ⟨a, _, rfl⟩ := hx; rfl
theorem k55 {n : Int} {q : AV} {l : List ZZ} (hq : isP q l) (hl : l.length < 1000) (hbar : bar ≤ H.length)
    (h1 : ∀ G, errT n l ≠ 0 → Q (.tup [.nils, .int .i64 (errT n l)]) (H ++ G))
    (h2 : ∀ (m : Nat) w, n = m → 1 ≤ m → m ≤ 9 → Wd m l w → errT n l = 0 → Q (.tup [.vec (H.length + 1) 0 0 m 1, .int .i64 0]) (H ++ [.row 0 [.int .i64 (m : Nat), q] 0 true, .row 0 (wc m w) 0 true])) :
    WpCall E pure base bar 55 [.agg [.int .i64 n, q]] H Q := by
  rw [call55]
  have e0 : frzAll bar H [.agg [.int .i64 n, q]] = some ([.agg [.int .i64 n, q]], H) := by simp [frzAll, frz.frzs, frzsW, frz_agg, frz_int, hq.frz]
  rw [e0]
  have hb' := bar_if (pure := pure) hbar
  by_cases hr : 1 ≤ n ∧ n ≤ 9
  · obtain ⟨m, rfl⟩ := Int.eq_ofNat_of_zero_le (show 0 ≤ n by omega)
    have hm1 : 1 ≤ m := by omega
    have hm9 : m ≤ 9 := by omega
    have hr' : (decide (1 ≤ (m : Int)) && decide ((m : Int) ≤ 9)) = true := by simp; omega
    have hz : List.flatten (List.replicate m [AV.int IntKind.u16 0]) = wc m fun _ => 0 := by
      simp [wc, List.flatten_replicate_singleton, List.map_const']
    have hlen := fun (H : Heap) (K : AV → Heap → List Nat → Prop) => hq.len (H := H) (K := K)
    have hbd : m * 2 ≤ 140737488355328 := by omega
    simp [go_sem, WpFun, c55, hq.isTup, hq.cells, aload, k46, hr', aop, AV.asNat, hz, hbd, hlen]
    refine l55 hq hl hm9 hb' l.length 0 (by omega) _ (by rw [List.take_zero]; exact Wd.nil) (fun G he => ?_) (fun w hw he => ?_)
    · rw [List.take_zero, List.drop_zero] at he ⊢
      have e : errT (m : Int) l = errL m [] l := by unfold errT; rw [if_neg (by simp [hr]), if_pos he]
      have hh := h1
      rw [e] at hh
      simp [go_sem]
      exact hh G he
    · rw [List.take_zero, List.drop_zero] at he
      by_cases hml : (m : Int) ≤ l.length
      · have e : errT (m : Int) l = 3 := by unfold errT; rw [if_neg (by simp [hr]), if_neg (by simpa using he), if_pos hml]
        have hh := h1
        rw [e] at hh
        simp [go_sem, aload, hlen, hml]
        exact hh _ (by decide)
      · have hml' : ¬ m ≤ l.length := by omega
        simp [go_sem, aload, hlen, hml']
        refine k66 (k0 := 0) (n := m) (w := w) (RW.vec (fz := 0) (ex := true) (by simp)) hm9 (by omega) hw.lt (fun a b h => (hw.inn a b h).2.1) (Nat.le_trans hb' (by simp)) fun R hR => ?_
        have nv : AV.noVec.noVecs (wc m w) = true := noVecs_plainW
        have e1 := shl_u16 (show m < 10 by omega)
        have hpw : pw m ≤ 512 := (by decide : ∀ m, m ≤ 9 → pw m ≤ 512) m hm9
        have hpw1 : 1 ≤ pw m := (by decide : ∀ m, m ≤ 9 → 1 ≤ pw m) m hm9
        have e2 : IntKind.u16.wrap (((pw m : Nat) : Int) - 1) = ((pw m - 1 : Nat) : Int) := by
          rw [Go.IntWalk.u16_in _ (by omega)]; omega
        have hfull := hR.full hm1 hw
        by_cases hc : Conn m l
        · have hRe : R = pw m - 1 := hfull.2 hc
          have e : errT (m : Int) l = 0 := by unfold errT; rw [if_neg (by simp [hr]), if_neg (by simpa using he), if_neg hml, if_pos (by simpa using hc)]
          have hh := h2 m w rfl hm1 hm9 hw e
          rw [hRe]
          generalize pw m = P at *
          generalize P - 1 = P1 at *
          simp [go_sem, aload, nv, flatV, idsV, e1, e2]
          exact hh
        · have hRe : ¬ R = pw m - 1 := fun e => hc (hfull.1 e)
          have e : errT (m : Int) l = 21 := by unfold errT; rw [if_neg (by simp [hr]), if_neg (by simpa using he), if_neg hml, if_neg (by simpa using hc)]
          have hh := h1
          rw [e] at hh
          generalize pw m = P at *
          generalize P - 1 = P1 at *
          have hRe' : ¬ (R : Int) = (P1 : Int) := by omega
          simp [go_sem, aload, nv, flatV, idsV, e1, e2, hRe, hRe']
          exact hh _ (by decide)
  · have hr' : (decide (1 ≤ n) && decide (n ≤ 9)) = false := by simpa using hr
    have e : errT n l = 1 := by unfold errT; rw [if_pos hr]
    have hh := h1
    rw [e] at hh
    simp [go_sem, WpFun, c55, hq.isTup, hq.cells, aload, k46, hr']
    exact hh _ (by decide)
end Go.Proofs.YtoipleipokpnaaaGreat.Code
end
section
namespace Go.Proofs.YtoipleipokpnaaaGreat.Code
open Go Go.Ab
variable {pure : Bool} {base bar : Nat} {H : Heap} {Q : AV → Heap → Prop}
theorem eqWp_flat2 {neg : Bool} {k1 k2 : IntKind} {a b c d : Int} {K : AV → Heap → List Nat → Prop} :
    eqWp neg (.flat [false, false]) (some (.agg [.int k1 a, .int k2 b])) (some (.agg [.int k1 c, .int k2 d])) H K = K (.bool (if neg then !((a == c) && (b == d)) else ((a == c) && (b == d)))) H [] := by
  rw [eqWp_def]
  simp only [aeq, eqCells, eqCell, if_true]
  by_cases h : a = c
  · subst h; simp; cases (b == d) <;> simp
  · have : (a == c) = false := by simpa using h
    simp [this]
end Go.Proofs.YtoipleipokpnaaaGreat.Code
end
section
namespace Go.Proofs.YtoipleipokpnaaaGreat.Code
open Go Go.Ab
variable {pure : Bool} {base bar : Nat} {H : Heap} {Q : AV → Heap → Prop}
/-! the reference: distances -/
def dc (n : Nat) (D : Nat → Int) : List AV := (List.range n).map fun a => .int .i64 (D a)
theorem dc_len {n : Nat} {D : Nat → Int} : (dc n D).length = n := by simp [dc]
theorem dc_get {n i : Nat} {D : Nat → Int} (hi : i < n) : (dc n D)[i]? = some (.int .i64 (D i)) := by simp [dc, hi]
theorem dc_getE {n i : Nat} {D : Nat → Int} (h : i < (dc n D).length) : (dc n D)[i]'h = .int .i64 (D i) := by simp [dc]
theorem dc_plain {n : Nat} {D : Nat → Int} : ∀ c ∈ dc n D, Plain c := fun c hc => by
  simp only [dc, List.mem_map] at hc
  obtain ⟨a, _, rfl⟩ := hc; exact Plain.int
theorem dc_tops {n : Nat} {D : Nat → Int} : AV.top.tops (dc n D) = 0 := tops_zero fun x hx => by
  simp only [dc, List.mem_map] at hx
  obtain ⟨a, _, rfl⟩ := hx; rfl
def updZ (D : Nat → Int) (i : Nat) (x : Int) : Nat → Int := fun j => if j = i then x else D j
theorem dc_set {n i : Nat} {x : Int} {D : Nat → Int} (hi : i < n) : setCells (dc n D) i [.int .i64 x] = dc n (updZ D i x) := by
  simp only [setCells]
  apply List.ext_getElem?
  intro j
  rw [List.getElem?_set]
  by_cases hj : i = j
  · subst hj
    rw [if_pos rfl, if_pos (by rw [dc_len]; exact hi), dc_get hi]; simp [updZ]
  · rw [if_neg hj]
    rcases Nat.lt_or_ge j n with h | h
    · rw [dc_get h, dc_get h]; simp [updZ, show ¬ j = i by omega]
    · rw [List.getElem?_eq_none (by rw [dc_len]; exact h), List.getElem?_eq_none (by rw [dc_len]; exact h)]
end Go.Proofs.YtoipleipokpnaaaGreat.Code
end
section
namespace Go.Proofs.YtoipleipokpnaaaGreat.Code
open Go Go.Ab
def cnt (n : Nat) (D : Nat → Int) : Nat := ((List.range n).filter fun x => decide (0 ≤ D x)).length
end Go.Proofs.YtoipleipokpnaaaGreat.Code
end
section
namespace Go.Proofs.YtoipleipokpnaaaGreat.Code
open Go Go.Ab
variable {pure : Bool} {base bar : Nat} {H : Heap} {Q : AV → Heap → Prop}
end Go.Proofs.YtoipleipokpnaaaGreat.Code
end
section
namespace Go.Proofs.YtoipleipokpnaaaGreat.Code
open Go Go.Ab
variable {pure : Bool} {base bar : Nat} {H : Heap} {Q : AV → Heap → Prop}
/-! tidy trees -/
def rowT (f : Nat → Nat → Bool) (a : Nat) : List ZZ := ((List.range 9).filter fun b => f a b && decide (a < b)).map fun b : Nat => ((a : Int), (b : Int))
def tidyF (f : Nat → Nat → Bool) (n : Nat) : List ZZ := (List.range n).flatMap (rowT f)
theorem rowT_len {f : Nat → Nat → Bool} {a : Nat} : (rowT f a).length ≤ 9 := by
  unfold rowT
  rw [List.length_map]
  exact Nat.le_trans (List.length_filter_le _ _) (by simp)
theorem tidyF_suc {f : Nat → Nat → Bool} {n : Nat} : tidyF f (n + 1) = tidyF f n ++ rowT f n := by simp [tidyF, List.range_succ]
theorem tidyF_len {f : Nat → Nat → Bool} : ∀ {n : Nat}, (tidyF f n).length ≤ 9 * n
  | 0 => by simp [tidyF]
  | n + 1 => by
    rw [tidyF_suc, List.length_append]
    have := tidyF_len (f := f) (n := n)
    have := rowT_len (f := f) (a := n)
    omega
/-- a tree under construction -/
def TrG (G : Heap) (n : Nat) (acc : List ZZ) (v : AV) (H : Heap) : Prop := Grow 2 (prs acc) (G ++ [.row 0 [.int .i64 (n : Nat), v] 0 true]) v H
theorem TrG.get {G : Heap} {n : Nat} {acc : List ZZ} {v : AV} (g : TrG G n acc v H) : H[G.length]? = some (.row 0 [.int .i64 (n : Nat), v] 0 true) := Grow.get g (by simp)
theorem TrG.old {G : Heap} {n i : Nat} {b : Blk} {acc : List ZZ} {v : AV} (g : TrG G n acc v H) (h : G[i]? = some b) : H[i]? = some b := Grow.get g (by rw [List.getElem?_append_left (List.getElem?_eq_some_iff.1 h).1]; exact h)
theorem TrG.nil {G : Heap} {n : Nat} : TrG G n [] .nils (G ++ [.row 0 [.int .i64 (n : Nat), .nils] 0 true]) := by
  unfold TrG; simpa [prs] using Grow.nil
theorem TrG.glen {G : Heap} {n : Nat} {acc : List ZZ} {v : AV} (g : TrG G n acc v H) : G.length + 1 ≤ H.length := by
  have := Grow.len g
  rw [List.length_append, List.length_singleton] at this
  exact this
theorem Grow.one {sz : Nat} {cs : List AV} {H0 : Heap} {v : AV} (g : Grow sz cs H0 v H) : v.isTup = false ∧ v.cells = [v] := by
  rcases g with ⟨rfl, rfl, rfl⟩ | ⟨ver, fz, h1, h2, rfl, rfl⟩ <;> exact ⟨rfl, rfl⟩
theorem TrG.add {G : Heap} {n : Nat} {acc : List ZZ} {v : AV} {p : ZZ} {ex : Bool} {K : AV → Heap → List Nat → Prop} (g : TrG G n acc v H) (hb : bar ≤ G.length) (hbase : base ≤ G.length) (hlen : acc.length < 1000)
    (h : ∀ v' H' tc, H'[G.length]? = some (.row 0 [.int .i64 (n : Nat), v] 0 true) → v'.isTup = false → v'.cells = [v'] → TrG G n (acc ++ [p]) v' (H'.set G.length (.row 0 [.int .i64 (n : Nat), v'] 0 true)) → K v' H' tc) :
    appWp base bar 2 16 (some v) (some (.lst 2 ex [.agg [.int .i64 p.1, .int .i64 p.2]])) H K := by
  refine Grow.pair g (by simp; omega) (by simp; omega) (by omega) fun v' H' tc g' => h v' H' tc (Grow.get g' (by simp)) (Grow.one g').1 (Grow.one g').2 ?_
  have := Grow.set g' (i := G.length) (b := .row 0 [.int .i64 (n : Nat), v'] 0 true) (by simp)
  rw [own_set0] at this
  exact this
theorem l49a {a n : Nat} {G : Heap} {Lv wv t2 : AV} {L : List Nat} (hL : isL Lv L) (h9 : L.length ≤ 9) (hbar : bar ≤ G.length) (hbase : base ≤ G.length) {R : PQ} :
    ∀ (k i : Nat), i + k = L.length → ∀ (acc : List ZZ) (v : AV) (H : Heap), TrG G n acc v H → acc.length + k < 1000 →
    (∀ v' H', TrG G n (acc ++ ((L.drop i).filter fun b => decide (a < b)).map fun b : Nat => ((a : Int), (b : Int))) v' H' →
      R (.exit 2) [(2, t2), (3, .ptr G.length 0 0), (11, wv), (12, .int .i64 (n : Nat)), (13, .int .i64 (a : Nat)), (4, .int .i64 (a : Nat)), (19, Lv), (20, .int .i64 (L.length : Nat)), (21, .int .i64 (L.length : Nat)), (22, .bool false)] H') →
    Wp E base bar (.loop c49_l0) [(2, t2), (3, .ptr G.length 0 0), (11, wv), (12, .int .i64 (n : Nat)), (13, .int .i64 (a : Nat)), (4, .int .i64 (a : Nat)), (19, Lv), (20, .int .i64 (L.length : Nat)), (21, .int .i64 (i : Nat))] H R := by
  intro k
  induction k with
  | zero =>
    intro i hi acc v H g hlen h
    obtain rfl : i = L.length := by omega
    rw [List.drop_length] at h
    simp only [List.filter_nil, List.map_nil, List.append_nil] at h
    rw [wp_round c49_l0.eq_1]
    simp [go_sem]
    exact h v H g
  | succ k ih =>
    intro i hi acc v H g hlen h
    have hlt : i < L.length := by omega
    rw [List.drop_eq_getElem_cons hlt, List.filter_cons] at h
    have hix := fun (H : Heap) (K : AV → Heap → List Nat → Prop) => hL.ix (H := H) (K := K) (k := .i64) hlt
    generalize L[i] = b at *
    have hget := g.get
    rw [wp_round c49_l0.eq_1]
    by_cases hab : a < b
    · simp only [hab, decide_true, if_true, List.map_cons] at h
      simp [go_sem, hlt, hix, aload, hab, hget, aop, fillA, setCells, AV.cells, chunks]
      refine g.add (p := ((a : Int), (b : Int))) hbar hbase (by omega) fun v' H' tc hg hv1 hv2 g' => ?_
      simp [go_sem, storeWp, astore, hv1, hv2, setCells, hg, hbar, hbase, i64_suc (show i < 1000000 by omega)]
      refine ih (i + 1) (by omega) _ v' _ g' (by simp; omega) fun v'' H'' g'' => h v'' H'' ?_
      simpa using g''
    · simp only [hab, decide_false, Bool.false_eq_true, if_false] at h
      simp [go_sem, hlt, hix, aload, hab, i64_suc (show i < 1000000 by omega)]
      exact ih (i + 1) (by omega) acc v H g (by omega) h
theorem l49b {n : Nat} {G : Heap} {t2 : AV} {ex : Bool} {w : Nat → Nat} (hw : ∀ i, w i < 512) (hn : n ≤ 9) (hbar : bar ≤ G.length) (hbase : base ≤ G.length) {R : PQ} :
    ∀ (k i : Nat), i + k = n → ∀ (v : AV) (H : Heap), TrG G n (tidyF (fun a b => (w a).testBit b) i) v H →
    (∀ v' H', TrG G n (tidyF (fun a b => (w a).testBit b) n) v' H' →
      R (.exit 0) [(2, t2), (3, .ptr G.length 0 0), (11, .lst 1 ex (wc n w)), (12, .int .i64 (n : Nat)), (13, .int .i64 (n : Nat)), (14, .bool false)] H') →
    Wp E base bar (.loop c49_l1) [(2, t2), (3, .ptr G.length 0 0), (11, .lst 1 ex (wc n w)), (12, .int .i64 (n : Nat)), (13, .int .i64 (i : Nat))] H R := by
  intro k
  induction k with
  | zero =>
    intro i hi v H g h
    obtain rfl : i = n := by omega
    rw [wp_round c49_l1.eq_1]
    simp [go_sem]
    exact h v H g
  | succ k ih =>
    intro i hi v H g h
    have hlt : i < n := by omega
    have hlen := tidyF_len (f := fun a b => (w a).testBit b) (n := i)
    have gl := g.glen
    rw [wp_round c49_l1.eq_1]
    simp [go_sem, hlt, wc_get, wc_getE, wc_len, aload]
    refine k74 (hw i) (by omega) ?_
    have hout : isL (outL 1 (nats (bitsN (w i)))) (bitsN (w i)) := isL.out
    have b9 := bitsN_len (s := w i)
    simp [go_sem, hout.len]
    refine l49a hout b9 hbar hbase (bitsN (w i)).length 0 (by omega) _ v H g (by omega) fun v' H' g' => ?_
    simp [go_sem, i64_suc (show i < 1000000 by omega)]
    refine ih (i + 1) (by omega) v' H' ?_ h
    rw [tidyF_suc]
    rw [List.drop_zero] at g'
    have e : rowT (fun a b => (w a).testBit b) i = ((bitsN (w i)).filter fun b => decide (i < b)).map fun b : Nat => ((i : Int), (b : Int)) := by
      unfold rowT bitsN
      rw [List.filter_filter]
      congr 2
      funext b
      rw [Bool.and_comm]
    rw [e]; exact g'
/-- a tree's value -/
def isT (u : AV) (n : Nat) (l : List ZZ) : Prop := ∃ q, isP q l ∧ u = .agg [.int .i64 (n : Nat), q]
theorem k49 {id ver n fz : Nat} {ex : Bool} {w : Nat → Nat} (h : H[id]? = some (.row ver (wc n w) fz ex)) (hn : n ≤ 9) (hw : ∀ i, w i < 512) (hbar : bar ≤ id)
    (k : ∀ u, isT u n (tidyF (fun a b => (w a).testBit b) n) → ∀ b, Q u (H.set id b)) : WpCall E pure base bar 49 [.vec id ver 0 n 1] H Q := by
  rw [call49]
  have hid := (List.getElem?_eq_some_iff.1 h).1
  have e := frz_vec (d := 7) (bar := bar) (H := H) (id := id) (ver := ver) (off := 0) (len := n) (sz := 1) (cs := wc n w) (fz := fz) (ex := ex) (xs := wc n w) (H' := _) h (by simp [wc_len]) hbar (by
    have e1 : ((wc n w).drop 0).take (n * 1) = wc n w := by
      rw [List.drop_zero, Nat.mul_one, List.take_of_length_le (by rw [wc_len]; exact Nat.le_refl _)]
    rw [e1]
    exact plains wc_plain)
  have e2 : chunks 1 n (wc n w) = wc n w := by have := chunks_one (l := wc n w); rwa [wc_len] at this
  rw [e2] at e
  have e0 : frzAll bar H [.vec id ver 0 n 1] = some ([.lst 1 false (wc n w)], H.set id (.row ver (wc n w) (max fz (0 + n)) ex)) := by
    simp [frzAll, frz.frzs, frzsW, e]
  rw [e0]
  have kk := fun u hu => k u hu (.row ver (wc n w) (max fz (0 + n)) ex)
  have hlen : (H.set id (.row ver (wc n w) (max fz (0 + n)) ex)).length = H.length := by simp
  generalize H.set id (.row ver (wc n w) (max fz (0 + n)) ex) = H1 at *
  have hb' : (if pure = true then H1.length else bar) ≤ H1.length := bar_if (by omega)
  have hb2 : (if pure = true then H1.length else bar) ≤ H1.length + 1 := by omega
  simp [go_sem, WpFun, c49, wc_len, fillA, setCells, storeWp, astore, AV.isTup, AV.cells, hb', hb2]
  have tn : TrG (H1 ++ [.row 0 [.int .i64 0, .nils] 0 true]) n (tidyF (fun a b => (w a).testBit b) 0) .nils (H1 ++ [.row 0 [.int .i64 0, .nils] 0 true, .row 0 [.int .i64 (n : Nat), .nils] 0 true]) := by
    have := TrG.nil (G := H1 ++ [.row 0 [.int .i64 0, .nils] 0 true]) (n := n)
    rw [List.append_assoc] at this
    exact this
  have l := fun {R : PQ} hr => l49b (base := H1.length) (bar := if pure = true then H1.length else bar) (G := H1 ++ [.row 0 [.int .i64 0, .nils] 0 true]) (t2 := .ptr H1.length 0 0) (ex := false) hw hn (by rw [List.length_append]; omega) (by simp) n 0 (by omega) .nils _ tn (R := R) hr
  simp only [List.length_append, List.length_singleton] at l
  refine l fun v' H' g => ?_
  have hg := g.get
  simp at hg
  simp [go_sem, aload, hg]
  obtain ⟨s1, s2⟩ := Grow.one g
  have hc : H'[H1.length]? = some (.row 0 [.int .i64 0, .nils] 0 true) := g.old (by simp)
  rw [storeWp_ptr (size := 2) hc rfl rfl (by omega) (by simp) hb' (.inl (Nat.le_refl _))]
  have g2 := Grow.set g (i := H1.length) (b := .row 0 [.int .i64 (n : Nat), v'] 0 true) (by simp)
  have e2 : (H'.set H1.length (.row 0 [.int .i64 (n : Nat), v'] 0 true))[H1.length]? = some (.row 0 [.int .i64 (n : Nat), v'] 0 true) := Grow.get g2 (by simp [own_set0])
  simp [go_sem, aload_ptr e2]
  obtain ⟨H2, f1, f2, f3, f4⟩ := Grow.frz g2 (d := 4) (bar := if pure = true then H1.length else bar) (by decide) ⟨_, prs_length⟩ prs_plain (by simp; omega)
  have e3 : H2.take H1.length = H1 := by
    have := congrArg (List.take H1.length) f4
    rw [List.take_take] at this
    simp at this
    exact this
  rw [show 4 + 3 = 7 from rfl] at f1
  simp only [f1]
  have hk := kk _ ⟨_, isP.out, rfl⟩
  simp [go_sem, isP.out.top, e3]
  exact hk
end Go.Proofs.YtoipleipokpnaaaGreat.Code
end
section
namespace Go.Proofs.YtoipleipokpnaaaGreat.Code
open Go Go.Ab
/-! what is left of a tree while leaves are taken off -/
theorem bitsN_clear : ∀ s, s < 512 → ∀ b, b < 9 → s.testBit b = true → (bitsN (bxor s (pw b))).length + 1 = (bitsN s).length := by decide +kernel
def Sm : Nat → (Nat → Nat) → Nat
  | 0, _ => 0
  | n + 1, F => Sm n F + F n
theorem Sm_congr {F G : Nat → Nat} : ∀ {n : Nat}, (∀ x, x < n → F x = G x) → Sm n F = Sm n G
  | 0, _ => rfl
  | n + 1, h => by simp only [Sm]; rw [Sm_congr fun x hx => h x (by omega), h n (by omega)]
theorem Sm_upd {F G : Nat → Nat} {a d : Nat} : ∀ {n : Nat}, a < n → (∀ x, x < n → x ≠ a → G x = F x) → G a + d = F a → Sm n G + d = Sm n F
  | 0, h, _, _ => by omega
  | n + 1, h, h1, h2 => by
    simp only [Sm]
    by_cases e : a = n
    · subst e
      rw [Sm_congr (G := F) fun x hx => h1 x (by omega) (by omega)]; omega
    · have := Sm_upd (n := n) (F := F) (G := G) (a := a) (d := d) (by omega) (fun x hx => h1 x (by omega)) h2
      rw [h1 n (by omega) (by omega)]; omega
def lftN (n : Nat) (g : Nat → Bool) : Nat := Sm n fun x => if g x then 0 else 1
theorem Sm_ge {F : Nat → Nat} {g : Nat → Bool} : ∀ {n : Nat}, (∀ x, x < n → g x = false → 2 ≤ F x) → 2 * lftN n g ≤ Sm n F
  | 0, _ => by simp [lftN, Sm]
  | n + 1, h => by
    have ih := Sm_ge (n := n) fun x hx => h x (by omega)
    unfold lftN at ih ⊢
    simp only [Sm]
    by_cases e : g n = true
    · simp [e]; omega
    · have := h n (by omega) (by simpa using e)
      simp [e]; omega
def updB (g : Nat → Bool) (k : Nat) (b : Bool) : Nat → Bool := fun x => if x = k then b else g x
structure Inv (n : Nat) (l : List ZZ) (w : Nat → Nat) (g : Nat → Bool) (left : Nat) : Prop where
  lt : ∀ i, w i < 512
  bit : ∀ x y, (w x).testBit y = (tieB l x y && !g x && !g y)
  inn : ∀ x y, tieB l x y = true → x < n ∧ y < n ∧ x ≠ y
  cnt : lftN n g = left
  conn : ∀ x y, x < n → y < n → g x = false → g y = false → Rch (fun a b => (w a).testBit b) x y
  sum : Sm n (fun x => (bitsN (w x)).length) + 2 ≤ 2 * left
def leafB (s : Nat) : Bool := (bitsN s).length == 1
theorem lftN_two {n k : Nat} {g : Nat → Bool} (hk : k < n) (hg : g k = false) (h : 2 ≤ lftN n g) : ∃ y, y < n ∧ y ≠ k ∧ g y = false := by
  apply Classical.byContradiction
  intro hc
  have hall : ∀ y, y < n → y ≠ k → g y = true := fun y hy hne => by
    cases e : g y with
    | true => rfl
    | false => exact absurd ⟨y, hy, hne, e⟩ hc
  have e0 : ∀ n, Sm n (fun _ => 0) = 0 := fun n => by induction n with
    | zero => rfl
    | succ n ih => simp only [Sm]; omega
  have := Sm_upd (n := n) (F := fun x => if g x then 0 else 1) (G := fun _ => 0) (a := k) (d := 1) hk (fun x hx hne => by simp [hall x hx hne]) (by simp [hg])
  rw [e0] at this
  unfold lftN at h; omega
theorem Inv.last {n : Nat} {l : List ZZ} {w : Nat → Nat} {g : Nat → Bool} {left : Nat} (h : Inv n l w g left) {x : Nat} (hx : x < n) (hg : g x = false) (h2 : 2 ≤ left) : ∃ y, (w x).testBit y = true := by
  obtain ⟨y, hy, hne, hgy⟩ := lftN_two hx hg (by rw [h.cnt]; exact h2)
  have := h.conn y x hy hx hgy hg
  cases this with
  | refl => exact absurd rfl hne
  | step h1 h2 =>
    rename_i z
    refine ⟨z, ?_⟩
    have h2' : (w z).testBit x = true := h2
    rw [h.bit] at h2' ⊢
    rw [tieB_symm]
    revert h2'
    cases tieB l z x <;> cases g z <;> cases g x <;> simp
theorem Inv.leaf {n : Nat} {l : List ZZ} {w : Nat → Nat} {g : Nat → Bool} {left : Nat} (h : Inv n l w g left) (h2 : 2 ≤ left) : ∃ k, k < n ∧ g k = false ∧ leafB (w k) = true := by
  apply Classical.byContradiction
  intro hc
  have : 2 * lftN n g ≤ Sm n fun x => (bitsN (w x)).length := Sm_ge fun x hx hg => by
    obtain ⟨y, hy⟩ := h.last hx hg h2
    have h1 : (bitsN (w x)).length ≠ 1 := fun e => hc ⟨x, hx, hg, by unfold leafB; rw [e]; rfl⟩
    have h0 : (bitsN (w x)).length ≠ 0 := fun e => by
      have := (mem_bitsN (h.lt x)).2 hy
      rw [List.length_eq_zero_iff.1 e] at this; cases this
    omega
  have := h.sum
  have := h.cnt
  omega
/-- a knot's leaf is taken off -/
theorem Inv.off {n : Nat} {l : List ZZ} {w : Nat → Nat} {g : Nat → Bool} {left k to : Nat} (hn : n ≤ 9) (h : Inv n l w g (left + 1)) (hk : k < n) (hg : g k = false) (hl : bitsN (w k) = [to]) : Inv n l (tieW w k to) (updB g k true) left ∧ to < n ∧ to ≠ k := by
  have hkt : ∀ y, (w k).testBit y = true ↔ y = to := fun y => by rw [← mem_bitsN (h.lt k), hl, List.mem_singleton]
  have hto : (w k).testBit to = true := (hkt to).2 rfl
  have hto' := hto
  rw [h.bit] at hto'
  simp only [Bool.and_eq_true, Bool.not_eq_true'] at hto'
  obtain ⟨⟨t1, t2⟩, t3⟩ := hto'
  obtain ⟨i1, i2, i3⟩ := h.inn _ _ t1
  have hsym : ∀ x y, (w x).testBit y = (w y).testBit x := fun x y => by
    rw [h.bit, h.bit, tieB_symm]
    cases tieB l y x <;> cases g x <;> cases g y <;> rfl
  have hca : upd w k (bxor (w k) (pw to)) to = w to := by unfold upd; rw [if_neg (fun e => i3 e.symm)]
  have wk : tieW w k to k = bxor (w k) (pw to) := by
    unfold tieW; rw [hca]; unfold upd; rw [if_neg i3, if_pos rfl]
  have wt : tieW w k to to = bxor (w to) (pw k) := by
    unfold tieW; rw [hca]; unfold upd; rw [if_pos rfl]
  have wo : ∀ x, x ≠ k → x ≠ to → tieW w k to x = w x := fun x h1 h2 => by
    unfold tieW; rw [hca]; unfold upd; rw [if_neg h2, if_neg h1]
  have hbit : ∀ x y, (tieW w k to x).testBit y = (tieB l x y && !updB g k true x && !updB g k true y) := fun x y => by
    by_cases e1 : x = k
    · subst e1
      rw [wk, testBit_bxor, testBit_pw]
      have : updB g x true x = true := by simp [updB]
      rw [this]
      by_cases e2 : to = y
      · subst e2; rw [hto]; simp
      · have : (w x).testBit y = false := by
          cases hb : (w x).testBit y with
          | false => rfl
          | true => exact absurd ((hkt y).1 hb).symm e2
        rw [this]; simp [e2]
    · have gx : updB g k true x = g x := by simp [updB, e1]
      by_cases e2 : y = k
      · subst e2
        have : updB g y true y = true := by simp [updB]
        rw [this]
        by_cases e3 : x = to
        · subst e3
          rw [wt, testBit_bxor, testBit_pw, hsym, hto]; simp
        · rw [wo x e1 e3, hsym]
          have : (w y).testBit x = false := by
            cases hb : (w y).testBit x with
            | false => rfl
            | true => exact absurd ((hkt x).1 hb) e3
          rw [this]; simp
      · have gy : updB g k true y = g y := by simp [updB, e2]
        rw [gx, gy, ← h.bit]
        by_cases e3 : x = to
        · subst e3
          rw [wt, testBit_bxor, testBit_pw]
          simp [show ¬ k = y from fun e => e2 e.symm]
        · rw [wo x e1 e3]
  refine ⟨⟨fun i => ?_, hbit, h.inn, ?_, ?_, ?_⟩, i2, fun e => i3 e.symm⟩
  · by_cases e1 : i = k
    · subst e1; rw [wk]; exact bxor9 (h.lt _) (pw9 (by omega))
    · by_cases e2 : i = to
      · subst e2; rw [wt]; exact bxor9 (h.lt _) (pw9 (by omega))
      · rw [wo i e1 e2]; exact h.lt i
  · have := Sm_upd (n := n) (F := fun x => if g x then 0 else 1) (G := fun x => if updB g k true x then 0 else 1) (a := k) (d := 1) hk (fun x hx hne => by simp [updB, hne]) (by simp [hg, updB])
    have hc := h.cnt
    unfold lftN at hc ⊢
    omega
  · intro x y hx hy gx gy
    have hxk : x ≠ k := fun e => by subst e; simp [updB] at gx
    have hyk : y ≠ k := fun e => by subst e; simp [updB] at gy
    have gx' : g x = false := by simpa [updB, hxk] using gx
    have gy' : g y = false := by simpa [updB, hyk] using gy
    have main : ∀ z, Rch (fun a b => (w a).testBit b) x z → (z ≠ k → Rch (fun a b => (tieW w k to a).testBit b) x z) ∧ (z = k → Rch (fun a b => (tieW w k to a).testBit b) x to) := by
      intro z hz
      induction hz with
      | refl => exact ⟨fun _ => .refl _, fun e => absurd e hxk⟩
      | step h1 h2 ih =>
        rename_i u v
        have h2' : (w u).testBit v = true := h2
        constructor
        · intro hv
          by_cases hu : u = k
          · subst hu
            obtain rfl := (hkt v).1 h2'
            exact ih.2 rfl
          · refine .step (ih.1 hu) ?_
            show (tieW w k to u).testBit v = true
            rw [hbit]
            rw [h.bit] at h2'
            simpa [updB, hu, hv] using h2'
        · intro hv
          subst hv
          rw [hsym] at h2'
          obtain rfl := (hkt u).1 h2'
          exact ih.1 (fun e => i3 e.symm)
    exact (main y (h.conn x y hx hy gx' gy')).1 hyk
  · have hk9 : k < 9 := by omega
    have ht9 : to < 9 := by omega
    have c1 := bitsN_clear (w k) (h.lt k) to ht9 hto
    have c2 := bitsN_clear (w to) (h.lt to) k hk9 (by rw [hsym]; exact hto)
    have s1 := Sm_upd (n := n) (F := fun x => (bitsN (w x)).length) (G := fun x => (bitsN (upd w k (bxor (w k) (pw to)) x)).length) (a := k) (d := 1) hk (fun x hx hne => by simp [upd, hne]) (by simpa [upd] using c1)
    have s2 := Sm_upd (n := n) (F := fun x => (bitsN (upd w k (bxor (w k) (pw to)) x)).length) (G := fun x => (bitsN (tieW w k to x)).length) (a := to) (d := 1) i2 (fun x hx hne => by simp [tieW, upd, hne]) (by rw [wt]; simp only [hca]; exact c2)
    have := h.sum
    omega
/-- the list of a tree -/
def wrF (n : Nat) : Nat → (Nat → Nat) → List Nat
  | 0, _ => []
  | t + 1, w => match (List.range n).find? (fun k => leafB (w k)) with
    | some k => (bitsN (w k)).headD 0 :: wrF n t (tieW w k ((bitsN (w k)).headD 0))
    | none => []
theorem Inv.next {n : Nat} {l : List ZZ} {w : Nat → Nat} {g : Nat → Bool} {left : Nat} (hn : n ≤ 9) (h : Inv n l w g (left + 2)) : ∃ k to, k < n ∧ to < n ∧ to ≠ k ∧ g k = false ∧ (∀ j, j < k → leafB (w j) = false) ∧ bitsN (w k) = [to] ∧ Inv n l (tieW w k to) (updB g k true) (left + 1) ∧ ∀ t, wrF n (t + 1) w = to :: wrF n t (tieW w k to) := by
  obtain ⟨k0, a1, a2, a3⟩ := h.leaf (by omega)
  cases hf : (List.range n).find? (fun k => leafB (w k)) with
  | none =>
    have := List.find?_eq_none.1 hf k0 (List.mem_range.2 a1)
    exact absurd a3 (by simpa using this)
  | some k =>
    obtain ⟨b1, l1, l2, b2, b3⟩ := List.find?_eq_some_iff_append.1 hf
    have hk : k < n := List.mem_range.1 (by rw [b2]; simp)
    have hpre : ∀ j, j < k → leafB (w j) = false := fun j hj => by
      have hlen : l1.length = k := by
        have e1 : (List.range n)[l1.length]? = some k := by rw [b2]; simp
        rw [List.getElem?_range (by
          have : (List.range n).length = n := List.length_range
          rw [b2] at this; simp at this; omega)] at e1
        simpa using e1
      have : j ∈ l1 := by
        have e1 : (List.range n)[j]? = some j := by rw [List.getElem?_range (by omega)]
        rw [b2, List.getElem?_append_left (by omega)] at e1
        exact List.mem_of_getElem? e1
      simpa using b3 j this
    have hlen : (bitsN (w k)).length = 1 := by simpa [leafB] using b1
    obtain ⟨to, hto⟩ := List.length_eq_one_iff.1 hlen
    have hg : g k = false := by
      cases hgk : g k with
      | false => rfl
      | true =>
        have : to ∈ bitsN (w k) := by rw [hto]; exact List.mem_singleton.2 rfl
        rw [mem_bitsN (h.lt k), h.bit, hgk] at this
        simp at this
    obtain ⟨o1, o2, o3⟩ := h.off hn hk hg hto
    refine ⟨k, to, hk, o2, o3, hg, hpre, hto, o1, fun t => ?_⟩
    simp only [wrF, hf, hto, List.headD_cons]
end Go.Proofs.YtoipleipokpnaaaGreat.Code
end
section
namespace Go.Proofs.YtoipleipokpnaaaGreat.Code
open Go Go.Ab
variable {pure : Bool} {base bar : Nat} {H : Heap} {Q : AV → Heap → Prop}
/-! Tidy -/
theorem tieB_lt {n : Nat} {l : List ZZ} (hv : ∀ p ∈ l, okP n p) {x y : Nat} (h : tieB l x y = true) : x < n ∧ y < n ∧ x ≠ y := by
  rw [tieB_iff] at h
  rcases h with h1 | h1
  · obtain ⟨_, _, h2, h3, h4⟩ := hv _ h1
    simp only at h2 h3 h4; omega
  · obtain ⟨_, _, h2, h3, h4⟩ := hv _ h1
    simp only at h2 h3 h4; omega
theorem errL_ok {n : Nat} : ∀ {r b : List ZZ}, errL n b r = 0 → ∀ p ∈ r, okP n p
  | [], _, _, p, hp => by cases hp
  | q :: r, b, h, p, hp => by
    unfold errL at h
    split at h
    · rename_i h1; exact absurd h h1
    · rename_i h1
      split at h
      · cases h
      · rcases List.mem_cons.1 hp with rfl | hp
        · exact mayS_ok.1 (by simpa using h1)
        · exact errL_ok h p hp
theorem errT_ok {n : Int} {l : List ZZ} (h : errT n l = 0) : ∃ m : Nat, n = m ∧ 1 ≤ m ∧ m ≤ 9 ∧ (∀ p ∈ l, okP m p) ∧ errL m [] l = 0 ∧ l.length < m ∧ Conn m l := by
  unfold errT at h
  split at h
  · cases h
  · rename_i h1
    split at h
    · rename_i h2; exact absurd h h2
    · rename_i h2
      split at h
      · cases h
      · rename_i h3
        split at h
        · rename_i h4
          obtain ⟨m, rfl⟩ := Int.eq_ofNat_of_zero_le (show 0 ≤ n by omega)
          have h2' : errL (m : Int) [] l = 0 := by simpa using h2
          exact ⟨m, rfl, by omega, by omega, errL_ok h2', h2', by omega, by simpa using h4⟩
        · cases h
theorem k21 {n : Int} {q : AV} {l : List ZZ} (hq : isP q l) (hl : l.length < 1000) (hbar : bar ≤ H.length)
    (h1 : errT n l ≠ 0 → Q (.tup [.agg [.int .i64 0, .nils], .int .i64 (errT n l)]) H)
    (h2 : ∀ (m : Nat) u, n = m → errT n l = 0 → isT u m (tidyF (tieB l) m) → Q (.tup [u, .int .i64 0]) H) : WpCall E pure base bar 21 [.agg [.int .i64 n, q]] H Q := by
  rw [call21]
  have e0 : frzAll bar H [.agg [.int .i64 n, q]] = some ([.agg [.int .i64 n, q]], H) := by simp [frzAll, frz.frzs, frzsW, frz_agg, frz_int, hq.frz]
  rw [e0]
  have hb' : (if pure = true then H.length else bar) ≤ H.length := bar_if hbar
  have hb2 : (if pure = true then H.length else bar) ≤ H.length + 1 := by omega
  simp [go_sem, WpFun, c21, hq.isTup, hq.cells, aload, AV.isTup, AV.cells]
  refine k55 hq hl (by simp; omega) (fun G he => ?_) (fun m w hm p1 p2 hw he => ?_)
  · have hh := h1 he
    simp [go_sem, he, storeWp, astore, AV.isTup, AV.cells, hb2, aload]
    exact hh
  · have hh := h2 m
    have ef : (fun a b => (w a).testBit b) = tieB l := by funext a b; exact hw.bit a b
    simp [go_sem, Nat.add_assoc]
    refine k49 (fz := 0) (ex := true) (w := w) (by simp [own_get]) p2 hw.lt (by omega) fun u hu b => ?_
    rw [ef] at hu
    have hk := hh u hm he hu
    obtain ⟨q', hq', rfl⟩ := hu
    simp [go_sem, storeWp, astore, AV.isTup, AV.cells, hb2, aload, own_set, own_get, hq'.isTup, hq'.cells, frz_agg, hq'.frz, hq'.top, tops_cons, tops_nil]
    exact hk
theorem k27 {n : Int} {q : AV} {l : List ZZ} (hq : isP q l) (hl : l.length < 1000) (hbar : bar ≤ H.length) (h : Q (.int .i64 (errT n l)) H) :
    WpCall E pure base bar 27 [.agg [.int .i64 n, q]] H Q := by
  rw [call27]
  have e0 : frzAll bar H [.agg [.int .i64 n, q]] = some ([.agg [.int .i64 n, q]], H) := by simp [frzAll, frz.frzs, frzsW, frz_agg, frz_int, hq.frz]
  rw [e0]
  have hb' : (if pure = true then H.length else bar) ≤ H.length := bar_if hbar
  simp [go_sem, WpFun, c27, hq.isTup, hq.cells, aload, AV.isTup, AV.cells]
  refine k55 hq hl (by simp; omega) (fun G he => ?_) (fun m w hm p1 p2 hw he => ?_)
  · simp [go_sem]
    exact h
  · rw [he] at h
    simp [go_sem]
    exact h
end Go.Proofs.YtoipleipokpnaaaGreat.Code
end
section
namespace Go.Proofs.YtoipleipokpnaaaGreat.Code
open Go Go.Ab
variable {pure : Bool} {base bar : Nat} {H : Heap} {Q : AV → Heap → Prop}
/-! Write -/
theorem leafB_and : ∀ s, s < 512 → leafB s = (decide (s ≠ 0) && decide (band s (s - 1) = 0)) := by decide +kernel
theorem k149 {s : Nat} (hs : s < 512) : WpCall E pure base bar 149 [.int .u16 (s : Nat)] H Q ↔ Q (.bool (leafB s)) H := by
  rw [call149]
  by_cases h0 : s = 0
  · subst h0
    have : leafB 0 = false := by decide
    rw [this]
    simp [go_sem, WpFun, c149]
  · have e1 : IntKind.u16.wrap ((s : Int) - 1) = ((s - 1 : Nat) : Int) := by
      rw [Go.IntWalk.u16_in _ (by omega)]; omega
    have e2 := and_u16 hs (show s - 1 < 512 by omega)
    have e3 := leafB_and s hs
    generalize s - 1 = s1 at *
    have h0' : ¬ (s : Int) = 0 := by omega
    by_cases hb : band s s1 = 0
    · have : leafB s = true := by rw [e3]; simp [h0, hb]
      rw [this]
      simp [go_sem, WpFun, c149, h0, h0', e1, e2, hb]
    · have : leafB s = false := by rw [e3]; simp [hb]
      rw [this]
      have hb2 : (((band s s1 : Nat) : Int) == 0) = false := by simp only [beq_eq_false_iff_ne]; omega
      simp [go_sem, WpFun, c149, h0, e1, e2, hb2]
theorem l150 {s to : Nat} (hs : s < 512) (ht : s.testBit to = true) (h9 : to < 9) (hpre : ∀ j, j < to → s.testBit j = false) {R : PQ} :
    ∀ (k i : Nat), i + k = to → R (.exit 0) [(0, .int .u16 (s : Nat)), (3, .int .i64 (to : Nat)), (7, .bool false)] H →
    Wp E base bar (.loop c150_l0) [(0, .int .u16 (s : Nat)), (3, .int .i64 (i : Nat))] H R := by
  intro k
  induction k with
  | zero =>
    intro i hi h
    obtain rfl : i = to := by omega
    rw [wp_round c150_l0.eq_1]
    simp [go_sem, k67 hs h9, ht]
    exact h
  | succ k ih =>
    intro i hi h
    have hlt : i < to := by omega
    have hf := hpre i hlt
    rw [wp_round c150_l0.eq_1]
    simp [go_sem, k67 hs (show i < 9 by omega), hf, i64_suc (show i < 1000000 by omega)]
    exact ih (i + 1) (by omega) h
theorem low_of {s to : Nat} {r : List Nat} (h : bitsN s = to :: r) : s.testBit to = true ∧ to < 9 ∧ ∀ j, j < to → s.testBit j = false := by
  have hm : to ∈ bitsN s := by rw [h]; exact List.mem_cons_self ..
  have h1 := List.mem_filter.1 hm
  have hr : (List.range 9).Pairwise (· < ·) := List.pairwise_lt_range
  have hp : (bitsN s).Pairwise (· < ·) := hr.sublist (List.filter_sublist)
  rw [h, List.pairwise_cons] at hp
  refine ⟨h1.2, List.mem_range.1 h1.1, fun j hj => ?_⟩
  cases hb : s.testBit j with
  | false => rfl
  | true =>
    have : j ∈ bitsN s := List.mem_filter.2 ⟨List.mem_range.2 (by have := List.mem_range.1 h1.1; omega), hb⟩
    rw [h] at this
    rcases List.mem_cons.1 this with e | e
    · omega
    · have := hp.1 j e; omega
theorem k150 {s to : Nat} {r : List Nat} (hs : s < 512) (hb : bitsN s = to :: r) (h : Q (.int .i64 (to : Nat)) H) : WpCall E pure base bar 150 [.int .u16 (s : Nat)] H Q := by
  rw [call150]
  obtain ⟨a1, a2, a3⟩ := low_of hb
  simp [go_sem, WpFun, c150]
  refine l150 hs a1 a2 a3 to 0 (by omega) ?_
  simp [go_sem]
  exact h
theorem l148 {n k0 : Nat} {wv : AV} {w : Nat → Nat} (hr : RW wv n w H) (hw : ∀ i, w i < 512) (hn : n ≤ 9) (hk : k0 < n) (hl : leafB (w k0) = true) (hpre : ∀ j, j < k0 → leafB (w j) = false) {R : PQ} :
    ∀ (k i : Nat), i + k = k0 → R .ret [(4, .int .i64 (k0 : Nat))] H →
    Wp E base bar (.loop c148_l0) [(0, wv), (1, .fn 149 [] []), (7, .int .i64 (n : Nat)), (8, .int .i64 (i : Nat))] H R := by
  intro k
  induction k with
  | zero =>
    intro i hi h
    obtain rfl : i = k0 := by omega
    obtain ⟨p, p1, p2⟩ := hr.ix hk
    rw [wp_round c148_l0.eq_1]
    simp [go_sem, hk, p1, p2, k149 (hw i), hl]
    exact h
  | succ k ih =>
    intro i hi h
    have hlt : i < k0 := by omega
    obtain ⟨p, p1, p2⟩ := hr.ix (show i < n by omega)
    have hf := hpre i hlt
    rw [wp_round c148_l0.eq_1]
    simp [go_sem, show i < n by omega, p1, p2, k149 (hw i), hf, i64_suc (show i < 1000000 by omega)]
    exact ih (i + 1) (by omega) h
theorem k148 {n k0 : Nat} {wv : AV} {w : Nat → Nat} (hr : RW wv n w H) (hw : ∀ i, w i < 512) (hn : n ≤ 9) (hk : k0 < n) (hl : leafB (w k0) = true) (hpre : ∀ j, j < k0 → leafB (w j) = false) (h : Q (.int .i64 (k0 : Nat)) H) : WpCall E pure base bar 148 [wv, .fn 149 [] []] H Q := by
  rw [call148]
  simp [go_sem, WpFun, c148, hr.len]
  refine l148 hr hw hn hk hl hpre k0 0 (by omega) ?_
  simp [go_sem]
  exact h
/-- a clone of a wood -/
theorem k84 {n : Nat} {ex : Bool} {w : Nat → Nat} (h1 : 1 ≤ n) (hn : n ≤ 9) (h : Q (.vec H.length 0 0 n 1) (H ++ [.row 0 (wc n w) 0 false])) : WpCall E pure base bar 84 [.lst 1 ex (wc n w)] H Q := by
  rw [call84]
  have e0 : frzAll bar H [.lst 1 ex (wc n w)] = some ([.lst 1 ex (wc n w)], H) := rfl
  rw [e0]
  have hne : wc n w ≠ [] := fun e => by have := congrArg List.length e; rw [wc_len] at this; simp at this; omega
  have eq_ln : ∀ {l : List AV} {H : Heap} {K : AV → Heap → List Nat → Prop}, eqWp false .nilS (some (.lst 1 ex l)) (some .nils) H K = K (.bool false) H [] := (rfl)
  have hfl : (wc n w).flatMap AV.cells = wc n w := by
    unfold wc
    rw [List.flatMap_map]
    induction (List.range n) with
    | nil => rfl
    | cons x r ih => rw [List.flatMap_cons, List.map_cons, ih]; rfl
  simp [go_sem, WpFun, c84, aop, fillA, chunks, eq_ln]
  have hz : frzsW (frz 8 (if pure = true then H.length else bar)) H (wc n w) = some (wc n w, H) := plains (d := 6) wc_plain
  simp [Opd.ev, go_sem, appWp, asrc, aappend, hfl, wc_len, hz, hne, show n * 2 ≤ 140737488355328 by omega]
  exact h
/-- a list that grows from an empty literal -/
def OG (H0 : Heap) (l : List Nat) (v : AV) (H : Heap) : Prop := (l = [] ∧ v = .lst 1 true [] ∧ H = H0) ∨ Grow 1 (nats l) H0 v H
theorem OG.add {H0 : Heap} {bytes x : Nat} {l : List Nat} {v : AV} {ex : Bool} {K : AV → Heap → List Nat → Prop} (g : OG H0 l v H) (hb : bar ≤ H0.length) (hbase : base ≤ H0.length) (hlen : (l.length + 1) * bytes ≤ 140737488355328)
    (h : ∀ v' H' tc, OG H0 (l ++ [x]) v' H' → K v' H' tc) : appWp base bar 1 bytes (some v) (some (.lst 1 ex [.int .i64 (x : Int)])) H K := by
  rcases g with ⟨rfl, rfl, rfl⟩ | g
  · have e : asrc H 1 (.lst 1 ex [.int .i64 (x : Int)]) = some [.int .i64 (x : Int)] := by rw [asrc_lst]; rfl
    simp at hlen
    simp [appWp, e, go_sem, aappend, AV.noVec.noVecs, AV.noVec, hlen]
    exact h _ _ _ (.inr (.inr ⟨0, 0, by simp [nats], by omega, by simp [nats], by simp [nats]⟩))
  · exact g.nat hb hbase hlen fun v' H' tc g' => h v' H' tc (.inr g')
theorem OG.get {H0 : Heap} {l : List Nat} {v : AV} {i : Nat} {b : Blk} (g : OG H0 l v H) (h : H0[i]? = some b) : H[i]? = some b := by
  rcases g with ⟨rfl, rfl, rfl⟩ | g
  · exact h
  · exact g.get h
theorem OG.set {H0 : Heap} {l : List Nat} {v : AV} {i : Nat} {b : Blk} (g : OG H0 l v H) (hi : i < H0.length) : OG (H0.set i b) l v (H.set i b) := by
  rcases g with ⟨rfl, rfl, rfl⟩ | g
  · exact .inl ⟨rfl, rfl, rfl⟩
  · exact .inr (g.set hi)
theorem OG.frz {H0 : Heap} {l : List Nat} {v : AV} {d : Nat} (g : OG H0 l v H) (hb : bar ≤ H0.length) : ∃ u H', frz (d + 3) bar H v = some (u, H') ∧ isL u l ∧ H'.take H0.length = H0 := by
  rcases g with ⟨rfl, rfl, rfl⟩ | g
  · exact ⟨_, _, rfl, .inr ⟨true, rfl⟩, by simp⟩
  · obtain ⟨H', h1, h2, h3, h4⟩ := g.frz (d := d) (bar := bar) (by omega) (Nat.one_dvd _) nats_plain hb
    exact ⟨_, _, h1, isL.out, h4⟩
theorem OG.len {H0 : Heap} {l : List Nat} {v : AV} (g : OG H0 l v H) : H0.length ≤ H.length := by
  rcases g with ⟨rfl, rfl, rfl⟩ | g
  · exact Nat.le_refl _
  · exact g.len
/-- the heap while a list is written -/
def HW (H : Heap) (n : Nat) (w : Nat → Nat) : Heap := H ++ [.row 0 [] 0 true, .row 0 (wc n w) 0 false]
theorem l147 {n : Nat} {l : List ZZ} (hn : n ≤ 9) (hbar : bar ≤ H.length) {R : PQ} :
    ∀ (k i : Nat), i + k + 2 = n → ∀ (w : Nat → Nat) (g : Nat → Bool) (out : List Nat) (v : AV) (H1 : Heap), Inv n l w g (k + 2) → OG (HW H n w) out v H1 → out.length + k < 100 →
    (∀ w' v' H2, OG (HW H n w') (out ++ wrF n k w) v' H2 → R (.exit 0) [(1, .vec (H.length + 1) 0 0 n 1), (5, v'), (13, .int .i64 ((n : Int) - 2)), (14, .int .i64 ((n : Int) - 2)), (15, .bool false)] H2) →
    Wp E H.length bar (.loop c147_l0) [(1, .vec (H.length + 1) 0 0 n 1), (5, v), (13, .int .i64 ((n : Int) - 2)), (14, .int .i64 (i : Nat))] H1 R := by
  intro k
  induction k with
  | zero =>
    intro i hi w g out v H1 hI ho hl h
    have hlt : ¬ (i : Int) < (n : Int) - 2 := by omega
    have e : (n : Int) - 2 = (i : Int) := by omega
    simp only [wrF, List.append_nil] at h
    rw [e] at h ⊢
    rw [wp_round c147_l0.eq_1]
    simp [go_sem]
    exact h w v H1 ho
  | succ k ih =>
    intro i hi w g out v H1 hI ho hl h
    have hlt : (i : Int) < (n : Int) - 2 := by omega
    obtain ⟨k0, to, a1, a2, a3, a4, a5, a6, a7, a8⟩ := hI.next hn
    rw [a8] at h
    have hwc : H1[H.length + 1]? = some (.row 0 (wc n w) 0 false) := ho.get (by simp [HW, own_get])
    have hlf : leafB (w k0) = true := by unfold leafB; rw [a6]; rfl
    have hnb : bar ≤ H1.length := by
      have := ho.len
      unfold HW at this
      rw [List.length_append] at this; omega
    rw [wp_round c147_l0.eq_1]
    simp [go_sem, hlt]
    refine k148 (RW.vec hwc) hI.lt hn a1 hlf a5 ?_
    simp [go_sem, a1, aload, hwc, wc_get, wc_getE, wc_len]
    refine k150 (hI.lt k0) a6 ?_
    simp [go_sem]
    refine k65 hwc hn hI.lt a1 a2 (by omega) ?_
    have ho2 := ho.set (i := H.length + 1) (b := .row 0 (wc n (tieW w k0 to)) 0 false) (by simp [HW])
    have eH : (HW H n w).set (H.length + 1) (.row 0 (wc n (tieW w k0 to)) 0 false) = HW H n (tieW w k0 to) := by simp [HW, own_set]
    rw [eH] at ho2
    simp [go_sem, aop, fillA, setCells, AV.cells, chunks]
    refine ho2.add (by simp [HW]; omega) (by simp [HW]) (by omega) fun v' H' tc ho3 => ?_
    simp [go_sem, i64_suc (show i < 1000000 by omega)]
    refine ih (i + 1) (by omega) _ _ _ v' H' a7 ho3 (by simp; omega) fun w' v'' H2 ho4 => h w' v'' H2 ?_
    simpa using ho4
end Go.Proofs.YtoipleipokpnaaaGreat.Code
end
section
namespace Go.Proofs.YtoipleipokpnaaaGreat.Code
open Go Go.Ab
variable {pure : Bool} {base bar : Nat} {H : Heap} {Q : AV → Heap → Prop}
/-! a tree that was checked has the properties that writing needs -/
theorem Sm_zero : ∀ n, Sm n (fun _ => 0) = 0 := fun n => by induction n with
  | zero => rfl
  | succ n ih => simp only [Sm]; omega
theorem Sm_one : ∀ n, Sm n (fun _ => 1) = n := fun n => by induction n with
  | zero => rfl
  | succ n ih => simp only [Sm]; omega
theorem bitsN_set : ∀ s, s < 512 → ∀ b, b < 9 → s.testBit b = false → (bitsN (bxor s (pw b))).length = (bitsN s).length + 1 := by decide +kernel
theorem bitsN_zero : (bitsN 0).length = 0 := by decide
/-- masks and their number of bits -/
theorem wd_sum {n : Nat} (hn : n ≤ 9) : ∀ {r b : List ZZ} {w : Nat → Nat}, Wd n b w → errL n b r = 0 → Sm n (fun x => (bitsN (w x)).length) = 2 * b.length → ∃ w', Wd n (b ++ r) w' ∧ Sm n (fun x => (bitsN (w' x)).length) = 2 * (b ++ r).length
  | [], b, w, hw, _, hs => ⟨w, by rw [List.append_nil]; exact ⟨hw, hs⟩⟩
  | p :: r, b, w, hw, he, hs => by
    unfold errL at he
    split at he
    · rename_i h1; exact absurd he h1
    · rename_i h1
      split at he
      · cases he
      · rename_i h2
        have hok := mayS_ok.1 (show mayS n p = 0 by simpa using h1)
        obtain ⟨a, c⟩ := p
        obtain ⟨q1, q2, q3, q4, q5⟩ := hok
        simp only at q1 q2 q3 q4 q5
        obtain ⟨a, rfl⟩ := Int.eq_ofNat_of_zero_le q1
        obtain ⟨c, rfl⟩ := Int.eq_ofNat_of_zero_le q2
        have ha : a < n := by omega
        have hc : c < n := by omega
        have hac : a ≠ c := by omega
        have ht : tieB b a c = false := by simpa using h2
        have hw' := hw.tie hn ha hc hac ht
        have h1 : (w a).testBit c = false := by rw [hw.bit]; exact ht
        have h3 : (w c).testBit a = false := by rw [hw.bit, tieB_symm]; exact ht
        have hca : upd w a (bxor (w a) (pw c)) c = w c := by unfold upd; rw [if_neg (fun e => hac e.symm)]
        have c1 := bitsN_set (w a) (hw.lt a) c (by omega) h1
        have c2 := bitsN_set (w c) (hw.lt c) a (by omega) h3
        have s1 := Sm_upd (n := n) (G := fun x => (bitsN (w x)).length) (F := fun x => (bitsN (upd w a (bxor (w a) (pw c)) x)).length) (a := a) (d := 1) ha (fun x hx hne => by simp [upd, hne]) (by simpa [upd] using c1.symm)
        have s2 := Sm_upd (n := n) (G := fun x => (bitsN (upd w a (bxor (w a) (pw c)) x)).length) (F := fun x => (bitsN (tieW w a c x)).length) (a := c) (d := 1) hc (fun x hx hne => by simp [tieW, upd, hne]) (by
          have wt : tieW w a c c = bxor (w c) (pw a) := by unfold tieW; rw [hca]; unfold upd; rw [if_pos rfl]
          rw [wt]; simp only [hca]; exact c2.symm)
        obtain ⟨w', k1, k2⟩ := wd_sum hn (r := r) (b := b ++ [((a : Int), (c : Int))]) hw' he (by rw [List.length_append, List.length_singleton]; omega)
        refine ⟨w', ?_, ?_⟩
        · simpa using k1
        · simpa using k2
theorem wd_unique {n : Nat} {b : List ZZ} {w w' : Nat → Nat} (h : Wd n b w) (h' : Wd n b w') : w = w' := by
  funext x
  apply Nat.eq_of_testBit_eq
  intro i
  rw [h.bit, h'.bit]
theorem Rch.trans {f : Nat → Nat → Bool} {x y z : Nat} (h1 : Rch f x y) (h2 : Rch f y z) : Rch f x z := by
  induction h2 with
  | refl => exact h1
  | step _ hf ih => exact .step ih hf
theorem Rch.symm {f : Nat → Nat → Bool} (hs : ∀ a b, f a b = f b a) {x y : Nat} (h : Rch f x y) : Rch f y x := by
  induction h with
  | refl => exact .refl _
  | step _ hf ih => exact Rch.trans (.step (.refl _) (by rw [hs]; exact hf)) ih
theorem inv_start {n : Nat} {l : List ZZ} {w : Nat → Nat} (hn : n ≤ 9) (hw : Wd n l w) (he : errL n [] l = 0) (hl : l.length < n) (hc : Conn n l) : Inv n l w (fun _ => false) n := by
  obtain ⟨w', k1, k2⟩ := wd_sum hn (r := l) Wd.nil he (by simp [bitsN_zero, Sm_zero])
  rw [List.nil_append] at k1 k2
  obtain rfl := wd_unique hw k1
  refine ⟨hw.lt, fun x y => by rw [hw.bit]; simp, fun x y h => tieB_lt hw.val h, ?_, fun x y hx hy _ _ => ?_, by omega⟩
  · have := Sm_one n
    unfold lftN; simpa using this
  · have ef : (fun a b => (w a).testBit b) = tieB l := by funext a b; exact hw.bit a b
    rw [ef]
    exact Rch.trans (Rch.symm (fun a b => tieB_symm) (hc x hx)) (hc y hy)
theorem OG.one {H0 : Heap} {l : List Nat} {v : AV} (g : OG H0 l v H) : v.isTup = false := by
  rcases g with ⟨rfl, rfl, rfl⟩ | g
  · rfl
  · exact (Grow.one g).1
theorem ifc_frz {u : AV} {l : List Nat} {t : TypeId} {d : Nat} (hu : isL u l) : frz (d + 2) bar H (.ifc t u) = some (.ifc t u, H) := by
  have := hu.frz (bar := bar) (H := H) (d := d)
  simp [frz, this]
theorem ifc_top {u : AV} {l : List Nat} {t : TypeId} (hu : isL u l) : (AV.ifc t u).top = 0 := by
  have := hu.top
  simpa [AV.top] using this
/-- the question for the list -/
theorem k147 {n : Nat} {l : List ZZ} {w : Nat → Nat} {ex : Bool} (hn : n ≤ 9) (h1 : 1 ≤ n) (hI : Inv n l w (fun _ => false) n) (hbar : bar ≤ H.length)
    (h : ∀ u, isL u (wrF n (n - 2) w) → Q (.ifc 25 u) H) : WpCall E pure base bar 147 [.agg [], .lst 1 ex (wc n w)] H Q := by
  rw [call147]
  have e0 : frzAll bar H [.agg [], .lst 1 ex (wc n w)] = some ([.agg [], .lst 1 ex (wc n w)], H) := rfl
  rw [e0]
  have hb' : (if pure = true then H.length else bar) ≤ H.length := bar_if hbar
  have hi2 : IntKind.i64.wrap ((n : Int) - 2) = (n : Int) - 2 := Go.IntWalk.i64_in _ (by omega)
  simp [go_sem, WpFun, c147, aload, AV.isTup, AV.cells]
  refine k84 h1 hn ?_
  simp [go_sem, fillA, setCells, chunks, aop, hi2]
  by_cases hn2 : 2 ≤ n
  · refine l147 (l := l) hn hb' (n - 2) 0 (by omega) w (fun _ => false) [] _ _ (by rw [show n - 2 + 2 = n by omega]; exact hI) (.inl ⟨rfl, rfl, rfl⟩) (by simp; omega) fun w' v' H2 ho => ?_
    rw [List.nil_append] at ho
    obtain ⟨u, H3, f1, f2, f3⟩ := ho.frz (d := 5) (bar := if pure = true then H.length else bar) (by simp [HW]; omega)
    have hk := h u f2
    have e3 : H3.take H.length = H := by
      have := congrArg (List.take H.length) f3
      rw [List.take_take] at this
      simp [HW] at this
      exact this
    simp [go_sem, aop, Opd.evo, ho.one, f1, e3, ifc_frz f2, ifc_top f2]
    exact hk
  · obtain rfl : n = 1 := by omega
    have hk := h (.lst 1 true []) (.inr ⟨true, rfl⟩)
    rw [wp_round c147_l0.eq_1]
    have hu : isL (.lst 1 true []) [] := .inr ⟨true, rfl⟩
    simp [go_sem, aop, Opd.evo, ifc_frz hu, ifc_top hu]
    exact hk
end Go.Proofs.YtoipleipokpnaaaGreat.Code
end
section
namespace Go.Proofs.YtoipleipokpnaaaGreat.Code
open Go Go.Ab
variable {pure : Bool} {base bar : Nat} {H : Heap} {Q : AV → Heap → Prop}
theorem frz_nili {d : Nat} : frz (d + 1) bar H .nili = some (.nili, H) := rfl
theorem frz_q0 {t : TypeId} {d : Nat} : frz (d + 3) bar H (.ifc t (.agg [])) = some (.ifc t (.agg []), H) := rfl
/-- a wood is frozen -/
theorem wood_frz {id ver n fz : Nat} {ex : Bool} {w : Nat → Nat} {d : Nat} (h : H[id]? = some (.row ver (wc n w) fz ex)) (hbar : bar ≤ id) : ∃ b, frz (d + 3) bar H (.vec id ver 0 n 1) = some (.lst 1 false (wc n w), H.set id b) := by
  refine ⟨.row ver (wc n w) (max fz (0 + n)) ex, ?_⟩
  have e := frz_vec (d := d + 2) (bar := bar) (H := H) (id := id) (ver := ver) (off := 0) (len := n) (sz := 1) (cs := wc n w) (fz := fz) (ex := ex) (xs := wc n w) (H' := H.set id (.row ver (wc n w) (max fz (0 + n)) ex)) h (by simp [wc_len]) hbar (by
    have e1 : ((wc n w).drop 0).take (n * 1) = wc n w := by
      rw [List.drop_zero, Nat.mul_one, List.take_of_length_le (by rw [wc_len]; exact Nat.le_refl _)]
    rw [e1, plains wc_plain, Nat.mul_one])
  have e2 : chunks 1 n (wc n w) = wc n w := by have := chunks_one (l := wc n w); rwa [wc_len] at this
  rw [e2] at e
  exact e
theorem k147v {id ver n fz : Nat} {l : List ZZ} {w : Nat → Nat} {ex : Bool} (hid : H[id]? = some (.row ver (wc n w) fz ex)) (hib : bar ≤ id) (hn : n ≤ 9) (h1 : 1 ≤ n) (hI : Inv n l w (fun _ => false) n)
    (h : ∀ u b, isL u (wrF n (n - 2) w) → Q (.ifc 25 u) (H.set id b)) : WpCall E pure base bar 147 [.agg [], .vec id ver 0 n 1] H Q := by
  have hlt := (List.getElem?_eq_some_iff.1 hid).1
  obtain ⟨b, f1⟩ := wood_frz (d := 5) hid hib
  have k := k147 (pure := pure) (base := base) (bar := bar) (H := H.set id b) (Q := Q) (ex := false) hn h1 hI (by simp; omega) fun u hu => h u b hu
  have e1 : frzAll bar H [.agg [], .vec id ver 0 n 1] = some ([.agg [], .lst 1 false (wc n w)], H.set id b) := by
    have : frz 8 bar H (.agg []) = some (.agg [], H) := rfl
    simp [frzAll, frz.frzs, frzsW, f1, this]
  have e2 : frzAll bar (H.set id b) [.agg [], .lst 1 false (wc n w)] = some ([.agg [], .lst 1 false (wc n w)], H.set id b) := rfl
  rw [call147, e2] at k
  rw [call147, e1]
  exact k
theorem k78 {n : Int} {q : AV} {l : List ZZ} (hq : isP q l) (hl : l.length < 1000) (hbar : bar ≤ H.length)
    (h1 : errT n l ≠ 0 → Q (.tup [.nili, .int .i64 (errT n l)]) H)
    (h2 : ∀ (m : Nat) w u, n = m → 1 ≤ m → m ≤ 9 → errT n l = 0 → Wd m l w → isL u (wrF m (m - 2) w) → Q (.tup [.ifc 25 u, .int .i64 0]) H) : WpCall E pure base bar 78 [.agg [.int .i64 n, q], .ifc 90 (.agg [])] H Q := by
  rw [call78]
  have e0 : frzAll bar H [.agg [.int .i64 n, q], .ifc 90 (.agg [])] = some ([.agg [.int .i64 n, q], .ifc 90 (.agg [])], H) := by simp [frzAll, frz.frzs, frzsW, frz_agg, frz_int, hq.frz, frz_q0]
  rw [e0]
  have hb' : (if pure = true then H.length else bar) ≤ H.length := bar_if hbar
  simp [go_sem, WpFun, c78, hq.isTup, hq.cells, aload, AV.isTup, AV.cells]
  refine k55 hq hl (by simp; omega) (fun G he => ?_) (fun m w hm p1 p2 hw he => ?_)
  · have hh := h1 he
    simp [go_sem, he, frz_nili]
    exact hh
  · have hh := h2 m w
    have hE := he
    obtain ⟨m', em, _, _, hv, hE, hlen, hc⟩ := errT_ok he
    obtain rfl : m = m' := by omega
    have hI := inv_start p2 hw hE hlen hc
    simp [go_sem, Nat.add_assoc]
    refine k147v (fz := 0) (ex := true) (w := w) (l := l) (by simp [own_get]) (by omega) p2 p1 hI fun u b hu => ?_
    have hk := hh u hm p1 p2 he hw hu
    simp [go_sem, ifc_frz hu, ifc_top hu, tops_cons, tops_nil, own_set]
    exact hk
theorem k51 {n : Int} {q : AV} {l : List ZZ} (hq : isP q l) (hl : l.length < 1000) (hbar : bar ≤ H.length)
    (h1 : errT n l ≠ 0 → Q (.tup [.nils, .int .i64 (errT n l)]) H)
    (h2 : ∀ (m : Nat) w u, n = m → 1 ≤ m → m ≤ 9 → errT n l = 0 → Wd m l w → isL u (wrF m (m - 2) w) → Q (.tup [u, .int .i64 0]) H) : WpCall E pure base bar 51 [.agg [.int .i64 n, q], .ifc 90 (.agg [])] H Q := by
  rw [call51]
  have e0 : frzAll bar H [.agg [.int .i64 n, q], .ifc 90 (.agg [])] = some ([.agg [.int .i64 n, q], .ifc 90 (.agg [])], H) := by simp [frzAll, frz.frzs, frzsW, frz_agg, frz_int, hq.frz, frz_q0]
  rw [e0]
  have hb' : (if pure = true then H.length else bar) ≤ H.length := bar_if hbar
  simp [go_sem, WpFun, c51, hq.isTup, hq.cells, aload, AV.isTup, AV.cells]
  refine k78 hq hl (by simp; omega) (fun he => ?_) (fun m w u hm p1 p2 he hw hu => ?_)
  · have hh := h1 he
    simp [go_sem, aop, Opd.evo, mres]
    exact hh
  · have hh := h2 m w u hm p1 p2 he hw hu
    simp [go_sem, aop, Opd.evo, mres, hu.frz, hu.top, tops_cons, tops_nil]
    exact hh
theorem k23 {n : Int} {q : AV} {l : List ZZ} (hq : isP q l) (hl : l.length < 1000) (hbar : bar ≤ H.length)
    (h1 : errT n l ≠ 0 → Q (.tup [.nils, .int .i64 (errT n l)]) H)
    (h2 : ∀ (m : Nat) w u, n = m → 1 ≤ m → m ≤ 9 → errT n l = 0 → Wd m l w → isL u (wrF m (m - 2) w) → Q (.tup [u, .int .i64 0]) H) : WpCall E pure base bar 23 [.agg [.int .i64 n, q]] H Q := by
  rw [call23]
  have e0 : frzAll bar H [.agg [.int .i64 n, q]] = some ([.agg [.int .i64 n, q]], H) := by simp [frzAll, frz.frzs, frzsW, frz_agg, frz_int, hq.frz]
  rw [e0]
  have hb' : (if pure = true then H.length else bar) ≤ H.length := bar_if hbar
  simp [go_sem, WpFun, c23, hq.isTup, hq.cells, aload, AV.isTup, AV.cells, aop, Opd.evo, fillA, setCells]
  refine k51 hq hl (by simp; omega) (fun he => ?_) (fun m w u hm p1 p2 he hw hu => ?_)
  · have hh := h1 he
    simp [go_sem]
    exact hh
  · have hh := h2 m w u hm p1 p2 he hw hu
    simp [go_sem, hu.frz, hu.top, tops_cons, tops_nil]
    exact hh
end Go.Proofs.YtoipleipokpnaaaGreat.Code
end
section
namespace Go.Proofs.YtoipleipokpnaaaGreat.Code
open Go Go.Ab
variable {pure : Bool} {base bar : Nat} {H : Heap} {Q : AV → Heap → Prop}
/-! the reference: a list that is written -/
def gc (n : Nat) (g : Nat → Bool) : List AV := (List.range n).map fun a => .bool (g a)
end Go.Proofs.YtoipleipokpnaaaGreat.Code
end
section
namespace Go.Proofs.YtoipleipokpnaaaGreat.Code
open Go Go.Ab
variable {pure : Bool} {base bar : Nat} {H : Heap} {Q : AV → Heap → Prop}
end Go.Proofs.YtoipleipokpnaaaGreat.Code
end
section
namespace Go.Proofs.YtoipleipokpnaaaGreat.Code
open Go Go.Ab
variable {pure : Bool} {base bar : Nat} {H : Heap} {Q : AV → Heap → Prop}
/-! Read -/
theorem k49l {n : Nat} {ex : Bool} {w : Nat → Nat} (hn : n ≤ 9) (hw : ∀ i, w i < 512) (hbar : bar ≤ H.length)
    (k : ∀ u, isT u n (tidyF (fun a b => (w a).testBit b) n) → Q u H) : WpCall E pure base bar 49 [.lst 1 ex (wc n w)] H Q := by
  rw [call49]
  have e0 : frzAll bar H [.lst 1 ex (wc n w)] = some ([.lst 1 ex (wc n w)], H) := rfl
  rw [e0]
  have kk := k
  obtain ⟨H1, hH⟩ : ∃ H1, H = H1 := ⟨_, rfl⟩
  subst hH
  have hb' : (if pure = true then H.length else bar) ≤ H.length := bar_if hbar
  have hb2 : (if pure = true then H.length else bar) ≤ H.length + 1 := by omega
  simp [go_sem, WpFun, c49, wc_len, fillA, setCells, storeWp, astore, AV.isTup, AV.cells, hb', hb2]
  have tn : TrG (H ++ [.row 0 [.int .i64 0, .nils] 0 true]) n (tidyF (fun a b => (w a).testBit b) 0) .nils (H ++ [.row 0 [.int .i64 0, .nils] 0 true, .row 0 [.int .i64 (n : Nat), .nils] 0 true]) := by
    have := TrG.nil (G := H ++ [.row 0 [.int .i64 0, .nils] 0 true]) (n := n)
    rw [List.append_assoc] at this
    exact this
  have l := fun {R : PQ} hr => l49b (base := H.length) (bar := if pure = true then H.length else bar) (G := H ++ [.row 0 [.int .i64 0, .nils] 0 true]) (t2 := .ptr H.length 0 0) (ex := ex) hw hn (by rw [List.length_append]; omega) (by simp) n 0 (by omega) .nils _ tn (R := R) hr
  simp only [List.length_append, List.length_singleton] at l
  refine l fun v' H' g => ?_
  have hg := g.get
  simp at hg
  simp [go_sem, aload, hg]
  obtain ⟨s1, s2⟩ := Grow.one g
  have hc : H'[H.length]? = some (.row 0 [.int .i64 0, .nils] 0 true) := g.old (by simp)
  rw [storeWp_ptr (size := 2) hc rfl rfl (by omega) (by simp) hb' (.inl (Nat.le_refl _))]
  have g2 := Grow.set g (i := H.length) (b := .row 0 [.int .i64 (n : Nat), v'] 0 true) (by simp)
  have e2 : (H'.set H.length (.row 0 [.int .i64 (n : Nat), v'] 0 true))[H.length]? = some (.row 0 [.int .i64 (n : Nat), v'] 0 true) := Grow.get g2 (by simp [own_set0])
  simp [go_sem, aload_ptr e2]
  obtain ⟨H2, f1, f2, f3, f4⟩ := Grow.frz g2 (d := 4) (bar := if pure = true then H.length else bar) (by decide) ⟨_, prs_length⟩ prs_plain (by simp; omega)
  have e3 : H2.take H.length = H := by
    have := congrArg (List.take H.length) f4
    rw [List.take_take] at this
    simp at this
    exact this
  rw [show 4 + 3 = 7 from rfl] at f1
  simp only [f1]
  have hk := kk _ ⟨_, isP.out, rfl⟩
  simp [go_sem, isP.out.top, e3]
  exact hk
def firstF (n : Nat) (p : Nat → Bool) : Nat := ((List.range n).find? p).getD 0
theorem firstF_ok {n : Nat} {p : Nat → Bool} (h : ∃ k, k < n ∧ p k = true) : firstF n p < n ∧ p (firstF n p) = true ∧ ∀ j, j < firstF n p → p j = false := by
  obtain ⟨k0, a1, a2⟩ := h
  unfold firstF
  cases hf : (List.range n).find? p with
  | none =>
    have := List.find?_eq_none.1 hf k0 (List.mem_range.2 a1)
    exact absurd a2 this
  | some k =>
    obtain ⟨b1, l1, l2, b2, b3⟩ := List.find?_eq_some_iff_append.1 hf
    have hk : k < n := List.mem_range.1 (by rw [b2]; simp)
    refine ⟨hk, b1, fun j hj => ?_⟩
    simp only [Option.getD_some] at hj
    have hlen : l1.length = k := by
      have e1 : (List.range n)[l1.length]? = some k := by rw [b2]; simp
      rw [List.getElem?_range (by
        have : (List.range n).length = n := List.length_range
        rw [b2] at this; simp at this; omega)] at e1
      simpa using e1
    have : j ∈ l1 := by
      have e1 : (List.range n)[j]? = some j := by rw [List.getElem?_range (by omega)]
      rw [b2, List.getElem?_append_left (by omega)] at e1
      exact List.mem_of_getElem? e1
    simpa using b3 j this
def rdP (L : List Nat) (g : Nat → Bool) : Nat → Bool := fun k => !g k && !L.contains k
def rdF (n : Nat) : List Nat → (Nat → Bool) → List ZZ → List ZZ × (Nat → Bool)
  | [], g, b => (b, g)
  | x :: r, g, b => rdF n r (updB g (firstF n (rdP (x :: r) g)) true) (b ++ [((firstF n (rdP (x :: r) g) : Int), (x : Int))])
def lastF (n : Nat) (g : Nat → Bool) : ZZ := ((firstF n fun k => !g k : Nat), (firstF n fun k => !updB g (firstF n fun k => !g k) true k : Nat))
def rdAll (n : Nat) (l : List Nat) : List ZZ := if n ≤ 1 then [] else (rdF n l (fun _ => false) []).1 ++ [lastF n (rdF n l (fun _ => false) []).2]
theorem lftN_clear {n k : Nat} {g : Nat → Bool} (hk : k < n) (hg : g k = false) : lftN n (updB g k true) + 1 = lftN n g :=
  Sm_upd (n := n) (F := fun x => if g x then 0 else 1) (G := fun x => if updB g k true x then 0 else 1) (a := k) (d := 1) hk (fun x hx hne => by simp [updB, hne]) (by simp [hg, updB])
theorem lftN_list {n : Nat} : ∀ {L : List Nat} {g : Nat → Bool}, (∀ k, k < n → g k = false → k ∈ L) → lftN n g ≤ L.length
  | [], g, h => by
    have : lftN n g = Sm n fun _ => 0 := Sm_congr fun x hx => by
      cases e : g x with
      | true => rfl
      | false => exact absurd (h x hx e) (by simp)
    rw [this, Sm_zero]; simp
  | x :: r, g, h => by
    have ih := lftN_list (n := n) (L := r) (g := updB g x true) fun k hk hg => by
      have hne : k ≠ x := fun e => by subst e; simp [updB] at hg
      rcases List.mem_cons.1 (h k hk (by simpa [updB, hne] using hg)) with e | e
      · exact absurd e hne
      · exact e
    rw [List.length_cons]
    by_cases hx : x < n ∧ g x = false
    · have := lftN_clear hx.1 hx.2; omega
    · have : lftN n (updB g x true) = lftN n g := Sm_congr fun y hy => by
        by_cases e : y = x
        · subst e
          have : g y = true := by
            cases e2 : g y with
            | true => rfl
            | false => exact absurd ⟨hy, e2⟩ hx
          simp [updB, this]
        · simp [updB, e]
      omega
structure RI (n : Nat) (L : List Nat) (g : Nat → Bool) (b : List ZZ) : Prop where
  lt : ∀ x ∈ L, x < n
  ng : ∀ x ∈ L, g x = false
  cnt : lftN n g = L.length + 2
  gone : ∀ p ∈ b, g p.1.toNat = true
  ok : ∀ p ∈ b, okP n p
theorem RI.free {n x y : Nat} {L : List Nat} {g : Nat → Bool} {b : List ZZ} (h : RI n L g b) (hx : g x = false) (hy : g y = false) : tieB b x y = false := by
  cases ht : tieB b x y with
  | false => rfl
  | true =>
    rw [tieB_iff] at ht
    rcases ht with e | e
    · have := h.gone _ e; simp only [Int.toNat_natCast] at this; rw [hx] at this; cases this
    · have := h.gone _ e; simp only [Int.toNat_natCast] at this; rw [hy] at this; cases this
theorem RI.step {n x : Nat} {r : List Nat} {g : Nat → Bool} {b : List ZZ} (h : RI n (x :: r) g b) : ∃ k, k = firstF n (rdP (x :: r) g) ∧ k < n ∧ x < n ∧ k ≠ x ∧ g k = false ∧ g x = false ∧ k ∉ x :: r ∧ (∀ j, j < k → g j = true ∨ j ∈ x :: r) ∧ tieB b k x = false ∧ RI n r (updB g k true) (b ++ [((k : Int), (x : Int))]) := by
  have hex : ∃ k, k < n ∧ rdP (x :: r) g k = true := by
    apply Classical.byContradiction
    intro hc
    have := lftN_list (n := n) (L := x :: r) (g := g) fun k hk hg => by
      apply Classical.byContradiction
      intro hm
      refine hc ⟨k, hk, ?_⟩
      unfold rdP
      simp only [hg, Bool.not_false, Bool.true_and, Bool.not_eq_true', List.contains_eq_mem, decide_eq_false_iff_not]
      exact hm
    have := h.cnt
    omega
  obtain ⟨a1, a2, a3⟩ := firstF_ok hex
  refine ⟨_, rfl, ?_⟩
  generalize firstF n (rdP (x :: r) g) = k at *
  have hx := h.lt x (List.mem_cons_self ..)
  have gx := h.ng x (List.mem_cons_self ..)
  unfold rdP at a2 a3
  simp only [Bool.and_eq_true, Bool.not_eq_true', List.contains_eq_mem, decide_eq_false_iff_not] at a2
  have hkx : k ≠ x := fun e => a2.2 (by rw [e]; exact List.mem_cons_self ..)
  refine ⟨a1, hx, hkx, a2.1, gx, a2.2, fun j hj => ?_, h.free a2.1 gx, fun y hy => h.lt y (List.mem_cons_of_mem _ hy), fun y hy => ?_, ?_, fun p hp => ?_, fun p hp => ?_⟩
  · have := a3 j hj
    cases e : g j with
    | true => exact .inl rfl
    | false =>
      right
      rw [e] at this
      have h2 : (x :: r).contains j = true := by
        cases h3 : (x :: r).contains j with
        | true => rfl
        | false => rw [h3] at this; cases this
      simpa using h2
  · have hne : y ≠ k := fun e => a2.2 (by rw [← e]; exact List.mem_cons_of_mem _ hy)
    simp [updB, hne, h.ng y (List.mem_cons_of_mem _ hy)]
  · have := lftN_clear a1 a2.1
    have := h.cnt
    rw [List.length_cons] at this
    omega
  · rcases List.mem_append.1 hp with hp | hp
    · have := h.gone p hp
      simp only [updB]; split
      · rfl
      · exact this
    · rw [List.mem_singleton] at hp; subst hp
      simp [updB]
  · rcases List.mem_append.1 hp with hp | hp
    · exact h.ok p hp
    · rw [List.mem_singleton] at hp; subst hp
      exact ⟨by simp, by simp, by simp only; omega, by simp only; omega, by simp only; omega⟩
theorem RI.last {n : Nat} {g : Nat → Bool} {b : List ZZ} (h : RI n [] g b) : ∃ a c : Nat, lastF n g = ((a : Int), (c : Int)) ∧ a < n ∧ c < n ∧ a ≠ c ∧ g a = false ∧ g c = false ∧ (∀ j, j < a → g j = true) ∧ (∀ j, j < c → updB g a true j = true) ∧ tieB b a c = false ∧ ∀ x, x < n → g x = false → x = a ∨ x = c := by
  have hc := h.cnt
  simp only [List.length_nil, Nat.zero_add] at hc
  have hex : ∃ k, k < n ∧ (!g k) = true := by
    apply Classical.byContradiction
    intro hcc
    have := lftN_list (n := n) (L := []) (g := g) fun k hk hg => absurd ⟨k, hk, by rw [hg]; rfl⟩ hcc
    simp at this; omega
  obtain ⟨a1, a2, a3⟩ := firstF_ok hex
  unfold lastF
  generalize (firstF n fun k => !g k) = a at *
  have ga : g a = false := by simpa using a2
  have hc2 := lftN_clear a1 ga
  have hex2 : ∃ k, k < n ∧ (!updB g a true k) = true := by
    apply Classical.byContradiction
    intro hcc
    have := lftN_list (n := n) (L := []) (g := updB g a true) fun k hk hg => absurd ⟨k, hk, by rw [hg]; rfl⟩ hcc
    simp at this; omega
  obtain ⟨c1, c2, c3⟩ := firstF_ok hex2
  generalize (firstF n fun k => !updB g a true k) = c at *
  have gc' : updB g a true c = false := by simpa using c2
  have hca : c ≠ a := fun e => by subst e; simp [updB] at gc'
  have gc : g c = false := by simpa [updB, hca] using gc'
  refine ⟨a, c, rfl, a1, c1, fun e => hca e.symm, ga, gc, fun j hj => by simpa using a3 j hj, fun j hj => by simpa using c3 j hj, h.free ga gc, fun x hx gx => ?_⟩
  apply Classical.byContradiction
  intro hne
  have h1 : x ≠ a := fun e => hne (.inl e)
  have h2 : x ≠ c := fun e => hne (.inr e)
  have d1 := lftN_clear c1 gc'
  have gx2 : updB (updB g a true) c true x = false := by simp [updB, h1, h2, gx]
  have d2 := lftN_clear hx gx2
  omega
end Go.Proofs.YtoipleipokpnaaaGreat.Code
end
section
namespace Go.Proofs.YtoipleipokpnaaaGreat.Code
open Go Go.Ab
variable {pure : Bool} {base bar : Nat} {H : Heap} {Q : AV → Heap → Prop}
theorem l76 {n k0 id ver fz : Nat} {ex : Bool} {D : Nat → Int} (hid : H[id]? = some (.row ver (dc n D) fz ex)) (hn : n ≤ 9) (hk : k0 < n) (h0 : D k0 = 0) (hpre : ∀ j, j < k0 → D j ≠ 0) {R : PQ} :
    ∀ (k i : Nat), i + k = k0 → R .ret [(4, .int .i64 (k0 : Nat))] H →
    Wp E base bar (.loop c76_l0) [(0, .vec id ver 0 n 1), (1, .int .i64 0), (7, .int .i64 (n : Nat)), (8, .int .i64 (i : Nat))] H R := by
  intro k
  induction k with
  | zero =>
    intro i hi h
    obtain rfl : i = k0 := by omega
    rw [wp_round c76_l0.eq_1]
    simp [go_sem, hk, aload, hid, dc_get, dc_getE, dc_len, h0]
    exact h
  | succ k ih =>
    intro i hi h
    have hlt : i < k0 := by omega
    have hne : ¬ (0 : Int) = D i := fun e => hpre i hlt e.symm
    rw [wp_round c76_l0.eq_1]
    simp [go_sem, show i < n by omega, aload, hid, dc_get, dc_getE, dc_len, hne, i64_suc (show i < 1000000 by omega)]
    exact ih (i + 1) (by omega) h
theorem k76 {n k0 id ver fz : Nat} {ex : Bool} {D : Nat → Int} (hid : H[id]? = some (.row ver (dc n D) fz ex)) (hn : n ≤ 9) (hk : k0 < n) (h0 : D k0 = 0) (hpre : ∀ j, j < k0 → D j ≠ 0) (h : Q (.int .i64 (k0 : Nat)) H) :
    WpCall E pure base bar 76 [.vec id ver 0 n 1, .int .i64 0] H Q := by
  rw [call76]
  simp [go_sem, WpFun, c76]
  refine l76 hid hn hk h0 hpre k0 0 (by omega) ?_
  simp [go_sem]
  exact h
/-- how often -/
def cD (L : List Nat) : Nat → Int := fun x => ((L.count x : Nat) : Int)
theorem cD_snoc {L : List Nat} {t : Nat} : updZ (cD L) t (cD L t + 1) = cD (L ++ [t]) := by
  funext x
  unfold updZ cD
  rw [List.count_append]
  by_cases h : x = t
  · subst h; simp
  · simp [h, show ¬ t = x from fun e => h e.symm]
theorem cD_bd {L : List Nat} {t : Nat} : 0 ≤ cD L t ∧ cD L t ≤ L.length := by
  unfold cD
  have := List.count_le_length (a := t) (l := L)
  omega
def DF (g : Nat → Bool) (L : List Nat) : Nat → Int := fun x => if g x then -1 else cD L x
theorem DF_start {L : List Nat} : DF (fun _ => false) L = cD L := by funext x; simp [DF]
theorem DF_off {g : Nat → Bool} {L : List Nat} {a : Nat} : updZ (DF g L) a (-1) = DF (updB g a true) L := by
  funext x
  unfold updZ DF updB
  by_cases h : x = a
  · simp [h]
  · simp [h]
theorem DF_next {g : Nat → Bool} {r : List Nat} {x : Nat} (gx : g x = false) : updZ (DF g (x :: r)) x (DF g (x :: r) x - 1) = DF g r := by
  funext y
  unfold updZ DF cD
  by_cases h : y = x
  · subst h; simp [gx]
  · have : ¬ x = y := fun e => h e.symm
    simp [h, List.count_cons, this]
/-- the heap while a list is read -/
def HR (H : Heap) (n : Nat) (w : Nat → Nat) (D : Nat → Int) : Heap := H ++ [.row 0 (wc n w) 0 true, .row 0 (dc n D) 0 true]
theorem l48a {n : Nat} {lv : AV} {l : List Nat} {w : Nat → Nat} (hl : isL lv l) (hlen : l.length < 100) (hv : ∀ x ∈ l, x < n) (hb : bar ≤ H.length) {R : PQ} :
    ∀ (k i : Nat), i + k = l.length →
    R (.exit 0) [(0, .int .i64 (n : Nat)), (1, lv), (5, .vec H.length 0 0 n 1), (6, .vec (H.length + 1) 0 0 n 1), (17, lv), (18, .int .i64 (l.length : Nat)), (19, .int .i64 (l.length : Nat)), (20, .bool false)] (HR H n w (cD l)) →
    Wp E base bar (.loop c48_l0) [(0, .int .i64 (n : Nat)), (1, lv), (5, .vec H.length 0 0 n 1), (6, .vec (H.length + 1) 0 0 n 1), (17, lv), (18, .int .i64 (l.length : Nat)), (19, .int .i64 (i : Nat))] (HR H n w (cD (l.take i))) R := by
  intro k
  induction k with
  | zero =>
    intro i hi h
    obtain rfl : i = l.length := by omega
    rw [List.take_length]
    rw [wp_round c48_l0.eq_1]
    simp [go_sem]
    exact h
  | succ k ih =>
    intro i hi h
    have hlt : i < l.length := by omega
    have hnext := ih (i + 1) (by omega) h
    have htk : l.take (i + 1) = l.take i ++ [l[i]] := by rw [List.take_add_one, List.getElem?_eq_getElem hlt]; rfl
    have ht := hv _ (List.getElem_mem hlt)
    have hix := fun (H : Heap) (K : AV → Heap → List Nat → Prop) => hl.ix (H := H) (K := K) (k := .i64) hlt
    rw [htk, ← cD_snoc] at hnext
    generalize l[i] = t at *
    have hbd := cD_bd (L := l.take i) (t := t)
    have hbl : (l.take i).length ≤ 100 := by rw [List.length_take]; omega
    have hw : IntKind.i64.wrap (cD (l.take i) t + 1) = cD (l.take i) t + 1 := Go.IntWalk.i64_in _ (by omega)
    generalize cD (l.take i) = D at *
    have c1 : bar ≤ H.length + 1 := by omega
    have hg : (HR H n w D)[H.length + 1]? = some (.row 0 (dc n D) 0 true) := by simp [HR]
    have hs : ∀ D', (HR H n w D).set (H.length + 1) (.row 0 (dc n D') 0 true) = HR H n w D' := fun D' => by simp [HR, own_set]
    generalize HR H n w D = H1 at *
    rw [wp_round c48_l0.eq_1]
    simp [go_sem, hlt, hix, aload, ht, hg, dc_get, dc_getE, dc_len, hw, storeWp, astore, AV.isTup, AV.cells, c1, show t + 1 ≤ n from ht, dc_set, hs, i64_suc (show i < 1000000 by omega)]
    exact hnext
theorem lftN_le {g : Nat → Bool} : ∀ {n : Nat}, lftN n g ≤ n
  | 0 => Nat.le_refl _
  | n + 1 => by
    have ih := lftN_le (g := g) (n := n)
    unfold lftN at ih ⊢
    simp only [Sm]
    split <;> omega
theorem l48b {n : Nat} {lv : AV} {l : List Nat} (hl : isL lv l) (hlen : l.length < 100) (hn : n ≤ 9) (hb : bar ≤ H.length) {R : PQ} :
    ∀ (k i : Nat), i + k = l.length → ∀ (g : Nat → Bool) (b : List ZZ) (w : Nat → Nat), RI n (l.drop i) g b → Wd n b w →
    (∀ g' b' w', rdF n (l.drop i) g b = (b', g') → RI n [] g' b' → Wd n b' w' → R (.exit 2) [(0, .int .i64 (n : Nat)), (5, .vec H.length 0 0 n 1), (6, .vec (H.length + 1) 0 0 n 1), (30, lv), (31, .int .i64 (l.length : Nat)), (32, .int .i64 (l.length : Nat)), (33, .bool false)] (HR H n w' (DF g' []))) →
    Wp E base bar (.loop c48_l1) [(0, .int .i64 (n : Nat)), (5, .vec H.length 0 0 n 1), (6, .vec (H.length + 1) 0 0 n 1), (30, lv), (31, .int .i64 (l.length : Nat)), (32, .int .i64 (i : Nat))] (HR H n w (DF g (l.drop i))) R := by
  intro k
  induction k with
  | zero =>
    intro i hi g b w hR hw h
    obtain rfl : i = l.length := by omega
    rw [List.drop_length] at hR h ⊢
    rw [wp_round c48_l1.eq_1]
    simp [go_sem]
    exact h g b w rfl hR hw
  | succ k ih =>
    intro i hi g b w hR hw h
    have hlt : i < l.length := by omega
    rw [List.drop_eq_getElem_cons hlt] at hR h ⊢
    have hnext := ih (i + 1) (by omega)
    have hix := fun (H : Heap) (K : AV → Heap → List Nat → Prop) => hl.ix (H := H) (K := K) (k := .i64) hlt
    generalize l[i] = x at *
    generalize l.drop (i + 1) = r at *
    obtain ⟨k0, e0, a1, a2, a3, a4, a5, a6, a7, a8, a9⟩ := hR.step
    simp only [rdF, ← e0] at h
    have hD0 : DF g (x :: r) k0 = 0 := by
      unfold DF cD
      rw [a4]
      have : (x :: r).count k0 = 0 := List.count_eq_zero.2 a6
      simp [this]
    have hDp : ∀ j, j < k0 → DF g (x :: r) j ≠ 0 := fun j hj => by
      unfold DF cD
      rcases a7 j hj with e | e
      · simp [e]
      · split
        · decide
        · have := List.count_pos_iff.2 e
          omega
    have hDx : 1 ≤ DF g (x :: r) x ∧ DF g (x :: r) x ≤ 100 := by
      unfold DF cD
      rw [a5]
      have h1 := List.count_le_length (a := x) (l := r)
      simp only [Bool.false_eq_true, if_false, List.count_cons_self]
      have h3 := hR.cnt
      rw [List.length_cons] at h3
      have h2 := lftN_le (n := n) (g := g)
      omega
    have hux : updZ (DF g (x :: r)) k0 (-1) x = DF g (x :: r) x := by unfold updZ; rw [if_neg (fun e => a3 e.symm)]
    have hwr : IntKind.i64.wrap (DF g (x :: r) x - 1) = DF g (x :: r) x - 1 := Go.IntWalk.i64_in _ (by omega)
    have hw' := hw.tie hn a1 a2 a3 a8
    have hfin : updZ (updZ (DF g (x :: r)) k0 (-1)) x (DF g (x :: r) x - 1) = DF (updB g k0 true) r := by
      have gx : updB g k0 true x = false := by simp [updB, a5, show ¬ x = k0 from fun e => a3 e.symm]
      rw [← hux, DF_off, DF_next gx]
    have hnx := hnext (updB g k0 true) _ _ a9 hw' h
    rw [← hfin] at hnx
    generalize DF g (x :: r) = D at *
    have c1 : bar ≤ H.length + 1 := by omega
    have hid : ∀ w D, (HR H n w D)[H.length + 1]? = some (.row 0 (dc n D) 0 true) := fun w D => by simp [HR]
    have hid0 : ∀ w D, (HR H n w D)[H.length]? = some (.row 0 (wc n w) 0 true) := fun w D => by simp [HR]
    have hs : ∀ w D D', (HR H n w D).set (H.length + 1) (.row 0 (dc n D') 0 true) = HR H n w D' := fun w D D' => by simp [HR, own_set]
    have hs0 : ∀ w D w', (HR H n w D).set H.length (.row 0 (wc n w') 0 true) = HR H n w' D := fun w D w' => by simp [HR, own_set]
    have hlen1 : ∀ w D, bar ≤ (HR H n w D).length := fun w D => by simp [HR]; omega
    generalize hHR : HR H n = HRf at *
    rw [wp_round c48_l1.eq_1]
    simp [go_sem, hlt, hix, aload]
    refine k76 (hid w D) hn a1 hD0 hDp ?_
    simp [go_sem, aop, fillA, setCells, AV.cells]
    refine k65 (hid0 w D) hn hw.lt a1 a2 hb ?_
    rw [hs0]
    simp [go_sem, a1, a2, aload, storeWp, astore, AV.isTup, AV.cells, hid, dc_get, dc_getE, dc_len, c1, show k0 + 1 ≤ n from a1, show x + 1 ≤ n from a2, dc_set, hs, hux, hwr, i64_suc (show i < 1000000 by omega)]
    exact hnx
end Go.Proofs.YtoipleipokpnaaaGreat.Code
end
section
namespace Go.Proofs.YtoipleipokpnaaaGreat.Code
open Go Go.Ab
variable {pure : Bool} {base bar : Nat} {H : Heap} {Q : AV → Heap → Prop}
theorem RI.start {n : Nat} {l : List Nat} (h2 : 2 ≤ n) (hlen : l.length = n - 2) (hv : ∀ x ∈ l, x < n) : RI n l (fun _ => false) [] := by
  refine ⟨hv, fun _ _ => rfl, ?_, fun p hp => (by cases hp), fun p hp => (by cases hp)⟩
  have : lftN n (fun _ => false) = n := by
    have := Sm_one n
    unfold lftN; simpa using this
  omega
theorem k48 {n : Nat} {lv : AV} {l : List Nat} (hl : isL lv l) (h1 : 1 ≤ n) (hn : n ≤ 9) (hlen : l.length = n - 2) (hv : ∀ x ∈ l, x < n) (hb : bar ≤ H.length)
    (h : ∀ w, Wd n (rdAll n l) w → Q (.lst 1 false (wc n w)) H) : WpCall E pure base bar 48 [.int .i64 (n : Nat), lv] H Q := by
  rw [call48]
  have e0 : frzAll bar H [.int .i64 (n : Nat), lv] = some ([.int .i64 (n : Nat), lv], H) := by simp [frzAll, frz.frzs, frzsW, frz_int, hl.frz]
  rw [e0]
  have hb' : (if pure = true then H.length else bar) ≤ H.length := bar_if hb
  have hz : List.flatten (List.replicate n [AV.int IntKind.u16 0]) = wc n fun _ => 0 := by
    simp [wc, List.flatten_replicate_singleton, List.map_const']
  have hz2 : List.flatten (List.replicate n [AV.int IntKind.i64 0]) = dc n (cD []) := by
    simp [dc, cD, List.flatten_replicate_singleton, List.map_const']
  have hbd : n * 2 ≤ 140737488355328 := by omega
  have hbd2 : n * 8 ≤ 140737488355328 := by omega
  have c1 : (if pure = true then H.length else bar) ≤ H.length + 1 := by omega
  have hfr : ∀ (w : Nat → Nat) (D : Nat → Int), ∃ b, frz 8 (if pure = true then H.length else bar) (HR H n w D) (.vec H.length 0 0 n 1) = some (.lst 1 false (wc n w), (HR H n w D).set H.length b) := fun w D => wood_frz (d := 5) (fz := 0) (ex := true) (by simp [HR]) hb'
  have htk : ∀ (w : Nat → Nat) (D : Nat → Int) b, ((HR H n w D).set H.length b).take H.length = H := fun w D b => by simp [HR, own_set0]
  have htop : ∀ w, (AV.lst 1 false (wc n w)).top = 0 := fun w => by rw [top_lst, wc_tops]
  simp [go_sem, WpFun, c48, aop, AV.asNat, hz, hz2, hbd, hbd2, hl.len]
  have e1 : H ++ [.row 0 (wc n fun _ => 0) 0 true, .row 0 (dc n (cD [])) 0 true] = HR H n (fun _ => 0) (cD (l.take 0)) := rfl
  rw [e1]
  refine l48a hl (by omega) hv hb' l.length 0 (by omega) ?_
  simp [go_sem, hl.len]
  by_cases h2 : 2 ≤ n
  · have hR := RI.start h2 hlen hv
    have hcD : cD l = DF (fun _ => false) (l.drop 0) := by rw [List.drop_zero, DF_start]
    rw [hcD]
    refine l48b hl (by omega) hn hb' l.length 0 (by omega) _ [] _ (by rw [List.drop_zero]; exact hR) Wd.nil fun g b w e hR2 hw => ?_
    rw [List.drop_zero] at e
    obtain ⟨a, c, f0, f1, f2, f3, f4, f5, f6, f7, f8, f9⟩ := hR2.last
    have hall : rdAll n l = b ++ [((a : Int), (c : Int))] := by unfold rdAll; rw [if_neg (by omega), e, f0]
    have hw' := hw.tie hn f1 f2 f3 f8
    rw [← hall] at hw'
    have hk := h _ hw'
    have hD1 : DF g [] a = 0 := by unfold DF cD; rw [f4]; simp
    have hD1p : ∀ j, j < a → DF g [] j ≠ 0 := fun j hj => by unfold DF; rw [f6 j hj]; simp
    have hca : ¬ c = a := fun e => f3 e.symm
    have hD2 : updZ (DF g []) a (-1) c = 0 := by
      unfold updZ; rw [if_neg hca]; unfold DF cD; rw [f5]; simp
    have hD2p : ∀ j, j < c → updZ (DF g []) a (-1) j ≠ 0 := fun j hj => by
      rw [DF_off]; unfold DF; rw [f7 j hj]; simp
    generalize DF g [] = D at *
    have hid : ∀ w D, (HR H n w D)[H.length + 1]? = some (.row 0 (dc n D) 0 true) := fun w D => by simp [HR]
    have hid0 : ∀ w D, (HR H n w D)[H.length]? = some (.row 0 (wc n w) 0 true) := fun w D => by simp [HR]
    have hs : ∀ w D D', (HR H n w D).set (H.length + 1) (.row 0 (dc n D') 0 true) = HR H n w D' := fun w D D' => by simp [HR, own_set]
    have hs0 : ∀ w D w', (HR H n w D).set H.length (.row 0 (wc n w') 0 true) = HR H n w' D := fun w D w' => by simp [HR, own_set]
    obtain ⟨b3, hfr3⟩ := hfr (tieW w a c) (updZ D a (-1))
    have htk3 := htk (tieW w a c) (updZ D a (-1)) b3
    generalize hHR : HR H n = HRf at *
    have hn1 : (1 : Int) < (n : Int) := by omega
    simp [go_sem, hn1, show 1 < n by omega]
    refine k76 (hid w D) hn f1 hD1 hD1p ?_
    simp [go_sem, f1, aload, storeWp, astore, AV.isTup, AV.cells, hid, dc_len, c1, show a + 1 ≤ n from f1, dc_set, hs]
    refine k76 (hid w (updZ D a (-1))) hn f2 hD2 hD2p ?_
    simp [go_sem, aop, fillA, setCells, AV.cells]
    refine k65 (hid0 w (updZ D a (-1))) hn hw.lt f1 f2 hb' ?_
    rw [hs0]
    simp [go_sem, hfr3, htop, htk3]
    exact hk
  · obtain rfl : n = 1 := by omega
    obtain rfl : l = [] := List.length_eq_zero_iff.1 (by omega)
    have hall : rdAll 1 [] = [] := by unfold rdAll; rw [if_pos (Nat.le_refl _)]
    have hk := h (fun _ => 0) (by rw [hall]; exact Wd.nil)
    obtain ⟨b3, hfr3⟩ := hfr (fun _ => 0) (cD [])
    have htk3 := htk (fun _ => 0) (cD []) b3
    rw [wp_round c48_l1.eq_1]
    simp [go_sem, hfr3, htop, htk3]
    exact hk
end Go.Proofs.YtoipleipokpnaaaGreat.Code
end
section
namespace Go.Proofs.YtoipleipokpnaaaGreat.Code
open Go Go.Ab
variable {pure : Bool} {base bar : Nat} {H : Heap} {Q : AV → Heap → Prop} {K : AV → Heap → List Nat → Prop}
/-! lists of numbers with a sign -/
def ints (l : List Int) : List AV := l.map (.int .i64)
def isZ (v : AV) (l : List Int) : Prop := (v = .nils ∧ l = []) ∨ ∃ ex, v = .lst 1 ex (ints l)
def natsZ (l : List Nat) : List Int := l.map fun x : Nat => (x : Int)
theorem ints_nats {l : List Nat} : ints (natsZ l) = nats l := by simp [ints, natsZ, nats]
theorem isL.z {v : AV} {l : List Nat} (h : isL v l) : isZ v (natsZ l) := by
  rcases h with ⟨rfl, rfl⟩ | ⟨ex, rfl⟩
  · exact .inl ⟨rfl, rfl⟩
  · exact .inr ⟨ex, by rw [ints_nats]⟩
theorem isZ.l {v : AV} {l : List Nat} (h : isZ v (natsZ l)) : isL v l := by
  rcases h with ⟨rfl, h⟩ | ⟨ex, rfl⟩
  · cases l with
    | nil => exact .nil
    | cons a r => simp [natsZ] at h
  · rw [ints_nats]; exact .lst
theorem isZ.len {v : AV} {l : List Int} (h : isZ v l) : lenWp (some v) H K = K (.int .i64 (l.length : Int)) H [] := by
  rcases h with ⟨rfl, rfl⟩ | ⟨ex, rfl⟩
  · rfl
  · rw [lenWp_lst]; simp [ints]
theorem isZ.frz {v : AV} {l : List Int} (h : isZ v l) {d : Nat} : Go.Ab.frz (d + 1) bar H v = some (v, H) := by
  rcases h with ⟨rfl, rfl⟩ | ⟨ex, rfl⟩ <;> rfl
theorem isZ.top {v : AV} {l : List Int} (h : isZ v l) : v.top = 0 := by
  rcases h with ⟨rfl, rfl⟩ | ⟨ex, rfl⟩
  · rfl
  · show AV.top.tops _ = 0
    exact tops_ints
theorem isZ.ix {v : AV} {l : List Int} (h : isZ v l) {k : IntKind} {i : Nat} (hi : i < l.length) : ixaSWp 1 (some v) (some (.int k (i : Int))) H K = K (.fp (.int .i64 l[i])) H [] := by
  rcases h with ⟨rfl, rfl⟩ | ⟨ex, rfl⟩
  · simp at hi
  · rw [ixaSWp_lst]
    simp only [Int.toNat_natCast]
    rw [show (ints l)[i]? = some (.int .i64 l[i]) by simp [ints, List.getElem?_eq_getElem hi]]
    simp [valWp_some]
theorem isZ.isTup {v : AV} {l : List Int} (h : isZ v l) : v.isTup = false := by
  rcases h with ⟨rfl, rfl⟩ | ⟨ex, rfl⟩ <;> rfl
theorem isZ.cells {v : AV} {l : List Int} (h : isZ v l) : v.cells = [v] := by
  rcases h with ⟨rfl, rfl⟩ | ⟨ex, rfl⟩ <;> rfl
/-! Read: what may be in a list -/
def outR (n s : Int) : Bool := !(decide (0 ≤ s) && decide (s ≤ n - 1))
theorem k59 {id ver fz n : Nat} {ex : Bool} {s : Int} (hn : n ≤ 9) (hid : H[id]? = some (.row ver [.int .i64 (n : Nat)] fz ex)) (h : Q (.bool (outR n s)) H) : WpCall E pure base bar 59 [.int .i64 s, .ptr id ver 0] H Q := by
  have hlt := (List.getElem?_eq_some_iff.1 hid).1
  have ld : aload H ⟨false, 1⟩ (.ptr id ver 0) = some (.int .i64 (n : Nat)) := by rw [aload_ptr hid]; rfl
  rw [call59]
  unfold outR at h
  rw [Bool.not_and] at h
  simp [go_sem, WpFun, c59, ld, i64_pred hn, k46]
  exact h
theorem l79 {id ver fz n : Nat} {ex : Bool} {v : AV} {l : List Int} (hn : n ≤ 9) (hv : isZ v l) (hl : l.length < 1000) (hid : H[id]? = some (.row ver [.int .i64 (n : Nat)] fz ex)) {R : PQ} : ∀ (k i : Nat), i + k = l.length →
    ((l.drop i).any (outR n) = false → R (.exit 0) [(0, v), (1, .fn 59 [] [.ptr id ver 0]), (7, .int .i64 (l.length : Nat)), (8, .int .i64 (l.length : Nat)), (9, .bool false)] H) →
    ((l.drop i).any (outR n) = true → ∀ j : Nat, R .ret [(4, .int .i64 (j : Nat))] H) →
    Wp E base bar (.loop c79_l0) [(0, v), (1, .fn 59 [] [.ptr id ver 0]), (7, .int .i64 (l.length : Nat)), (8, .int .i64 (i : Nat))] H R := by
  intro k
  induction k with
  | zero =>
    intro i hi h1 h2
    obtain rfl : i = l.length := by omega
    rw [List.drop_length] at h1
    rw [wp_round c79_l0.eq_1]
    simp [go_sem]
    exact h1 rfl
  | succ k ih =>
    intro i hi h1 h2
    have hlt : i < l.length := by omega
    rw [List.drop_eq_getElem_cons hlt, List.any_cons] at h1 h2
    have hix := fun (K : AV → Heap → List Nat → Prop) (k : IntKind) => hv.ix (H := H) (K := K) (k := k) hlt
    generalize l[i] = x at *
    rw [wp_round c79_l0.eq_1]
    simp [go_sem, hlt, hix]
    refine k59 hn hid ?_
    cases hc : outR n x
    · rw [hc] at h1 h2
      simp only [Bool.false_or] at h1 h2
      have next := ih (i + 1) (by omega) h1 h2
      simp [go_sem, i64_suc (show i < 1000000 by omega)]
      exact next
    · rw [hc] at h1 h2
      simp [go_sem]
      exact h2 rfl i
theorem k58 {id ver fz n : Nat} {ex : Bool} {v : AV} {l : List Int} (hn : n ≤ 9) (hv : isZ v l) (hl : l.length < 1000) (hid : H[id]? = some (.row ver [.int .i64 (n : Nat)] fz ex)) (h : Q (.bool (l.any (outR n))) H) :
    WpCall E pure base bar 58 [v, .fn 59 [] [.ptr id ver 0]] H Q := by
  rw [call58]
  simp [go_sem, WpFun, c58, hv.frz]
  rw [call79]
  simp [go_sem, WpFun, c79, hv.frz, hv.len]
  refine l79 hn hv hl hid l.length 0 (by omega) (fun hm => ?_) (fun hm j => ?_)
  · rw [List.drop_zero] at hm
    rw [hm] at h
    simp [go_sem]
    exact h
  · rw [List.drop_zero] at hm
    rw [hm] at h
    simp [go_sem]
    exact h
def rdE (n : Int) (l : List Int) : Int := if ¬ (1 ≤ n ∧ n ≤ 9) then 1 else if (l.length : Int) ≠ max 0 (n - 2) then 5 else if l.any (outR n) then 2 else 0
theorem rdE_ok {n : Int} {l : List Int} (h : rdE n l = 0) : ∃ (m : Nat) (L : List Nat), n = m ∧ 1 ≤ m ∧ m ≤ 9 ∧ l = natsZ L ∧ L.length = m - 2 ∧ (∀ x ∈ L, x < m) ∧ (l.length : Int) = max 0 ((m : Int) - 2) ∧ l.any (outR m) = false := by
  unfold rdE at h
  split at h
  · cases h
  · rename_i h1
    split at h
    · cases h
    · rename_i h2
      split at h
      · cases h
      · rename_i h3
        obtain ⟨m, rfl⟩ := Int.eq_ofNat_of_zero_le (show 0 ≤ n by omega)
        have h3' : l.any (outR (m : Int)) = false := by simpa using h3
        have hall : ∀ x ∈ l, 0 ≤ x ∧ x ≤ (m : Int) - 1 := fun x hx => by
          have := (List.any_eq_false.1 h3') x hx
          unfold outR at this
          simpa using this
        have hz : l = natsZ (l.map Int.toNat) := by
          unfold natsZ
          rw [List.map_map]
          conv => lhs; rw [← List.map_id l]
          apply List.map_congr_left
          intro x hx
          have := hall x hx
          simp only [id_eq, Function.comp_apply]
          omega
        refine ⟨m, l.map Int.toNat, rfl, by omega, by omega, hz, ?_, fun x hx => ?_, by omega, h3'⟩
        · rw [List.length_map]; omega
        · obtain ⟨y, hy, rfl⟩ := List.mem_map.1 hx
          have := hall y hy; omega
theorem k25 {n : Int} {v : AV} {l : List Int} (hv : isZ v l) (hl : l.length < 1000) (hbar : bar ≤ H.length)
    (h1 : rdE n l ≠ 0 → Q (.tup [.agg [.int .i64 0, .nils], .int .i64 (rdE n l)]) H)
    (h2 : ∀ (m : Nat) (L : List Nat) u, n = m → rdE n l = 0 → l = natsZ L → isT u m (tidyF (tieB (rdAll m L)) m) → Q (.tup [u, .int .i64 0]) H) : WpCall E pure base bar 25 [.int .i64 n, v] H Q := by
  rw [call25]
  have e0 : frzAll bar H [.int .i64 n, v] = some ([.int .i64 n, v], H) := by simp [frzAll, frz.frzs, frzsW, frz_int, hv.frz]
  rw [e0]
  have hb' : (if pure = true then H.length else bar) ≤ H.length := bar_if hbar
  have hb2 : (if pure = true then H.length else bar) ≤ H.length + 1 := by omega
  by_cases hr : 1 ≤ n ∧ n ≤ 9
  · obtain ⟨m, rfl⟩ := Int.eq_ofNat_of_zero_le (show 0 ≤ n by omega)
    have hm1 : 1 ≤ m := by omega
    have hm9 : m ≤ 9 := by omega
    have hr' : (decide (1 ≤ (m : Int)) && decide ((m : Int) ≤ 9)) = true := by simp; omega
    have hi2 : IntKind.i64.wrap ((m : Int) - 2) = (m : Int) - 2 := Go.IntWalk.i64_in _ (by omega)
    have hmx : (if 2 < (m : Int) then (m : Int) - 2 else 0) = max 0 ((m : Int) - 2) := by split <;> omega
    by_cases hlen : (l.length : Int) = if 2 < (m : Int) then (m : Int) - 2 else 0
    · have hlb : ((l.length : Int) == if 2 < (m : Int) then (m : Int) - 2 else 0) = true := by rw [beq_iff_eq]; exact hlen
      simp [go_sem, WpFun, c25, hv.isTup, hv.cells, aload, AV.isTup, AV.cells, k46, hr', aop, Opd.evo, hi2, hv.len]
      rw [if_pos hlen]
      refine k58 (fz := 0) (ex := true) (n := m) hm9 hv hl (by simp) ?_
      cases ha : l.any (outR m) with
      | true =>
        have e : rdE m l = 2 := by unfold rdE; rw [if_neg (by simpa using hr), if_neg (by rw [← hmx]; simpa using hlen), if_pos ha]
        have hh := h1 (by rw [e]; decide)
        rw [e] at hh
        simp [go_sem, fillA, setCells, storeWp, astore, AV.isTup, AV.cells, hb2, aload]
        exact hh
      | false =>
        have e : rdE m l = 0 := by unfold rdE; rw [if_neg (by simpa using hr), if_neg (by rw [← hmx]; simpa using hlen), if_neg (by simp [ha])]
        obtain ⟨m', L, em, _, _, hz, hLlen, hLv, _, _⟩ := rdE_ok e
        obtain rfl : m = m' := by omega
        have hvl : isL v L := isZ.l (by rw [← hz]; exact hv)
        simp [go_sem, aload]
        refine k48 hvl hm1 hm9 hLlen hLv (by simp; omega) fun w hw => ?_
        have ef : (fun a b => (w a).testBit b) = tieB (rdAll m L) := by funext a b; exact hw.bit a b
        simp [go_sem]
        refine k49l hm9 hw.lt (by simp; omega) fun u hu => ?_
        rw [ef] at hu
        have hk := h2 m L u rfl e hz hu
        obtain ⟨q', hq', rfl⟩ := hu
        simp [go_sem, storeWp, astore, AV.isTup, AV.cells, hb2, aload, hq'.isTup, hq'.cells, frz_agg, hq'.frz, hq'.top, tops_cons, tops_nil]
        exact hk
    · have e : rdE m l = 5 := by unfold rdE; rw [if_neg (by simpa using hr), if_pos (by rw [← hmx]; exact hlen)]
      have hh := h1 (by rw [e]; decide)
      rw [e] at hh
      simp [go_sem, WpFun, c25, hv.isTup, hv.cells, aload, AV.isTup, AV.cells, k46, hr', aop, Opd.evo, hi2, hv.len]
      rw [if_neg hlen]
      simp [go_sem, fillA, setCells, storeWp, astore, AV.isTup, AV.cells, hb2, aload]
      exact hh
  · have hr' : (decide (1 ≤ n) && decide (n ≤ 9)) = false := by simpa using hr
    have e : rdE n l = 1 := by unfold rdE; rw [if_pos hr]
    have hh := h1 (by rw [e]; decide)
    rw [e] at hh
    simp [go_sem, WpFun, c25, hv.isTup, hv.cells, aload, AV.isTup, AV.cells, k46, hr', fillA, setCells, storeWp, astore, hb2]
    exact hh
end Go.Proofs.YtoipleipokpnaaaGreat.Code
end
section
namespace Go.Proofs.YtoipleipokpnaaaGreat.Code
open Go Go.Ab
variable {pure : Bool} {base bar : Nat} {H : Heap} {Q : AV → Heap → Prop} {K : AV → Heap → List Nat → Prop}
end Go.Proofs.YtoipleipokpnaaaGreat.Code
end
section
namespace Go.Proofs.YtoipleipokpnaaaGreat.Code
open Go Go.Ab
variable {pure : Bool} {base bar : Nat} {H : Heap} {Q : AV → Heap → Prop} {K : AV → Heap → List Nat → Prop}
theorem take_same {X : Heap} (hl : H.length ≤ X.length) (h : ∀ j, j < H.length → X[j]? = H[j]?) : X.take H.length = H := by
  apply List.ext_getElem?
  intro j
  rcases Nat.lt_or_ge j H.length with hj | hj
  · rw [List.getElem?_take_of_lt hj]; exact h j hj
  · rw [List.getElem?_eq_none (by rw [List.length_take]; omega), List.getElem?_eq_none hj]
theorem Grow.own {sz : Nat} {cs : List AV} {H0 : Heap} {v : AV} (g : Grow sz cs H0 v H) : Own H0.length sz cs v H := by
  rcases g with ⟨rfl, rfl, rfl⟩ | ⟨ver, fz, h1, h2, rfl, rfl⟩
  · exact .inl ⟨rfl, rfl⟩
  · exact .inr ⟨_, ver, fz, h1, Nat.le_refl _, h2, rfl, by simp⟩
end Go.Proofs.YtoipleipokpnaaaGreat.Code
end
section
namespace Go.Proofs.YtoipleipokpnaaaGreat.Code
open Go Go.Ab
variable {pure : Bool} {base bar : Nat} {H : Heap} {Q : AV → Heap → Prop} {K : AV → Heap → List Nat → Prop}
theorem l20 {u v : AV} {l : List Nat} (hu : isL u l) (hv : isL v l) (hl : l.length < 1000) {R : PQ} :
    ∀ (k i : Nat), i + k = l.length → R (.exit 0) [(0, u), (1, v), (5, .int .i64 (l.length : Nat)), (14, .bool false)] H →
    Wp E base bar (.loop c20_l0) [(0, u), (1, v), (5, .int .i64 (i : Nat))] H R := by
  intro k
  have ulen := fun (H : Heap) (K : AV → Heap → List Nat → Prop) => hu.len (H := H) (K := K)
  induction k with
  | zero =>
    intro i hi h
    obtain rfl : i = l.length := by omega
    rw [wp_round c20_l0.eq_1]
    simp [go_sem, ulen]
    exact h
  | succ k ih =>
    intro i hi h
    have hlt : i < l.length := by omega
    have uix := fun (H : Heap) (K : AV → Heap → List Nat → Prop) (k : IntKind) => hu.ix (H := H) (K := K) (k := k) hlt
    have vix := fun (H : Heap) (K : AV → Heap → List Nat → Prop) (k : IntKind) => hv.ix (H := H) (K := K) (k := k) hlt
    have hnext := ih (i + 1) (by omega) h
    generalize l[i] = x at *
    rw [wp_round c20_l0.eq_1]
    simp [go_sem, ulen, hlt, uix, vix, aload, i64_suc (show i < 1000000 by omega)]
    exact hnext
theorem k20 {u v : AV} {l : List Nat} (hu : isL u l) (hv : isL v l) (hl : l.length < 1000) (h : Q (.bool true) H) : WpCall E pure base bar 20 [u, v] H Q := by
  rw [call20]
  have e0 : frzAll bar H [u, v] = some ([u, v], H) := by simp [frzAll, frz.frzs, frzsW, hu.frz, hv.frz]
  rw [e0]
  simp [go_sem, WpFun, c20, hu.len, hv.len]
  refine l20 hu hv hl l.length 0 (by omega) ?_
  simp [go_sem]
  exact h
theorem l33 {u v : AV} {l : List ZZ} (hu : isP u l) (hv : isP v l) (hl : l.length < 1000) {R : PQ} :
    ∀ (k i : Nat), i + k = l.length → R (.exit 0) [(0, u), (1, v), (5, .int .i64 (l.length : Nat)), (14, .bool false)] H →
    Wp E base bar (.loop c33_l0) [(0, u), (1, v), (5, .int .i64 (i : Nat))] H R := by
  intro k
  have ulen := fun (H : Heap) (K : AV → Heap → List Nat → Prop) => hu.len (H := H) (K := K)
  induction k with
  | zero =>
    intro i hi h
    obtain rfl : i = l.length := by omega
    rw [wp_round c33_l0.eq_1]
    simp [go_sem, ulen]
    exact h
  | succ k ih =>
    intro i hi h
    have hlt : i < l.length := by omega
    have uix := fun (H : Heap) (K : AV → Heap → List Nat → Prop) (k : IntKind) => hu.ix (H := H) (K := K) (k := k) hlt
    have vix := fun (H : Heap) (K : AV → Heap → List Nat → Prop) (k : IntKind) => hv.ix (H := H) (K := K) (k := k) hlt
    have hnext := ih (i + 1) (by omega) h
    simp only [zc] at uix vix
    generalize l[i] = x at *
    rw [wp_round c33_l0.eq_1]
    simp [go_sem, ulen, hlt, uix, vix, aload, eqWp_flat2, i64_suc (show i < 1000000 by omega)]
    exact hnext
theorem k33 {u v : AV} {l : List ZZ} (hu : isP u l) (hv : isP v l) (hl : l.length < 1000) (h : Q (.bool true) H) : WpCall E pure base bar 33 [u, v] H Q := by
  rw [call33]
  have e0 : frzAll bar H [u, v] = some ([u, v], H) := by simp [frzAll, frz.frzs, frzsW, hu.frz, hv.frz]
  rw [e0]
  simp [go_sem, WpFun, c33, hu.len, hv.len]
  refine l33 hu hv hl l.length 0 (by omega) ?_
  simp [go_sem]
  exact h
end Go.Proofs.YtoipleipokpnaaaGreat.Code
end
section
namespace Go.Proofs.YtoipleipokpnaaaGreat.Code
open Go Go.Ab
variable {pure : Bool} {base bar : Nat} {H : Heap} {Q : AV → Heap → Prop} {K : AV → Heap → List Nat → Prop}
theorem natsZ_inj : ∀ {a b : List Nat}, natsZ a = natsZ b → a = b
  | [], [], _ => rfl
  | [], _ :: _, h => by simp [natsZ] at h
  | _ :: _, [], h => by simp [natsZ] at h
  | x :: a, y :: b, h => by
    simp only [natsZ, List.map_cons, List.cons.injEq] at h
    obtain ⟨h1, h2⟩ := h
    have := natsZ_inj (a := a) (b := b) h2
    subst this
    rw [Int.ofNat_inj.1 h1]
end Go.Proofs.YtoipleipokpnaaaGreat.Code
end
section
namespace Go.Proofs.YtoipleipokpnaaaGreat.Code
open Go Go.Ab
variable {pure : Bool} {base bar : Nat} {H : Heap} {Q : AV → Heap → Prop} {K : AV → Heap → List Nat → Prop}
/-! Count -/
theorem pow_bd {m i : Nat} (hm : m ≤ 9) (hi : i ≤ 7) : m ^ i ≤ 4782969 := by
  have h1 : m ^ i ≤ 9 ^ i := Nat.pow_le_pow_left hm i
  have h2 : 9 ^ i ≤ 9 ^ 7 := Nat.pow_le_pow_right (by decide) hi
  have h3 : 9 ^ 7 = 4782969 := by decide
  omega
theorem pow_step {m i : Nat} (hm : m ≤ 9) (hi : i < 7) : IntKind.i64.wrap (((m ^ i : Nat) : Int) * (m : Int)) = ((m ^ (i + 1) : Nat) : Int) := by
  have h1 := pow_bd hm (show i + 1 ≤ 7 by omega)
  have e : ((m ^ i : Nat) : Int) * (m : Int) = ((m ^ (i + 1) : Nat) : Int) := by rw [Nat.pow_succ]; exact (Int.natCast_mul ..).symm
  rw [e, Go.IntWalk.i64_in _ (by omega)]
theorem l9 {m : Nat} (hm : m ≤ 9) (h2 : 2 ≤ m) {R : PQ} : ∀ (k i : Nat), i + k = m - 2 → ∀ P : Nat, P = m ^ i →
    R (.exit 0) [(0, .int .i64 (m : Nat)), (4, .int .i64 ((m ^ (m - 2) : Nat) : Int)), (9, .int .i64 ((m : Int) - 2)), (10, .int .i64 ((m - 2 : Nat) : Int)), (11, .bool false)] H →
    Wp E base bar (.loop c9_l0) [(0, .int .i64 (m : Nat)), (4, .int .i64 (P : Nat)), (9, .int .i64 ((m : Int) - 2)), (10, .int .i64 (i : Nat))] H R := by
  intro k
  induction k with
  | zero =>
    intro i hi P hP h
    obtain rfl : i = m - 2 := by omega
    rw [← hP] at h
    have hlt : ¬ ((m - 2 : Nat) : Int) < (m : Int) - 2 := by omega
    generalize m - 2 = j at *
    rw [wp_round c9_l0.eq_1]
    simp [go_sem, hlt]
    exact h
  | succ k ih =>
    intro i hi P hP h
    have hlt : (i : Int) < (m : Int) - 2 := by omega
    have e := pow_step hm (show i < 7 by omega)
    rw [← hP] at e
    have hnext := ih (i + 1) (by omega) _ rfl h
    generalize m ^ (i + 1) = P2 at *
    rw [wp_round c9_l0.eq_1]
    simp [go_sem, hlt, e, i64_suc (show i < 1000000 by omega)]
    exact hnext
def cntE (n : Int) : Int := if 1 ≤ n ∧ n ≤ 9 then 0 else 1
def cntV (n : Int) : Nat := if 1 ≤ n ∧ n ≤ 9 then n.toNat ^ (n.toNat - 2) else 0
theorem k9 {n : Int} (h : Q (.tup [.int .i64 (cntV n : Nat), .int .i64 (cntE n)]) H) : WpCall E pure base bar 9 [.int .i64 n] H Q := by
  rw [call9]
  by_cases hr : 1 ≤ n ∧ n ≤ 9
  · obtain ⟨m, rfl⟩ := Int.eq_ofNat_of_zero_le (show 0 ≤ n by omega)
    have hm9 : m ≤ 9 := by omega
    have hr' : (decide (1 ≤ (m : Int)) && decide ((m : Int) ≤ 9)) = true := by simp; omega
    have hi2 : IntKind.i64.wrap ((m : Int) - 2) = (m : Int) - 2 := Go.IntWalk.i64_in _ (by omega)
    unfold cntE cntV at h
    rw [if_pos hr, if_pos hr, Int.toNat_natCast] at h
    simp [go_sem, WpFun, c9, k46, hr', hi2]
    by_cases h2 : 2 ≤ m
    · refine l9 hm9 h2 (m - 2) 0 (by omega) 1 (by simp) ?_
      generalize m ^ (m - 2) = P at *
      simp [go_sem]
      exact h
    · obtain rfl : m = 1 := by omega
      rw [wp_round c9_l0.eq_1]
      simp [go_sem]
      exact h
  · have hr' : (decide (1 ≤ n) && decide (n ≤ 9)) = false := by simpa using hr
    unfold cntE cntV at h
    rw [if_neg hr, if_neg hr] at h
    simp [go_sem, WpFun, c9, k46, hr']
    exact h
/-! Number -/
def nW (n : Int) (a : Int) (L : List Nat) : Int := L.foldl (fun (a : Int) (k : Nat) => IntKind.i64.wrap (IntKind.i64.wrap (a * n) + (k : Int))) a
theorem l11 {n : Int} {q v ev : AV} {L : List Nat} (hL : isL v L) (hl : L.length < 1000) {R : PQ} : ∀ (k i : Nat), i + k = L.length → ∀ a : Int,
    R (.exit 0) [(1, .ptr H.length 0 0), (5, ev), (6, .int .i64 (nW n a (L.drop i))), (14, v), (15, .int .i64 (L.length : Nat)), (16, .int .i64 (L.length : Nat)), (17, .bool false)] (H ++ [.row 0 [.int .i64 n, q] 0 true]) →
    Wp E H.length bar (.loop c11_l0) [(1, .ptr H.length 0 0), (5, ev), (6, .int .i64 a), (14, v), (15, .int .i64 (L.length : Nat)), (16, .int .i64 (i : Nat))] (H ++ [.row 0 [.int .i64 n, q] 0 true]) R := by
  intro k
  induction k with
  | zero =>
    intro i hi a h
    obtain rfl : i = L.length := by omega
    rw [List.drop_length] at h
    rw [wp_round c11_l0.eq_1]
    simp [go_sem]
    exact h
  | succ k ih =>
    intro i hi a h
    have hlt : i < L.length := by omega
    rw [List.drop_eq_getElem_cons hlt] at h
    have hix := fun (H : Heap) (K : AV → Heap → List Nat → Prop) (k : IntKind) => hL.ix (H := H) (K := K) (k := k) hlt
    have hnext := ih (i + 1) (by omega) (IntKind.i64.wrap (IntKind.i64.wrap (a * n) + (L[i] : Int))) h
    generalize L[i] = x at *
    rw [wp_round c11_l0.eq_1]
    simp [go_sem, hlt, hix, aload, i64_suc (show i < 1000000 by omega)]
    exact hnext
end Go.Proofs.YtoipleipokpnaaaGreat.Code
end
