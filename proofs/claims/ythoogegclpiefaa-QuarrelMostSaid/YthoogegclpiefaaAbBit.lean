/-
  Bits of small numbers: what the evaluator's operations on bytes give.
-/
import Derived.Test.YthoogegclpiefaaAbOwn
import Derived.IntWalk
set_option linter.all false
namespace Go.Ab

theorem ofInt_toNat {w a : Nat} (h : a < 2 ^ w) : (BitVec.ofInt w (a : Int)).toNat = a := by
  rw [BitVec.ofInt_natCast, BitVec.toNat_ofNat, Nat.mod_eq_of_lt h]

theorem u8_nat {a : Nat} (h : a < 256) : IntKind.u8.wrap (a : Int) = a := Go.IntWalk.u8_in _ (by omega)
theorem i64_nat {a : Nat} (h : a < 9223372036854775808) : IntKind.i64.wrap (a : Int) = a := Go.IntWalk.i64_in _ (by omega)

def pw (b : Nat) : Nat := 2 ^ b
def band (a b : Nat) : Nat := a &&& b
def bor (a b : Nat) : Nat := a ||| b
theorem pw_lt {b : Nat} (hb : b < 8) : pw b < 256 := Nat.pow_lt_pow_right (by decide) hb
theorem band_lt {a b : Nat} (ha : a < 256) : band a b < 256 := Nat.lt_of_le_of_lt Nat.and_le_left ha
theorem bor_lt {a b : Nat} (ha : a < 256) (hb : b < 256) : bor a b < 256 := Nat.or_lt_two_pow (n := 8) ha hb
theorem testBit_pw {b i : Nat} : (pw b).testBit i = decide (b = i) := by unfold pw; exact Nat.testBit_two_pow
theorem testBit_band {a b i : Nat} : (band a b).testBit i = (a.testBit i && b.testBit i) := Nat.testBit_and ..
theorem testBit_bor {a b i : Nat} : (bor a b).testBit i = (a.testBit i || b.testBit i) := Nat.testBit_or ..

theorem and_u8 {a b : Nat} (ha : a < 256) (hb : b < 256) : abin .and (.int .u8 a) (.int .u8 b) = some (.int .u8 ((band a b : Nat) : Int)) := by
  have e : (BitVec.ofInt 8 (a : Int) &&& BitVec.ofInt 8 (b : Int)).toNat = band a b := by
    rw [BitVec.toNat_and, ofInt_toNat (w := 8) ha, ofInt_toNat (w := 8) hb]; rfl
  simp only [abin, binInt, if_true]
  rw [show IntKind.u8.bits = 8 from rfl, e, u8_nat (band_lt ha)]
theorem and_u8_one {a : Nat} (ha : a < 256) : abin .and (.int .u8 a) (.int .u8 1) = some (.int .u8 ((band a 1 : Nat) : Int)) := and_u8 (b := 1) ha (by decide)
theorem or_u8 {a b : Nat} (ha : a < 256) (hb : b < 256) : abin .or (.int .u8 a) (.int .u8 b) = some (.int .u8 ((bor a b : Nat) : Int)) := by
  have e : (BitVec.ofInt 8 (a : Int) ||| BitVec.ofInt 8 (b : Int)).toNat = bor a b := by
    rw [BitVec.toNat_or, ofInt_toNat (w := 8) ha, ofInt_toNat (w := 8) hb]; rfl
  simp only [abin, binInt, if_true]
  rw [show IntKind.u8.bits = 8 from rfl, e, u8_nat (bor_lt ha hb)]
/-- a less the bits of b -/
def clr (a b : Nat) : Nat := a &&& (255 ^^^ b)
theorem clr_lt {a b : Nat} (ha : a < 256) : clr a b < 256 := Nat.lt_of_le_of_lt Nat.and_le_left ha
theorem andNot_u8 {a b : Nat} (ha : a < 256) (hb : b < 256) : abin .andNot (.int .u8 a) (.int .u8 b) = some (.int .u8 ((clr a b : Nat) : Int)) := by
  have e : (BitVec.ofInt 8 (a : Int) &&& ~~~ BitVec.ofInt 8 (b : Int)).toNat = clr a b := by
    rw [BitVec.toNat_and, BitVec.toNat_not, ofInt_toNat (w := 8) ha, ofInt_toNat (w := 8) hb]
    unfold clr
    congr 1
    have : ∀ b, b < 256 → 2 ^ 8 - 1 - b = 255 ^^^ b := by decide +kernel
    exact this b hb
  simp only [abin, binInt, if_true]
  rw [show IntKind.u8.bits = 8 from rfl, e, u8_nat (clr_lt ha)]
theorem testBit_clr {a b i : Nat} (ha : a < 256) : (clr a b).testBit i = (a.testBit i && !b.testBit i) := by
  unfold clr
  rw [Nat.testBit_and, Nat.testBit_xor]
  by_cases hi : i < 8
  · have : Nat.testBit 255 i = true := by
      have : ∀ i, i < 8 → Nat.testBit 255 i = true := by decide
      exact this i hi
    rw [this]; cases b.testBit i <;> simp
  · have : a.testBit i = false := Nat.testBit_lt_two_pow (Nat.lt_of_lt_of_le ha (Nat.pow_le_pow_right (by decide) (Nat.not_lt.1 hi) : 2 ^ 8 ≤ 2 ^ i))
    rw [this]; simp

theorem shl_u8 {b : Nat} (hb : b < 8) : abin .shl (.int .u8 1) (.int .i64 (b : Int)) = some (.int .u8 ((pw b : Nat) : Int)) := by
  have h2 : (2 : Nat) ^ b < 256 := Nat.pow_lt_pow_right (by decide) hb
  simp only [abin]
  rw [if_neg (by omega), Int.toNat_natCast, show min b IntKind.u8.bits = b from Nat.min_eq_left (by simp [IntKind.bits]; omega)]
  rw [show (1 : Int) * 2 ^ b = ((2 ^ b : Nat) : Int) by simp, u8_nat h2]; rfl

def shr (a b : Nat) : Nat := a / 2 ^ (min b 8)
theorem shr_lt {a b : Nat} (ha : a < 256) : shr a b < 256 := Nat.lt_of_le_of_lt (Nat.div_le_self _ _) ha
theorem shr_bit : ∀ a, a < 256 → ∀ b, band (shr a b) 1 = (a.testBit b).toNat := fun a ha b => by
  unfold band shr
  by_cases hb : b < 8
  · have : ∀ a, a < 256 → ∀ b, b < 8 → (a / 2 ^ (min b 8)) &&& 1 = (a.testBit b).toNat := by decide +kernel
    exact this a ha b hb
  · rw [Nat.min_eq_right (by omega), Nat.div_eq_of_lt ha, Nat.testBit_lt_two_pow (Nat.lt_of_lt_of_le ha (Nat.pow_le_pow_right (by decide) (Nat.not_lt.1 hb) : 2 ^ 8 ≤ 2 ^ b))]; rfl
theorem shr_u8 {a b : Nat} : abin .shr (.int .u8 (a : Int)) (.int .i64 (b : Int)) = some (.int .u8 ((shr a b : Nat) : Int)) := by
  simp only [abin]
  rw [if_neg (by omega)]
  simp only [Int.toNat_natCast, show IntKind.u8.bits = 8 from rfl]
  congr 2
  rw [show (2 : Int) ^ (min b 8) = ((2 ^ (min b 8) : Nat) : Int) by simp, Int.fdiv_eq_ediv_of_nonneg _ (Int.natCast_nonneg _)]
  exact (Int.natCast_ediv _ _).symm

/-- ints that are naturals -/
theorem lt_nat {a b : Nat} : decide ((a : Int) < (b : Int)) = decide (a < b) := by simp
end Go.Ab
namespace Go.Ab
/-- one round of a loop that has a name -/
theorem wp_round {env : Env} {base bar : Nat} {fr : Frame} {H : Heap} {Q : PQ} {c c' : ACode} (h : c = c') : Wp env base bar (.loop c) fr H Q ↔ Wp env base bar c' fr H (thenWp env base bar (.loop c) Q) := by
  rw [← h]; exact Go.Ab.wp_loop

def nats (l : List Nat) : List AV := l.map fun (x : Nat) => .int .i64 (x : Int)
theorem nats_plain {l : List Nat} : ∀ c ∈ nats l, Plain c := fun c hc => by
  obtain ⟨x, _, rfl⟩ := List.mem_map.1 hc
  exact Plain.int
theorem nats_append {l r : List Nat} : nats (l ++ r) = nats l ++ nats r := by simp [nats]
theorem nats_length {l : List Nat} : (nats l).length = l.length := by simp [nats]
theorem nats_nil : nats [] = [] := rfl
theorem nats_one {x : Nat} : nats [x] = [.int .i64 (x : Int)] := rfl
theorem nats_eq_nil {l : List Nat} : nats l = [] ↔ l = [] := by simp [nats]
theorem chunks_one : ∀ {l : List AV}, chunks 1 l.length l = l
  | [] => rfl
  | x :: r => by simp [chunks, chunks_one (l := r)]
theorem tops_nats {l : List Nat} : AV.top.tops (nats l) = 0 := tops_zero fun x hx => by
  obtain ⟨n, _, rfl⟩ := List.mem_map.1 hx
  rfl
/-- a list of numbers, as a call hands it out -/
theorem outL_nats {l : List Nat} : outL 1 (nats l) = if l = [] then .nils else .lst 1 false (nats l) := by
  simp only [outL, nats_eq_nil]
  split
  · rfl
  · rw [show (nats l).length / 1 = (nats l).length by omega, chunks_one]

/-- one number more -/
theorem Grow.nat {H : Heap} {base bar bytes : Nat} {l : List Nat} {H0 : Heap} {v : AV} {ex : Bool} {x : Nat} {K : AV → Heap → List Nat → Prop} (g : Grow 1 (nats l) H0 v H) (hb : bar ≤ H0.length) (hbase : base ≤ H0.length)
    (hlen : (l.length + 1) * bytes ≤ 140737488355328)
    (h : ∀ v' H' tc, Grow 1 (nats (l ++ [x])) H0 v' H' → K v' H' tc) : appWp base bar 1 bytes (some v) (some (.lst 1 ex [.int .i64 (x : Int)])) H K := by
  refine g.app (by omega) (Nat.one_dvd _) (fun c hc => ?_) (Nat.one_dvd _) hb hbase ?_ fun v' H' tc g' => h v' H' tc ?_
  · simp [AV.cells] at hc; subst hc; exact Plain.int
  · simpa [nats_length, AV.cells] using hlen
  · simpa [nats_append, nats_one, AV.cells] using g'

/-- what is under construction is handed out -/
theorem Grow.out {H : Heap} {base bar : Nat} {l : List Nat} {H0 : Heap} {v : AV} {K : AV → Heap → Prop} (g : Grow 1 (nats l) H0 v H) (hb : bar ≤ H0.length) (hbase : base ≤ H0.length)
    (h : K (outL 1 (nats l)) (H0.take base)) : outWp (leave 0 base bar [v] H) K := by
  obtain ⟨H', h1, h2, h3, h4⟩ := g.frz (d := 5) (bar := bar) (by omega) (Nat.one_dvd _) nats_plain hb
  have e : leave 0 base bar [v] H = some (outL 1 (nats l), H0.take base) := by
    rw [leave_0]
    simp only [frzAll, frz.frzs, frzsW, h1, leave0_some, tupled_one]
    rw [if_pos]
    · rw [show H'.take base = (H'.take H0.length).take base by rw [List.take_take, Nat.min_eq_left hbase], h4]
    · rw [outL_nats]; split <;> simp [tops_cons, tops_nil, top_nils, top_lst, tops_nats]
  rw [e]; exact h
end Go.Ab
