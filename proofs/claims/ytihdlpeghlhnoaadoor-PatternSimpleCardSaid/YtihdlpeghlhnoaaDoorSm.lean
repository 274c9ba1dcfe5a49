/-
  Plain laws about points and sides; contracts of functions: points, sides, the check of a piece, the law about points in any order.
-/
import Derived.Test.YtihdlpeghlhnoaaDoorCall
import Derived.Test.YtihdlpeghlhnoaaDoorKit
set_option linter.all false
section
namespace Go.Proofs.Pt
abbrev ZZ := Int × Int

def turnL (a b c : ZZ) : Int := a.1 * (b.2 - c.2) + b.1 * (c.2 - a.2) + c.1 * (a.2 - b.2)
def subP (p q : ZZ) : ZZ := (p.1 - q.1, p.2 - q.2)
def tmP (p q : ZZ) : Int := p.1 * q.2 - p.2 * q.1
/-- a point is on a side: the program's way -/
def hasS (a b p : ZZ) : Bool := decide (tmP (subP a p) (subP b p) = 0) && decide ((subP a p).1 * (subP b p).1 + (subP a p).2 * (subP b p).2 ≤ 0)
/-- and the law's -/
def betw (p a b : ZZ) : Bool := decide (turnL p a b = 0) && decide ((p.1 - a.1) * (p.1 - b.1) ≤ 0) && decide ((p.2 - a.2) * (p.2 - b.2) ≤ 0)
theorem sq_nn (k : Int) : 0 ≤ k * k := by
  rcases Int.le_total 0 k with h | h
  · exact Int.mul_nonneg h h
  · exact Int.mul_nonneg_of_nonpos_of_nonpos h h
theorem prod_neg {x y : Int} (hx : 0 < x) (hy : y < 0) : x * y < 0 := Int.mul_neg_of_pos_of_neg hx hy
theorem two_nonpos {x y k : Int} (h : x * y = k * k) : x + y ≤ 0 ↔ x ≤ 0 ∧ y ≤ 0 := by
  constructor
  · intro hs
    have hk := sq_nn k
    constructor
    · apply Decidable.byContradiction; intro hx
      have := prod_neg (x := x) (y := y) (by omega) (by omega)
      omega
    · apply Decidable.byContradiction; intro hy
      have := prod_neg (x := y) (y := x) (by omega) (by omega)
      have := Int.mul_comm x y
      omega
  · rintro ⟨h1, h2⟩; omega
theorem has_betw {a b p : ZZ} : hasS a b p = betw p a b := by
  obtain ⟨ax, ay⟩ := a
  obtain ⟨bx, by_⟩ := b
  obtain ⟨px, py⟩ := p
  rw [Bool.eq_iff_iff]
  simp only [hasS, betw, Bool.and_eq_true, decide_eq_true_eq]
  simp only [subP, tmP, turnL]
  have e1 : (ax - px) * (by_ - py) - (ay - py) * (bx - px) = px * (ay - by_) + ax * (by_ - py) + bx * (py - ay) := by grind
  have e2 : (px - ax) * (px - bx) = (ax - px) * (bx - px) := by grind
  have e3 : (py - ay) * (py - by_) = (ay - py) * (by_ - py) := by grind
  rw [e1, e2, e3, and_assoc]
  refine and_congr_right fun h => ?_
  rw [← e1] at h
  have hk : ((ax - px) * (bx - px)) * ((ay - py) * (by_ - py)) = ((ax - px) * (by_ - py)) * ((ax - px) * (by_ - py)) := by grind
  exact two_nonpos hk
/-- two sides cross: the program's way -/
def crossS (a b c d : ZZ) : Bool := (decide (0 < turnL a b c) != decide (0 < turnL a b d)) && (decide (0 < turnL c d a) != decide (0 < turnL c d b))
def ends (a b c d : ZZ) : Bool := betw a c d || betw b c d || betw c a b || betw d a b
/-- the law's -/
def touchL (a b c d : ZZ) : Bool := ends a b c d || ((decide (0 < turnL a b c) != decide (0 < turnL a b d)) && !decide (turnL a b c = 0) && !decide (turnL a b d = 0) && (decide (0 < turnL c d a) != decide (0 < turnL c d b)) && !decide (turnL c d a = 0) && !decide (turnL c d b = 0))
theorem diff_le {P Q : Int} (h : (decide (0 < P) != decide (0 < Q)) = true) : P * Q ≤ 0 := by
  by_cases h1 : 0 < P
  · have h2 : ¬ 0 < Q := fun h2 => by simp [h1, h2] at h
    exact Int.mul_nonpos_of_nonneg_of_nonpos (by omega) (by omega)
  · by_cases h2 : 0 < Q
    · rw [Int.mul_comm]; exact Int.mul_nonpos_of_nonneg_of_nonpos (by omega) (by omega)
    · simp [h1, h2] at h
theorem cancel_sq {X K V : Int} (hK : K ≠ 0) (h : X * (K * K) = V) (hV : V ≤ 0) : X ≤ 0 := by
  apply Decidable.byContradiction
  intro hx
  have hk : 0 < K * K := by
    have := sq_nn K
    have : K * K ≠ 0 := fun e => hK (by rcases Int.mul_eq_zero.1 e with h | h <;> exact h)
    omega
  have := Int.mul_pos (show 0 < X by omega) hk
  omega
/-- an end that is on the line of the other side, where sides cross, is on the other side -/
theorem cross_on {a b c d : ZZ} (h0 : turnL a b c = 0) (h1 : turnL a b d ≠ 0) (hp : turnL c d a * turnL c d b ≤ 0) : betw c a b = true := by
  obtain ⟨ax, ay⟩ := a
  obtain ⟨bx, by_⟩ := b
  obtain ⟨cx, cy⟩ := c
  obtain ⟨dx, dy⟩ := d
  simp only [turnL] at h0 h1 hp
  simp only [betw, Bool.and_eq_true, decide_eq_true_eq]
  simp only [turnL]
  have x1 : (cx - ax) * (ax * (by_ - dy) + bx * (dy - ay) + dx * (ay - by_)) = (cx * (dy - ay) + dx * (ay - cy) + ax * (cy - dy)) * (bx - ax) := by grind
  have x2 : (cx - bx) * (ax * (by_ - dy) + bx * (dy - ay) + dx * (ay - by_)) = (cx * (dy - by_) + dx * (by_ - cy) + bx * (cy - dy)) * (bx - ax) := by grind
  have y1 : (cy - ay) * (ax * (by_ - dy) + bx * (dy - ay) + dx * (ay - by_)) = (cx * (dy - ay) + dx * (ay - cy) + ax * (cy - dy)) * (by_ - ay) := by grind
  have y2 : (cy - by_) * (ax * (by_ - dy) + bx * (dy - ay) + dx * (ay - by_)) = (cx * (dy - by_) + dx * (by_ - cy) + bx * (cy - dy)) * (by_ - ay) := by grind
  generalize ax * (by_ - dy) + bx * (dy - ay) + dx * (ay - by_) = K at *
  generalize cx * (dy - ay) + dx * (ay - cy) + ax * (cy - dy) = P at *
  generalize cx * (dy - by_) + dx * (by_ - cy) + bx * (cy - dy) = Q at *
  refine ⟨⟨by grind, ?_⟩, ?_⟩
  · refine cancel_sq h1 (V := P * Q * ((bx - ax) * (bx - ax))) ?_ ?_
    · have : (cx - ax) * (cx - bx) * (K * K) = ((cx - ax) * K) * ((cx - bx) * K) := by grind
      rw [this, x1, x2]; grind
    · exact Int.mul_nonpos_of_nonpos_of_nonneg hp (sq_nn _)
  · refine cancel_sq h1 (V := P * Q * ((by_ - ay) * (by_ - ay))) ?_ ?_
    · have : (cy - ay) * (cy - by_) * (K * K) = ((cy - ay) * K) * ((cy - by_) * K) := by grind
      rw [this, y1, y2]; grind
    · exact Int.mul_nonpos_of_nonpos_of_nonneg hp (sq_nn _)
theorem bne_comm' {a b : Bool} : (a != b) = (b != a) := by cases a <;> cases b <;> rfl
/-- both ways say the same -/
theorem meet_touch {a b c d : ZZ} : (ends a b c d || crossS a b c d) = touchL a b c d := by
  unfold touchL
  cases he : ends a b c d with
  | true => rfl
  | false =>
    simp only [Bool.false_or]
    unfold ends at he
    simp only [Bool.or_eq_false_iff] at he
    obtain ⟨⟨⟨n1, n2⟩, n3⟩, n4⟩ := he
    cases hc : crossS a b c d with
    | false =>
      unfold crossS at hc
      rw [Bool.and_eq_false_iff] at hc
      rcases hc with h | h
      · rw [h]; simp
      · rw [h]; simp
    | true =>
      unfold crossS at hc
      rw [Bool.and_eq_true] at hc
      obtain ⟨c1, c2⟩ := hc
      have swapT : ∀ {a b c : ZZ}, turnL b a c = -turnL a b c := fun {a b c} => by simp only [turnL]; grind
      have sgn0 : ∀ {P Q : Int}, (decide (0 < P) != decide (0 < Q)) = true → P = 0 → Q ≠ 0 := fun h h1 h2 => by subst h1 h2; simp at h
      have p1 := diff_le c1
      have p2 := diff_le c2
      have c1' : (decide (0 < turnL a b d) != decide (0 < turnL a b c)) = true := by rw [bne_comm']; exact c1
      have c2' : (decide (0 < turnL c d b) != decide (0 < turnL c d a)) = true := by rw [bne_comm']; exact c2
      have z1 : turnL a b c ≠ 0 := fun h0 => by
        rw [cross_on h0 (sgn0 c1 h0) p2] at n3; cases n3
      have z2 : turnL a b d ≠ 0 := fun h0 => by
        rw [cross_on h0 (sgn0 c1' h0) (by rw [swapT (a := c) (b := d) (c := a), swapT (a := c) (b := d) (c := b)]; grind)] at n4; cases n4
      have z3 : turnL c d a ≠ 0 := fun h0 => by
        rw [cross_on h0 (sgn0 c2 h0) p1] at n1; cases n1
      have z4 : turnL c d b ≠ 0 := fun h0 => by
        rw [cross_on h0 (sgn0 c2' h0) (by rw [swapT (a := a) (b := b) (c := c), swapT (a := a) (b := b) (c := d)]; grind)] at n2; cases n2
      rw [c1, c2]
      simp [z1, z2, z3, z4]
end Go.Proofs.Pt
end

section
namespace Go.Proofs.Pt

/-- the point with a number that goes around -/
def atP (L : List ZZ) (i : Nat) : ZZ := L.getD (i % L.length) (0, 0)
/-- the program: two sides one after the other that come back, at the corner i -/
def backC (L : List ZZ) (i : Nat) : Bool :=
  hasS (atP L (i + L.length - 1)) (atP L i) (atP L (i + 1)) || hasS (atP L i) (atP L (i + 1)) (atP L (i + L.length - 1))
/-- two sides that are not next to each other -/
def farC (L : List ZZ) (i k : Nat) : Bool := ends (atP L i) (atP L (i + 1)) (atP L k) (atP L (k + 1)) || crossS (atP L i) (atP L (i + 1)) (atP L k) (atP L (k + 1))
def badC (L : List ZZ) : Bool := (List.range L.length).any fun i => backC L i || (List.range (i - 1)).any fun k => decide (i - k < L.length - 1) && farC L i k
/-- the law: two sides -/
def pairS (L : List ZZ) (i k : Nat) : Bool :=
  let a := atP L i; let b := atP L (i + 1); let c := atP L k; let d := atP L (k + 1)
  if a = c then false else if b = c then !(betw a c d || betw d a b) else if d = a then !(betw c a b || betw b c d) else !touchL a b c d
def simpleF (L : List ZZ) : Bool := decide (3 ≤ L.length) && (List.range L.length).all fun i => (List.range i).all fun k => pairS L i k
theorem atP_ne {L : List ZZ} (hn : L.Nodup) {i j : Nat} (hi : i < L.length) (hj : j < L.length) (h : i ≠ j) : atP L i ≠ atP L j := by
  unfold atP
  rw [Nat.mod_eq_of_lt hi, Nat.mod_eq_of_lt hj]
  simp only [List.getD_eq_getElem?_getD, List.getElem?_eq_getElem hi, List.getElem?_eq_getElem hj, Option.getD_some]
  have hp := List.pairwise_iff_getElem.1 hn
  rcases Nat.lt_or_gt_of_ne h with h | h
  · exact hp i j hi hj h
  · exact fun e => hp j i hj hi h e.symm
theorem atP_mod {L : List ZZ} {i : Nat} : atP L (i % L.length) = atP L i := by unfold atP; rw [Nat.mod_mod]
/-- a pair of sides, one after the other -/
theorem pair_next {L : List ZZ} (hn : L.Nodup) (h3 : 3 ≤ L.length) {i : Nat} (h1 : 1 ≤ i) (hi : i < L.length) : pairS L i (i - 1) = !backC L i := by
  unfold pairS backC
  simp only
  have e1 : i - 1 + 1 = i := by omega
  rw [e1]
  have ne1 : atP L i ≠ atP L (i - 1) := atP_ne hn hi (by omega) (by omega)
  have ne2 : atP L (i + 1) ≠ atP L (i - 1) := by
    rw [← atP_mod (i := i + 1)]
    refine atP_ne hn (Nat.mod_lt _ (by omega)) (by omega) ?_
    by_cases h : i + 1 < L.length
    · rw [Nat.mod_eq_of_lt h]; omega
    · have : i + 1 = L.length := by omega
      rw [this, Nat.mod_self]; omega
  have e2 : atP L (i + L.length - 1) = atP L (i - 1) := by
    unfold atP
    rw [show i + L.length - 1 = (i - 1) + L.length by omega, Nat.add_mod_right]
  rw [if_neg ne1, if_neg ne2, if_pos rfl, e2, has_betw, has_betw, Bool.or_comm]
theorem pair_first {L : List ZZ} (hn : L.Nodup) (h3 : 3 ≤ L.length) : pairS L (L.length - 1) 0 = !backC L 0 := by
  unfold pairS backC
  simp only
  have e0 : atP L (L.length - 1 + 1) = atP L 0 := by
    unfold atP
    rw [show L.length - 1 + 1 = L.length by omega, Nat.mod_self, Nat.zero_mod]
  have ne1 : atP L (L.length - 1) ≠ atP L 0 := atP_ne hn (by omega) (by omega) (by omega)
  have e2 : atP L (0 + L.length - 1) = atP L (L.length - 1) := by rw [Nat.zero_add]
  rw [e0, if_neg ne1, if_pos rfl, e2, has_betw, has_betw, Bool.or_comm]
theorem pair_far {L : List ZZ} (hn : L.Nodup) (h3 : 3 ≤ L.length) {i k : Nat} (hk : k < i - 1) (hi : i < L.length) (hf : i - k < L.length - 1) : pairS L i k = !farC L i k := by
  unfold pairS farC
  simp only
  have ne1 : atP L i ≠ atP L k := atP_ne hn hi (by omega) (by omega)
  have ne2 : atP L (i + 1) ≠ atP L k := by
    rw [← atP_mod (i := i + 1)]
    refine atP_ne hn (Nat.mod_lt _ (by omega)) (by omega) ?_
    by_cases h : i + 1 < L.length
    · rw [Nat.mod_eq_of_lt h]; omega
    · have : i + 1 = L.length := by omega
      rw [this, Nat.mod_self]; omega
  have ne3 : atP L (k + 1) ≠ atP L i := atP_ne hn (by omega) hi (by omega)
  rw [if_neg ne1, if_neg ne2, if_neg ne3, meet_touch]
/-- the check and the law -/
theorem simple_bad {L : List ZZ} (hn : L.Nodup) (h3 : 3 ≤ L.length) : simpleF L = !badC L := by
  rw [Bool.eq_iff_iff]
  unfold simpleF badC
  simp only [Bool.and_eq_true, decide_eq_true_eq, List.all_eq_true, Bool.not_eq_true', List.any_eq_false, Bool.not_eq_true, Bool.or_eq_false_iff, Bool.and_eq_false_iff, List.mem_range, decide_eq_false_iff_not]
  constructor
  · rintro ⟨_, h⟩ i hi
    refine ⟨?_, fun k hk => ?_⟩
    · by_cases h1 : 1 ≤ i
      · have := h i hi (i - 1) (by omega)
        rw [pair_next hn h3 h1 hi] at this
        simpa using this
      · obtain rfl : i = 0 := by omega
        have := h (L.length - 1) (by omega) 0 (by omega)
        rw [pair_first hn h3] at this
        simpa using this
    · rintro ⟨hf, hfar⟩
      have := h i hi k (by omega)
      rw [pair_far hn h3 hk hi hf, hfar] at this
      cases this
  · intro h
    refine ⟨h3, fun i hi k hk => ?_⟩
    by_cases h1 : k = i - 1
    · subst h1
      rw [pair_next hn h3 (by omega) hi, (h i hi).1]; rfl
    · by_cases hf : i - k < L.length - 1
      · rw [pair_far hn h3 (by omega) hi hf]
        cases e : farC L i k with
        | false => rfl
        | true => exact absurd ⟨hf, e⟩ ((h i hi).2 k (by omega))
      · obtain rfl : k = 0 := by omega
        obtain rfl : i = L.length - 1 := by omega
        rw [pair_first hn h3, (h 0 (by omega)).1]; rfl
end Go.Proofs.Pt
end

section
namespace Go.Proofs.YtihdlpeghlhnoaaDoor.Code
open Go Go.Ab
open Go.Proofs.Pt hiding ZZ
attribute [go_sem ↓] wpop_app
attribute [local go_sem] aload astore storeWp Ab.part AV.isTup AV.cells setCells
variable {pure : Bool} {base bar : Nat} {H : Heap} {Q : AV → Heap → Prop}

/-- a number that is not great -/
def Bd (b : Int) (x : Int) : Prop := -b ≤ x ∧ x ≤ b
theorem Bd.mul {a b x y : Int} (hx : Bd a x) (hy : Bd b y) : Bd (a * b) (x * y) := by
  obtain ⟨h1, h2⟩ := hx
  obtain ⟨h3, h4⟩ := hy
  have k1 : 0 ≤ (a - x) * (b + y) := Int.mul_nonneg (by omega) (by omega)
  have k2 : 0 ≤ (a + x) * (b - y) := Int.mul_nonneg (by omega) (by omega)
  have k3 : 0 ≤ (a - x) * (b - y) := Int.mul_nonneg (by omega) (by omega)
  have k4 : 0 ≤ (a + x) * (b + y) := Int.mul_nonneg (by omega) (by omega)
  have e1 : (a - x) * (b + y) = a * b + a * y - x * b - x * y := by grind
  have e2 : (a + x) * (b - y) = a * b - a * y + x * b - x * y := by grind
  have e3 : (a - x) * (b - y) = a * b - a * y - x * b + x * y := by grind
  have e4 : (a + x) * (b + y) = a * b + a * y + x * b + x * y := by grind
  constructor <;> omega
theorem i64_bd {x : Int} (h : Bd 1000000000000 x) : IntKind.i64.wrap x = x := by
  obtain ⟨h1, h2⟩ := h
  simp [IntKind.wrap, IntKind.signed, IntKind.bits]
  omega
/-- a point whose coordinates are not great -/
def BP (p : ZZ) : Prop := Bd 1000 p.1 ∧ Bd 1000 p.2
def ptA (p : ZZ) : AV := .agg (zc p)
theorem barUp {pure : Bool} {bar : Nat} {H : Heap} (h : bar ≤ H.length) (k : Nat) : (if pure = true then H.length else bar) ≤ H.length + k := by split <;> omega
theorem k51 {p q : ZZ} (hb : bar ≤ H.length) (hp : BP p) (hq : BP q) : WpCall E pure base bar 51 [ptA p, ptA q] H Q ↔ Q (ptA (subP p q)) H := by
  rw [call51]
  have hb2 := barUp (pure := pure) hb 2
  obtain ⟨⟨h1, h2⟩, h3, h4⟩ := hp
  obtain ⟨⟨h5, h6⟩, h7, h8⟩ := hq
  have e1 : IntKind.i64.wrap (p.1 - q.1) = p.1 - q.1 := i64_bd ⟨by omega, by omega⟩
  have e2 : IntKind.i64.wrap (p.2 - q.2) = p.2 - q.2 := i64_bd ⟨by omega, by omega⟩
  simp [go_sem, WpFun, c51, ptA, zc, subP, e1, e2, hb2]
theorem k52 {p q : ZZ} (hp : Bd 10000 p.1 ∧ Bd 10000 p.2) (hq : Bd 10000 q.1 ∧ Bd 10000 q.2) : WpCall E pure base bar 52 [ptA p, ptA q] H Q ↔ Q (.int .i64 (tmP p q)) H := by
  rw [call52]
  have m1 := hp.1.mul hq.2
  have m2 := hp.2.mul hq.1
  unfold Bd at m1 m2
  have e1 : IntKind.i64.wrap (p.1 * q.2) = p.1 * q.2 := i64_bd ⟨by omega, by omega⟩
  have e2 : IntKind.i64.wrap (p.2 * q.1) = p.2 * q.1 := i64_bd ⟨by omega, by omega⟩
  have e3 : IntKind.i64.wrap (p.1 * q.2 - p.2 * q.1) = p.1 * q.2 - p.2 * q.1 := i64_bd ⟨by omega, by omega⟩
  simp [go_sem, WpFun, c52, ptA, zc, tmP, e1, e2, e3]
theorem k36 {n a b : Int} : WpCall E pure base bar 36 [.int .i64 n, .int .i64 a, .int .i64 b] H Q ↔ Q (.bool (decide (a ≤ n) && decide (n ≤ b))) H := by
  rw [call36]
  simp [go_sem, WpFun, c36]
  by_cases h : a ≤ n <;> simp [h]
/-- a point of the grid, or nearly -/
def GP (p : ZZ) : Prop := (0 ≤ p.1 ∧ p.1 ≤ 100) ∧ 0 ≤ p.2 ∧ p.2 ≤ 100
theorem GP.bp {p : ZZ} (h : GP p) : BP p := by unfold GP at h; exact ⟨⟨by omega, by omega⟩, by omega, by omega⟩
theorem sub_bd {p q : ZZ} (hp : GP p) (hq : GP q) : Bd 10000 (subP p q).1 ∧ Bd 10000 (subP p q).2 := by
  unfold GP at hp hq
  simp only [subP, Bd]; omega
theorem k54 {p q r : ZZ} (hp : GP p) (hq : GP q) (hr : GP r) : WpCall E pure base bar 54 [ptA p, ptA q, ptA r] H Q ↔ Q (.int .i64 (turnL p q r)) H := by
  rw [call54]
  obtain ⟨⟨p1, p2⟩, p3, p4⟩ := hp
  obtain ⟨⟨q1, q2⟩, q3, q4⟩ := hq
  obtain ⟨⟨r1, r2⟩, r3, r4⟩ := hr
  have m1 := Bd.mul (a := 100) (b := 100) (x := p.1) (y := q.2 - r.2) ⟨by omega, by omega⟩ ⟨by omega, by omega⟩
  have m2 := Bd.mul (a := 100) (b := 100) (x := q.1) (y := r.2 - p.2) ⟨by omega, by omega⟩ ⟨by omega, by omega⟩
  have m3 := Bd.mul (a := 100) (b := 100) (x := r.1) (y := p.2 - q.2) ⟨by omega, by omega⟩ ⟨by omega, by omega⟩
  unfold Bd at m1 m2 m3
  have e1 : IntKind.i64.wrap (q.2 - r.2) = q.2 - r.2 := i64_bd ⟨by omega, by omega⟩
  have e2 : IntKind.i64.wrap (r.2 - p.2) = r.2 - p.2 := i64_bd ⟨by omega, by omega⟩
  have e3 : IntKind.i64.wrap (p.2 - q.2) = p.2 - q.2 := i64_bd ⟨by omega, by omega⟩
  have e4 : IntKind.i64.wrap (p.1 * (q.2 - r.2)) = p.1 * (q.2 - r.2) := i64_bd ⟨by omega, by omega⟩
  have e5 : IntKind.i64.wrap (q.1 * (r.2 - p.2)) = q.1 * (r.2 - p.2) := i64_bd ⟨by omega, by omega⟩
  have e6 : IntKind.i64.wrap (r.1 * (p.2 - q.2)) = r.1 * (p.2 - q.2) := i64_bd ⟨by omega, by omega⟩
  have e7 : IntKind.i64.wrap (p.1 * (q.2 - r.2) + q.1 * (r.2 - p.2)) = p.1 * (q.2 - r.2) + q.1 * (r.2 - p.2) := i64_bd ⟨by omega, by omega⟩
  have e8 : IntKind.i64.wrap (p.1 * (q.2 - r.2) + q.1 * (r.2 - p.2) + r.1 * (p.2 - q.2)) = p.1 * (q.2 - r.2) + q.1 * (r.2 - p.2) + r.1 * (p.2 - q.2) := i64_bd ⟨by omega, by omega⟩
  simp [go_sem, WpFun, c54, ptA, zc, turnL, e1, e2, e3, e4, e5, e6, e7, e8]
theorem k33 {p a b : ZZ} (hp : GP p) (ha : GP a) (hb : GP b) : WpCall E pure base bar 33 [ptA p, ptA a, ptA b] H Q ↔ Q (.bool (betw p a b)) H := by
  rw [call33]
  have k := fun (H : Heap) (Q : AV → Heap → Prop) (base bar : Nat) (pure : Bool) => k54 (pure := pure) (base := base) (bar := bar) (H := H) (Q := Q) hp ha hb
  obtain ⟨⟨p1, p2⟩, p3, p4⟩ := hp
  obtain ⟨⟨q1, q2⟩, q3, q4⟩ := ha
  obtain ⟨⟨r1, r2⟩, r3, r4⟩ := hb
  have m1 := Bd.mul (a := 100) (b := 100) (x := p.1 - a.1) (y := p.1 - b.1) ⟨by omega, by omega⟩ ⟨by omega, by omega⟩
  have m2 := Bd.mul (a := 100) (b := 100) (x := p.2 - a.2) (y := p.2 - b.2) ⟨by omega, by omega⟩ ⟨by omega, by omega⟩
  unfold Bd at m1 m2
  have e1 : IntKind.i64.wrap (p.1 - a.1) = p.1 - a.1 := i64_bd ⟨by omega, by omega⟩
  have e2 : IntKind.i64.wrap (p.1 - b.1) = p.1 - b.1 := i64_bd ⟨by omega, by omega⟩
  have e3 : IntKind.i64.wrap (p.2 - a.2) = p.2 - a.2 := i64_bd ⟨by omega, by omega⟩
  have e4 : IntKind.i64.wrap (p.2 - b.2) = p.2 - b.2 := i64_bd ⟨by omega, by omega⟩
  have e5 : IntKind.i64.wrap ((p.1 - a.1) * (p.1 - b.1)) = (p.1 - a.1) * (p.1 - b.1) := i64_bd ⟨by omega, by omega⟩
  have e6 : IntKind.i64.wrap ((p.2 - a.2) * (p.2 - b.2)) = (p.2 - a.2) * (p.2 - b.2) := i64_bd ⟨by omega, by omega⟩
  simp only [ptA, zc] at k
  simp [go_sem, WpFun, c33, ptA, zc, k, e1, e2, e3, e4, e5, e6]
  unfold betw
  by_cases h1 : turnL p a b = 0
  · by_cases h2 : (p.1 - a.1) * (p.1 - b.1) ≤ 0 <;> simp [h1, h2, go_sem]
  · simp [h1, go_sem]
end Go.Proofs.YtihdlpeghlhnoaaDoor.Code
end

section
namespace Go.Proofs.YtihdlpeghlhnoaaDoor.Code
open Go Go.Ab
open Go.Proofs.Pt hiding ZZ
variable {pure : Bool} {base bar : Nat} {H : Heap} {Q : AV → Heap → Prop}
attribute [local go_sem] aload astore storeWp Ab.part AV.isTup AV.cells setCells
theorem k33s {p a b : ZZ} (hp : GP p) (ha : GP a) (hb : GP b) : ∀ (pure : Bool) (base bar : Nat) (H : Heap) (Q : AV → Heap → Prop), WpCall E pure base bar 33 [.agg [.int .i64 p.1, .int .i64 p.2], .agg [.int .i64 a.1, .int .i64 a.2], .agg [.int .i64 b.1, .int .i64 b.2]] H Q ↔ Q (.bool (betw p a b)) H := fun _ _ _ _ _ => k33 hp ha hb
theorem k54s {p a b : ZZ} (hp : GP p) (ha : GP a) (hb : GP b) : ∀ (pure : Bool) (base bar : Nat) (H : Heap) (Q : AV → Heap → Prop), WpCall E pure base bar 54 [.agg [.int .i64 p.1, .int .i64 p.2], .agg [.int .i64 a.1, .int .i64 a.2], .agg [.int .i64 b.1, .int .i64 b.2]] H Q ↔ Q (.int .i64 (turnL p a b)) H := fun _ _ _ _ _ => k54 hp ha hb
set_option maxRecDepth 20000 in
theorem k34 {a b c d : ZZ} (ha : GP a) (hb : GP b) (hc : GP c) (hd : GP d) : WpCall E pure base bar 34 [ptA a, ptA b, ptA c, ptA d] H Q ↔ Q (.bool (touchL a b c d)) H := by
  rw [call34]
  have x1 := k33s ha hc hd
  have x2 := k33s hb hc hd
  have x3 := k33s hc ha hb
  have x4 := k33s hd ha hb
  have y1 := k54s ha hb hc
  have y2 := k54s ha hb hd
  have y3 := k54s hc hd ha
  have y4 := k54s hc hd hb
  simp [go_sem, WpFun, c34, ptA, zc, x1, x2, x3, x4]
  unfold touchL ends
  generalize betw a c d = b1
  generalize betw b c d = b2
  generalize betw c a b = b3
  generalize betw d a b = b4
  generalize turnL a b c = t1 at *
  generalize turnL a b d = t2 at *
  generalize turnL c d a = t3 at *
  generalize turnL c d b = t4 at *
  cases b1 <;> simp [go_sem, x2, x3, x4]
  cases b2 <;> simp [go_sem, x3, x4]
  cases b3 <;> simp [go_sem, x4]
  cases b4 <;> simp [go_sem, y1, y2]
  have fin : ∀ (x1 x2 x3 x4 x5 : Bool), (if x1 = true then Q (.bool false) H else if x2 = true then Q (.bool false) H else if x3 = true then Q (.bool false) H else if x4 = true then Q (.bool false) H else Q (.bool !x5) H) ↔ Q (.bool (!x1 && !x2 && !x3 && !x4 && !x5)) H := fun x1 x2 x3 x4 x5 => by
    cases x1 <;> cases x2 <;> cases x3 <;> cases x4 <;> simp
  have fin' := fin (decide (t1 = 0)) (decide (t2 = 0)) (decide (0 < t3 ↔ 0 < t4)) (decide (t3 = 0)) (decide (t4 = 0))
  have ex : (!decide (0 < t3 ↔ 0 < t4)) = (decide (0 < t3) != decide (0 < t4)) := by
    by_cases a1 : 0 < t3 <;> by_cases a2 : 0 < t4 <;> simp [a1, a2]
  have e0 : (t4 == 0) = decide (t4 = 0) := rfl
  rw [ex] at fin'
  simp only [decide_eq_true_eq] at fin'
  by_cases h1 : 0 < t1 <;> by_cases h2 : 0 < t2 <;> simp [go_sem, h1, h2, y1, y2, y3, y4] <;> (rw [e0]; exact fin')
end Go.Proofs.YtihdlpeghlhnoaaDoor.Code
end

section
namespace Go.Proofs.YtihdlpeghlhnoaaDoor.Code
open Go Go.Ab
open Go.Proofs.Pt hiding ZZ
variable {pure : Bool} {base bar : Nat} {H : Heap} {Q : AV → Heap → Prop}
attribute [local go_sem] aload astore storeWp Ab.part AV.isTup AV.cells setCells
def sdA (a b : ZZ) : AV := .agg [.int .i64 a.1, .int .i64 a.2, .int .i64 b.1, .int .i64 b.2]
theorem k51s {p q : ZZ} (hp : BP p) (hq : BP q) : ∀ (pure : Bool) (base bar : Nat) (H : Heap) (Q : AV → Heap → Prop), bar ≤ H.length → (WpCall E pure base bar 51 [.agg [.int .i64 p.1, .int .i64 p.2], .agg [.int .i64 q.1, .int .i64 q.2]] H Q ↔ Q (.agg [.int .i64 (p.1 - q.1), .int .i64 (p.2 - q.2)]) H) := fun _ _ _ _ _ hb => k51 hb hp hq
set_option maxRecDepth 20000 in
theorem k26 {a b p : ZZ} (hb : bar ≤ H.length) (h1 : GP a) (h2 : GP b) (h3 : GP p) : WpCall E pure base bar 26 [sdA a b, ptA p] H Q ↔ Q (.bool (hasS a b p)) H := by
  rw [call26]
  have x1 := k51s h1.bp h3.bp
  have x2 := k51s h2.bp h3.bp
  have d1 := sub_bd h1 h3
  have d2 := sub_bd h2 h3
  have y1 := fun (pure : Bool) (base bar : Nat) (H : Heap) (Q : AV → Heap → Prop) => k52 (pure := pure) (base := base) (bar := bar) (H := H) (Q := Q) d1 d2
  simp only [ptA, zc, subP] at y1 d1 d2
  have hb0 := fun k => barUp (pure := pure) hb k
  have hz : (if pure = true then H.length else bar) ≤ H.length := hb0 0
  have z1 : (if pure = true then H.length else bar) ≤ H.length + 1 := hb0 1
  have z2 : (if pure = true then H.length else bar) ≤ H.length + 2 := hb0 2
  have z3 : (if pure = true then H.length else bar) ≤ H.length + 3 := hb0 3
  simp [go_sem, WpFun, c26, ptA, zc, sdA]
  rw [wp_twin]
  simp [go_sem, wptwin_cons, wptwin_nil, twinNext, x1, x2, hz, z1, z2, z3, AV.top, tops_cons, tops_nil, Nat.ble]
  have m1 := d1.1.mul d2.1
  have m2 := d1.2.mul d2.2
  unfold Bd at m1 m2
  have e5 : IntKind.i64.wrap ((a.1 - p.1) * (b.1 - p.1)) = (a.1 - p.1) * (b.1 - p.1) := i64_bd ⟨by omega, by omega⟩
  have e6 : IntKind.i64.wrap ((a.2 - p.2) * (b.2 - p.2)) = (a.2 - p.2) * (b.2 - p.2) := i64_bd ⟨by omega, by omega⟩
  have e7 : IntKind.i64.wrap ((a.1 - p.1) * (b.1 - p.1) + (a.2 - p.2) * (b.2 - p.2)) = (a.1 - p.1) * (b.1 - p.1) + (a.2 - p.2) * (b.2 - p.2) := i64_bd ⟨by omega, by omega⟩
  simp [go_sem, y1]
  unfold hasS
  simp only [subP]
  by_cases h : tmP (a.1 - p.1, a.2 - p.2) (b.1 - p.1, b.2 - p.2) = 0
  · simp [go_sem, h, e5, e6, e7]
    exact Iff.rfl
  · simp [go_sem, h]
theorem k26s {a b p : ZZ} (h1 : GP a) (h2 : GP b) (h3 : GP p) : ∀ (pure : Bool) (base bar : Nat) (H : Heap) (Q : AV → Heap → Prop), bar ≤ H.length → (WpCall E pure base bar 26 [.agg [.int .i64 a.1, .int .i64 a.2, .int .i64 b.1, .int .i64 b.2], .agg [.int .i64 p.1, .int .i64 p.2]] H Q ↔ Q (.bool (hasS a b p)) H) := fun _ _ _ _ _ hb => k26 hb h1 h2 h3
end Go.Proofs.YtihdlpeghlhnoaaDoor.Code
end

section
namespace Go.Proofs.YtihdlpeghlhnoaaDoor.Code
open Go Go.Ab
open Go.Proofs.Pt hiding ZZ
variable {pure : Bool} {base bar : Nat} {H : Heap} {Q : AV → Heap → Prop}
attribute [local go_sem] aload astore storeWp Ab.part AV.isTup AV.cells setCells
theorem k52s {p q : ZZ} (hp : Bd 10000 p.1 ∧ Bd 10000 p.2) (hq : Bd 10000 q.1 ∧ Bd 10000 q.2) : ∀ (pure : Bool) (base bar : Nat) (H : Heap) (Q : AV → Heap → Prop), WpCall E pure base bar 52 [.agg [.int .i64 p.1, .int .i64 p.2], .agg [.int .i64 q.1, .int .i64 q.2]] H Q ↔ Q (.int .i64 (tmP p q)) H := fun _ _ _ _ _ => k52 hp hq
def crossT (a b c d : ZZ) : Bool := (decide (0 < tmP (subP b a) (subP c a)) != decide (0 < tmP (subP b a) (subP d a))) && (decide (0 < tmP (subP d c) (subP a c)) != decide (0 < tmP (subP d c) (subP b c)))
theorem tm_turn {a b c : ZZ} : tmP (subP b a) (subP c a) = turnL a b c := by
  simp only [tmP, subP, turnL]; grind
theorem crossT_eq {a b c d : ZZ} : crossT a b c d = crossS a b c d := by
  unfold crossT crossS; simp only [tm_turn]
theorem frz_nili {d bar : Nat} {H : Heap} : frz (d + 1) bar H .nili = some (.nili, H) := (rfl)
theorem frz_ifc {d bar : Nat} {H : Heap} {t : TypeId} {x : AV} : frz (d + 1) bar H (.ifc t x) = some (.ifc t x, H) := (rfl)
/-- what two sides have in common -/
def meetV (a b c d : ZZ) : AV := if hasS c d a then .ifc 34 (ptA a) else if hasS c d b then .ifc 34 (ptA b) else if hasS a b c then .ifc 34 (ptA c) else if hasS a b d then .ifc 34 (ptA d) else if crossT a b c d then .ifc 93 (.agg []) else .nili
set_option maxRecDepth 20000 in
theorem k27 {a b c d : ZZ} (hb : bar ≤ H.length) (h1 : GP a) (h2 : GP b) (h3 : GP c) (h4 : GP d) : WpCall E pure base bar 27 [sdA a b, sdA c d] H Q ↔ Q (meetV a b c d) H := by
  rw [call27]
  have x1 := k26s h3 h4 h1
  have x2 := k26s h3 h4 h2
  have x3 := k26s h1 h2 h3
  have x4 := k26s h1 h2 h4
  have hb0 := fun k => barUp (pure := pure) hb k
  have hz : (if pure = true then H.length else bar) ≤ H.length := hb0 0
  have z1 : (if pure = true then H.length else bar) ≤ H.length + 1 := hb0 1
  have z2 : (if pure = true then H.length else bar) ≤ H.length + 2 := hb0 2
  have z3 : (if pure = true then H.length else bar) ≤ H.length + 3 := hb0 3
  simp [go_sem, WpFun, c27, sdA]
  have w1 : IntKind.i64.wrap 1 = 1 := rfl
  have w2 : IntKind.i64.wrap 2 = 2 := rfl
  unfold meetV
  generalize hasS c d a = b1 at *
  generalize hasS c d b = b2 at *
  generalize hasS a b c = b3 at *
  generalize hasS a b d = b4 at *
  rw [wp_round c27_l0.eq_1]
  simp [go_sem, x1, hz, hb0]
  cases b1
  case true => simp [go_sem, hz, hb0, ptA, zc, aop, frz_ifc, leave0, AV.top, tops_cons, tops_nil]
  simp [go_sem, hz, hb0, w1, w2]
  rw [wp_round c27_l0.eq_1]
  simp [go_sem, x2, hz, hb0]
  cases b2
  case true => simp [go_sem, hz, hb0, ptA, zc, aop, frz_ifc, leave0, AV.top, tops_cons, tops_nil]
  simp [go_sem, hz, hb0, w1, w2]
  rw [wp_round c27_l0.eq_1]
  simp [go_sem, hz, hb0, w1, w2]
  rw [wp_round c27_l1.eq_1]
  simp [go_sem, x3, hz, hb0]
  cases b3
  case true => simp [go_sem, hz, hb0, ptA, zc, aop, frz_ifc, leave0, AV.top, tops_cons, tops_nil]
  simp [go_sem, hz, hb0, w1, w2]
  rw [wp_round c27_l1.eq_1]
  simp [go_sem, x4, hz, hb0]
  cases b4
  case true => simp [go_sem, hz, hb0, ptA, zc, aop, frz_ifc, leave0, AV.top, tops_cons, tops_nil]
  simp [go_sem, hz, hb0, w1, w2]
  rw [wp_round c27_l1.eq_1]
  simp [go_sem, hz, hb0, w1, w2]
  have u1 := k51s h2.bp h1.bp
  have u2 := k51s h4.bp h3.bp
  have u3 := k51s h3.bp h1.bp
  have u4 := k51s h4.bp h1.bp
  have u5 := k51s h1.bp h3.bp
  have u6 := k51s h2.bp h3.bp
  have v1 := k52s (sub_bd h2 h1) (sub_bd h3 h1)
  have v2 := k52s (sub_bd h2 h1) (sub_bd h4 h1)
  have v3 := k52s (sub_bd h4 h3) (sub_bd h1 h3)
  have v4 := k52s (sub_bd h4 h3) (sub_bd h2 h3)
  simp only [subP] at v1 v2 v3 v4
  rw [wp_twin]
  simp [go_sem, wptwin_cons, wptwin_nil, twinNext, u1, u2, hz, hb0, AV.top, tops_cons, tops_nil, Nat.ble]
  simp [go_sem, u3, u4, v1, v2, hz, hb0, AV.noVec.noVecs, AV.noVec]
  by_cases q1 : (0 < tmP (b.1 - a.1, b.2 - a.2) (c.1 - a.1, c.2 - a.2) ↔ 0 < tmP (b.1 - a.1, b.2 - a.2) (d.1 - a.1, d.2 - a.2))
  · have q1' : (decide (0 < tmP (subP b a) (subP c a)) != decide (0 < tmP (subP b a) (subP d a))) = false := by
      rw [bne_eq_false_iff_eq]; exact decide_eq_decide.2 q1
    have hX : crossT a b c d = false := by unfold crossT; rw [q1', Bool.false_and]
    simp [go_sem, q1, frz_nili, leave0, AV.top, hX]
  · have q1' : (decide (0 < tmP (subP b a) (subP c a)) != decide (0 < tmP (subP b a) (subP d a))) = true := by
      rw [bne_iff_ne]; exact fun e => q1 (decide_eq_decide.1 e)
    simp only [q1, if_false]
    simp [go_sem, u5, u6, v3, v4, hz, hb0, AV.noVec.noVecs, AV.noVec]
    by_cases q2 : (0 < tmP (d.1 - c.1, d.2 - c.2) (a.1 - c.1, a.2 - c.2) ↔ 0 < tmP (d.1 - c.1, d.2 - c.2) (b.1 - c.1, b.2 - c.2))
    · have q2' : (decide (0 < tmP (subP d c) (subP a c)) != decide (0 < tmP (subP d c) (subP b c))) = false := by
        rw [bne_eq_false_iff_eq]; exact decide_eq_decide.2 q2
      have hX : crossT a b c d = false := by unfold crossT; rw [q2', Bool.and_false]
      simp [go_sem, q2, frz_nili, leave0, AV.top, hX]
    · have q2' : (decide (0 < tmP (subP d c) (subP a c)) != decide (0 < tmP (subP d c) (subP b c))) = true := by
        rw [bne_iff_ne]; exact fun e => q2 (decide_eq_decide.1 e)
      have hX : crossT a b c d = true := by unfold crossT; rw [q1', q2', Bool.true_and]
      simp [go_sem, q2, hX, aop, frz_ifc, leave0, AV.top, tops_cons, tops_nil]
end Go.Proofs.YtihdlpeghlhnoaaDoor.Code
end

section
namespace Go.Proofs.YtihdlpeghlhnoaaDoor.Code
open Go Go.Ab
open Go.Proofs.Pt hiding ZZ
variable {pure : Bool} {base bar : Nat} {H : Heap} {Q : AV → Heap → Prop}
attribute [local go_sem] aload astore storeWp Ab.part AV.isTup AV.cells setCells
theorem k43 {ex : Bool} {l : List ZZ} {i : Int} {m : Nat} (hb : bar ≤ H.length) (hl : 0 < l.length) (hl2 : l.length < 1000) (hi : i + l.length = (m : Int)) (hm : m < 1000000) : WpCall E pure base bar 43 [.lst 2 ex (prA l), .int .i64 i] H Q ↔ Q (ptA (atP l m)) H := by
  rw [call43]
  have hb0 := fun k => barUp (pure := pure) hb k
  have hz : (if pure = true then H.length else bar) ≤ H.length := hb0 0
  have hlen : (prA l).length = l.length := by simp [prA]
  have e1 : IntKind.i64.wrap (i + l.length) = (m : Int) := by rw [hi]; exact i64_bd ⟨by omega, by omega⟩
  have hmod : m % l.length < l.length := Nat.mod_lt _ hl
  have hne : ((l.length : Nat) : Int) ≠ 0 := by omega
  obtain ⟨j, hj⟩ : ∃ j, j = m % l.length := ⟨_, rfl⟩
  have hjl : j < l.length := by omega
  have e2 : abin BinOp.rem (.int .i64 (m : Int)) (.int .i64 ((l.length : Nat) : Int)) = some (.int .i64 (j : Int)) := by
    rw [abin_rem hne, Int.tmod_eq_emod_of_nonneg (by omega), hj]; rfl
  have hp : (prA l)[j]? = some (.agg (zc l[j])) := by simp [prA, List.getElem?_eq_getElem hjl]
  have hat : atP l m = l[j] := by
    unfold atP; rw [← hj, List.getD_eq_getElem?_getD, List.getElem?_eq_getElem hjl]; rfl
  simp [go_sem, WpFun, c43, hz, hb0, hlen, e1, e2, hp, hat, ptA, zc]
/-- the side from a corner on -/
theorem k25 {ex : Bool} {l : List ZZ} {i : Int} {m : Nat} (hb : bar ≤ H.length) (hl : 0 < l.length) (hl2 : l.length < 1000) (hi : i + l.length = (m : Int)) (hm : m < 100000) : WpCall E pure base bar 25 [.lst 2 ex (prA l), .int .i64 i] H Q ↔ Q (sdA (atP l m) (atP l (m + 1))) H := by
  rw [call25]
  have hb0 := fun k => barUp (pure := pure) hb k
  have hz : (if pure = true then H.length else bar) ≤ H.length := hb0 0
  have e1 : IntKind.i64.wrap (i + 1) = i + 1 := i64_bd ⟨by omega, by omega⟩
  have x1 := fun (pure : Bool) (base bar : Nat) (H : Heap) (Q : AV → Heap → Prop) (hb : bar ≤ H.length) => k43 (pure := pure) (base := base) (bar := bar) (H := H) (Q := Q) (ex := ex) hb hl hl2 hi (by omega)
  have x2 := fun (pure : Bool) (base bar : Nat) (H : Heap) (Q : AV → Heap → Prop) (hb : bar ≤ H.length) => k43 (pure := pure) (base := base) (bar := bar) (H := H) (Q := Q) (ex := ex) (i := i + 1) (m := m + 1) hb hl hl2 (by omega) (by omega)
  simp only [ptA, zc] at x1 x2
  simp [go_sem, WpFun, c25, hz, hb0, e1, x1, x2, sdA, go_sem]
end Go.Proofs.YtihdlpeghlhnoaaDoor.Code
end

section
namespace Go.Proofs.YtihdlpeghlhnoaaDoor.Code
open Go Go.Ab
open Go.Proofs.Pt hiding ZZ
variable {pure : Bool} {base bar : Nat} {H : Heap} {Q : AV → Heap → Prop}
attribute [local go_sem] aload astore storeWp Ab.part AV.isTup AV.cells setCells
theorem eqWp_pt {neg : Bool} {p q : ZZ} {K : AV → Heap → List Nat → Prop} : eqWp neg (.flat [false, false]) (some (.agg [.int .i64 p.1, .int .i64 p.2])) (some (.agg [.int .i64 q.1, .int .i64 q.2])) H K = K (.bool (if neg then !decide (p = q) else decide (p = q))) H [] := by
  rw [eqWp_def]
  have e : aeq (.flat [false, false]) (.agg [.int .i64 p.1, .int .i64 p.2]) (.agg [.int .i64 q.1, .int .i64 q.2]) = some (decide (p = q)) := by
    have : decide (p = q) = (p.1 == q.1 && p.2 == q.2) := by
      rw [Bool.eq_iff_iff]; simp [Prod.ext_iff]
    rw [this]
    simp [aeq, eqCells, eqCell]
    cases p.1 == q.1 <;> cases p.2 == q.2 <;> rfl
  rw [e]
theorem prA_len {l : List ZZ} : (prA l).length = l.length := by simp [prA]
theorem prA_get {l : List ZZ} {i : Nat} (h : i < l.length) : (prA l)[i]? = some (.agg [.int .i64 l[i].1, .int .i64 l[i].2]) := by simp [prA, zc, List.getElem?_eq_getElem h]
theorem i64s {i : Nat} (h : i < 1000000) : IntKind.i64.wrap ((i : Int) + 1) = ((i + 1 : Nat) : Int) := by
  simp [IntKind.wrap, IntKind.signed, IntKind.bits]; omega
theorem l50 {R : PQ} {ex : Bool} {l : List ZZ} {p : ZZ} (H0 : Heap) (hl : l.length < 1000) (hbs : base ≤ H0.length) : ∀ (d i : Nat), i + d = l.length → (∀ x ∈ l.take i, x ≠ p) →
    (∀ j : Nat, j < l.length → p ∈ l → R .ret [(4, .int .i64 (j : Int))] (H0 ++ [.row 0 (zc p) 0 true])) →
    (p ∉ l → ∀ b, R (.exit 0) [(0, .lst 2 ex (prA l)), (3, .ptr H0.length 0 0), (7, .int .i64 (l.length : Int)), (8, .int .i64 (l.length : Int)), (9, .bool b)] (H0 ++ [.row 0 (zc p) 0 true])) →
    Wp E base bar (.loop c50_l0) [(0, .lst 2 ex (prA l)), (3, .ptr H0.length 0 0), (7, .int .i64 (l.length : Int)), (8, .int .i64 (i : Int))] (H0 ++ [.row 0 (zc p) 0 true]) R := by
  intro d
  induction d with
  | zero =>
    intro i hi hn h1 h2
    obtain rfl : i = l.length := by omega
    rw [wp_round c50_l0.eq_1]
    simp [go_sem]
    refine h2 (fun hp => ?_) _
    rw [List.take_length] at hn
    exact hn p hp rfl
  | succ d ih =>
    intro i hi hn h1 h2
    have hil : i < l.length := by omega
    rw [wp_round c50_l0.eq_1]
    have e1 := i64s (i := i) (by omega)
    simp only [zc] at h1 h2 ih ⊢
    by_cases he : p = l[i]
    · have hpm : p ∈ l := he ▸ List.getElem_mem hil
      simp [go_sem, hil, prA_get hil, eqWp_pt, he]
      rw [← he]
      exact h1 i hil hpm
    · simp [go_sem, hil, prA_get hil, eqWp_pt, he, e1]
      refine ih (i + 1) (by omega) ?_ h1 h2
      intro x hx
      rw [List.take_add_one, List.getElem?_eq_getElem hil] at hx
      rcases List.mem_append.1 hx with hx | hx
      · exact hn x hx
      · simp only [Option.toList_some, List.mem_singleton] at hx
        subst hx; exact fun e => he e.symm
theorem k50 {ex : Bool} {l : List ZZ} {p : ZZ} (hl : l.length < 1000) (h : ∀ r : Int, (0 ≤ r ↔ p ∈ l) → Q (.int .i64 r) H) : WpCall E pure base bar 50 [.lst 2 ex (prA l), ptA p] H Q := by
  rw [call50]
  simp [go_sem, WpFun, c50, ptA, zc, prA_len]
  refine l50 (ex := ex) (l := l) (p := p) H hl (Nat.le_refl _) l.length 0 (by omega) (by simp) (fun j hj hp => ?_) (fun hp b => ?_)
  · simp [go_sem]
    exact h _ ⟨fun _ => hp, fun _ => by omega⟩
  · simp [go_sem]
    exact h _ ⟨fun h => absurd h (by decide), fun h => absurd h hp⟩
theorem k23 {ex : Bool} {l : List ZZ} {p : ZZ} (hl : l.length < 1000) (h : Q (.bool (decide (p ∈ l))) H) : WpCall E pure base bar 23 [.lst 2 ex (prA l), ptA p] H Q := by
  rw [call23]
  simp [go_sem, WpFun, c23, ptA, zc]
  refine k50 hl fun r hr => ?_
  simp [go_sem]
  rw [show decide (0 ≤ r) = decide (p ∈ l) from decide_eq_decide.2 hr]
  exact h
theorem k50n {p : ZZ} (h : Q (.int .i64 (-1)) H) : WpCall E pure base bar 50 [.nils, ptA p] H Q := by
  rw [call50]
  simp [go_sem, WpFun, c50, ptA, zc]
  rw [wp_round c50_l0.eq_1]
  simp [go_sem]
  exact h
theorem k23n {p : ZZ} (h : Q (.bool false) H) : WpCall E pure base bar 23 [.nils, ptA p] H Q := by
  rw [call23]
  simp [go_sem, WpFun, c23, ptA, zc]
  refine k50n ?_
  simp [go_sem]
  exact h
end Go.Proofs.YtihdlpeghlhnoaaDoor.Code
end

section
namespace Go.Proofs.YtihdlpeghlhnoaaDoor.Code
open Go Go.Ab
open Go.Proofs.Pt hiding ZZ
variable {pure : Bool} {base bar : Nat} {H : Heap} {Q : AV → Heap → Prop}
attribute [local go_sem] aload astore storeWp Ab.part AV.isTup AV.cells setCells
def inG (p : ZZ) : Bool := (decide (0 ≤ p.1) && decide (p.1 ≤ 12)) && (decide (0 ≤ p.2) && decide (p.2 ≤ 12))
/-- the error of points, from a place on -/
def laidG : List ZZ → List ZZ → Int
  | _, [] => 0
  | done, p :: r => if inG p = true then (if p ∈ done then 6 else laidG (done ++ [p]) r) else 1
def laidF (l : List ZZ) : Int := if l.length < 3 then 4 else if 8 < l.length then 3 else laidG [] l
theorem k36s (n : Int) : ∀ (pure : Bool) (base bar : Nat) (H : Heap) (Q : AV → Heap → Prop), WpCall E pure base bar 36 [.int .i64 n, .int .i64 0, .int .i64 12] H Q ↔ Q (.bool (decide (0 ≤ n) && decide (n ≤ 12))) H := fun _ _ _ _ _ => k36
theorem asl_take {H : Heap} {ex : Bool} {l : List ZZ} {i : Nat} (hi : i ≤ l.length) : ∃ ex', aslice H (.slc 2) (.lst 2 ex (prA l)) none (some (.int .i64 (i : Int))) none = some (.lst 2 ex' (prA (l.take i))) := by
  have h1 : ¬ (l.length < i) := by omega
  refine ⟨ex && i == l.length, ?_⟩
  simp [aslice, optBound, bound1, AV.asNat, prA_len, hi, prA]
theorem l24 {R : PQ} {ex : Bool} {l : List ZZ} (H : Heap) (hl : l.length < 1000) (hb : bar ≤ H.length) : ∀ (d i : Nat), i + d = l.length →
    (laidG (l.take i) (l.drop i) ≠ 0 → ∀ G, R .ret [(2, .int .i64 (laidG (l.take i) (l.drop i)))] (H ++ G)) →
    (laidG (l.take i) (l.drop i) = 0 → R (.exit 1) [(0, .lst 2 ex (prA l)), (13, .lst 2 ex (prA l)), (14, .int .i64 (l.length : Int)), (15, .int .i64 (l.length : Int)), (16, .bool false)] H) →
    Wp E base bar (.loop c24_l0) [(0, .lst 2 ex (prA l)), (13, .lst 2 ex (prA l)), (14, .int .i64 (l.length : Int)), (15, .int .i64 (i : Int))] H R := by
  intro d
  induction d with
  | zero =>
    intro i hi h1 h2
    obtain rfl : i = l.length := by omega
    rw [wp_round c24_l0.eq_1]
    simp [go_sem]
    exact h2 (by simp [laidG])
  | succ d ih =>
    intro i hi h1 h2
    have hil : i < l.length := by omega
    have e1 := i64s (i := i) (by omega)
    have z := fun k => Nat.le_trans hb (Nat.le_add_right H.length k)
    have hd : l.drop i = l[i] :: l.drop (i + 1) := List.drop_eq_getElem_cons hil
    have ht : l.take i ++ [l[i]] = l.take (i + 1) := by rw [List.take_add_one, List.getElem?_eq_getElem hil]; rfl
    have hlt : (l.take i).length = i := by rw [List.length_take]; omega
    rw [hd] at h1 h2
    simp only [laidG, ht] at h1 h2
    rw [wp_round c24_l0.eq_1]
    by_cases hg : inG l[i] = true
    · have hg1 : (decide (0 ≤ l[i].1) && decide (l[i].1 ≤ 12)) = true := by unfold inG at hg; simp only [Bool.and_eq_true] at hg ⊢; exact hg.1
      have hg2 : (decide (0 ≤ l[i].2) && decide (l[i].2 ≤ 12)) = true := by unfold inG at hg; simp only [Bool.and_eq_true] at hg ⊢; exact hg.2
      simp [go_sem, hil, prA_get hil, z, hb, k36s, hg1, hg2]
      obtain ⟨ex', hsl⟩ := asl_take (ex := ex) (H := H ++ [Blk.row 0 [AV.int .i64 l[i].1, AV.int .i64 l[i].2] 0 true]) (Nat.le_of_lt hil)
      simp [go_sem, aop, Opd.evo, hsl]
      refine k23 (l := l.take i) (p := l[i]) (by omega) ?_
      by_cases hm : l[i] ∈ l.take i
      · simp only [hg, hm, if_true] at h1
        simp [go_sem, hm, AV.noVec.noVecs, AV.noVec]
        exact h1 (by decide) _
      · simp only [hg, hm, if_true, if_false] at h1 h2
        simp [go_sem, hm, AV.noVec.noVecs, AV.noVec, e1, tops_prA]
        exact ih (i + 1) (by omega) h1 h2
    · simp only [hg] at h1 h2
      have hg' : (decide (0 ≤ l[i].1) && decide (l[i].1 ≤ 12)) = false ∨ (decide (0 ≤ l[i].2) && decide (l[i].2 ≤ 12)) = false := by
        unfold inG at hg
        revert hg
        generalize (decide (0 ≤ l[i].1) && decide (l[i].1 ≤ 12)) = x
        generalize (decide (0 ≤ l[i].2) && decide (l[i].2 ≤ 12)) = y
        cases x <;> cases y <;> simp
      have h1' := h1 (by simp)
      simp only [Bool.false_eq_true, if_false] at h1'
      by_cases hg1 : (decide (0 ≤ l[i].1) && decide (l[i].1 ≤ 12)) = true
      · have hg2 : (decide (0 ≤ l[i].2) && decide (l[i].2 ≤ 12)) = false := hg'.resolve_left (by rw [hg1]; decide)
        simp [go_sem, hil, prA_get hil, z, hb, k36s, hg1, hg2]
        exact h1' _
      · simp only [Bool.not_eq_true] at hg1
        simp [go_sem, hil, prA_get hil, z, hb, k36s, hg1]
        exact h1' _
theorem laidG_range {r : List ZZ} : ∀ {done : List ZZ}, laidG done r = 0 ∨ laidG done r = 1 ∨ laidG done r = 6 := by
  induction r with
  | nil => intro _; exact .inl rfl
  | cons p r ih =>
    intro done
    simp only [laidG]
    split
    · split
      · simp
      · exact ih
    · simp
theorem k24 {ex : Bool} {l : List ZZ} (hb : bar ≤ H.length) (hl : l.length < 1000) (h : Q (.int .i64 (laidF l)) H) : WpCall E pure base bar 24 [.lst 2 ex (prA l)] H Q := by
  rw [call24]
  have hz : (if pure = true then H.length else bar) ≤ H.length := barUp (pure := pure) hb 0
  simp [go_sem, WpFun, c24, prA_len]
  unfold laidF at h
  by_cases h3 : l.length < 3
  · rw [if_pos h3] at h
    rw [if_pos (by omega)]; exact h
  · rw [if_neg h3] at h
    rw [if_neg (by omega)]
    by_cases h8 : 8 < l.length
    · rw [if_pos h8] at h
      rw [if_pos (by omega)]; exact h
    · rw [if_neg h8] at h
      rw [if_neg (by omega)]
      refine l24 (ex := ex) (l := l) H hl hz l.length 0 (by omega) (fun _ G => ?_) (fun h0 => ?_)
      · simp [go_sem]
        exact h
      · simp [go_sem]
        simp at h0
        rw [h0] at h; exact h
theorem k24n (h : Q (.int .i64 4) H) : WpCall E pure base bar 24 [.nils] H Q := by
  rw [call24]
  simp [go_sem, WpFun, c24]
  exact h
end Go.Proofs.YtihdlpeghlhnoaaDoor.Code
end

section
namespace Go.Proofs.YtihdlpeghlhnoaaDoor.Code
open Go Go.Ab
open Go.Proofs.Pt hiding ZZ
variable {pure : Bool} {base bar : Nat} {H : Heap} {Q : AV → Heap → Prop}
attribute [local go_sem] aload astore storeWp Ab.part AV.isTup AV.cells setCells
theorem inG_gp {p : ZZ} (h : inG p = true) : GP p := by
  simp only [inG, Bool.and_eq_true, decide_eq_true_eq] at h
  unfold GP; omega
theorem laidG_ok : ∀ {r done : List ZZ}, done.Nodup → laidG done r = 0 → (∀ p ∈ r, inG p = true) ∧ (done ++ r).Nodup
  | [], done, hn, _ => ⟨fun _ h => (by cases h), by simpa using hn⟩
  | p :: r, done, hn, h => by
    simp only [laidG] at h
    split at h
    · rename_i hg
      split at h
      · cases h
      · rename_i hm
        have hn' : (done ++ [p]).Nodup := List.nodup_append.2 ⟨hn, by simp, fun a ha b hb => by
          rw [List.mem_singleton] at hb; subst hb; exact fun e => hm (e ▸ ha)⟩
        obtain ⟨h1, h2⟩ := laidG_ok hn' h
        refine ⟨fun q hq => ?_, by simpa using h2⟩
        rcases List.mem_cons.1 hq with rfl | hq
        · exact hg
        · exact h1 q hq
    · cases h
structure Laid (l : List ZZ) : Prop where
  lo : 3 ≤ l.length
  hi : l.length ≤ 8
  inG : ∀ p ∈ l, inG p = true
  nd : l.Nodup
theorem laidF_ok {l : List ZZ} (h : laidF l = 0) : Laid l := by
  unfold laidF at h
  split at h
  · cases h
  · split at h
    · cases h
    · obtain ⟨h1, h2⟩ := laidG_ok List.nodup_nil h
      exact ⟨by omega, by omega, h1, by simpa using h2⟩
theorem atP_mem {l : List ZZ} (h : 0 < l.length) {m : Nat} : atP l m ∈ l := by
  unfold atP
  have := Nat.mod_lt m h
  rw [List.getD_eq_getElem?_getD, List.getElem?_eq_getElem this]
  exact List.getElem_mem this
theorem Laid.gp {l : List ZZ} (h : Laid l) (m : Nat) : GP (atP l m) := inG_gp (h.inG _ (atP_mem (by have := h.lo; omega)))
theorem atP_add {l : List ZZ} {m : Nat} : atP l (m + l.length) = atP l m := by unfold atP; rw [Nat.add_mod_right]
/-- do two sides meet -/
def farB (a b c d : ZZ) : Bool := ends a b c d || crossS a b c d
theorem meetV_nil (a b c d : ZZ) : (meetV a b c d = .nili ∧ farB a b c d = false) ∨ (∃ t x, meetV a b c d = .ifc t x ∧ farB a b c d = true) := by
  unfold meetV farB ends
  rw [← crossT_eq]
  simp only [has_betw]
  cases betw a c d
  · cases betw b c d
    · cases betw c a b
      · cases betw d a b
        · cases crossT a b c d
          · left; simp
          · right; exact ⟨_, _, rfl, rfl⟩
        · right; exact ⟨_, _, rfl, rfl⟩
      · right; exact ⟨_, _, rfl, rfl⟩
    · right; exact ⟨_, _, rfl, rfl⟩
  · right; exact ⟨_, _, rfl, rfl⟩
theorem k25s {ex : Bool} {l : List ZZ} (hl : Laid l) (i : Nat) (hi : i < 1000) : ∀ (pure : Bool) (base bar : Nat) (H : Heap) (Q : AV → Heap → Prop), bar ≤ H.length → (WpCall E pure base bar 25 [.lst 2 ex (prA l), .int .i64 (i : Int)] H Q ↔ Q (sdA (atP l i) (atP l (i + 1))) H) := fun pu ba br H0 Q0 hb => by
  have h1 := hl.lo; have h2 := hl.hi
  have := k25 (pure := pu) (base := ba) (bar := br) (H := H0) (Q := Q0) (ex := ex) (l := l) (i := (i : Int)) (m := i + l.length) hb (by omega) (by omega) (by omega) (by omega)
  rw [this, atP_add, show i + l.length + 1 = (i + 1) + l.length by omega, atP_add]
theorem k25p {ex : Bool} {l : List ZZ} (hl : Laid l) (i : Nat) (hi : i < 1000) : ∀ (pure : Bool) (base bar : Nat) (H : Heap) (Q : AV → Heap → Prop), bar ≤ H.length → (WpCall E pure base bar 25 [.lst 2 ex (prA l), .int .i64 ((i : Int) - 1)] H Q ↔ Q (sdA (atP l (i + l.length - 1)) (atP l i)) H) := fun pu ba br H0 Q0 hb => by
  have h1 := hl.lo; have h2 := hl.hi
  have := k25 (pure := pu) (base := ba) (bar := br) (H := H0) (Q := Q0) (ex := ex) (l := l) (i := (i : Int) - 1) (m := i + l.length - 1) hb (by omega) (by omega) (by omega) (by omega)
  rw [this, show i + l.length - 1 + 1 = i + l.length by omega, atP_add]
theorem eqWp_nn {neg : Bool} {K : AV → Heap → List Nat → Prop} : eqWp neg .nilI (some .nili) (some .nili) H K = K (.bool (if neg then false else true)) H [] := by
  rw [eqWp_def]; cases neg <;> rfl
theorem eqWp_in {neg : Bool} {t : TypeId} {x : AV} {K : AV → Heap → List Nat → Prop} : eqWp neg .nilI (some (.ifc t x)) (some .nili) H K = K (.bool (if neg then true else false)) H [] := by
  rw [eqWp_def]; cases neg <;> rfl
theorem atP_pt {l : List ZZ} {m : Nat} : (atP l m) = ((atP l m).1, (atP l m).2) := rfl
def sideB (l : List ZZ) (a b : Nat) : Blk := .row 0 [.int .i64 (atP l a).1, .int .i64 (atP l a).2, .int .i64 (atP l b).1, .int .i64 (atP l b).2] 0 true
def sides (l : List ZZ) (i : Nat) : Heap := [sideB l (i + l.length - 1) i, sideB l i (i + 1)]
theorem k27s {a b c d : ZZ} (h1 : GP a) (h2 : GP b) (h3 : GP c) (h4 : GP d) : ∀ (pure : Bool) (base bar : Nat) (H : Heap) (Q : AV → Heap → Prop), bar ≤ H.length → (WpCall E pure base bar 27 [.agg [.int .i64 a.1, .int .i64 a.2, .int .i64 b.1, .int .i64 b.2], .agg [.int .i64 c.1, .int .i64 c.2, .int .i64 d.1, .int .i64 d.2]] H Q ↔ Q (meetV a b c d) H) := fun _ _ _ _ _ hb => k27 hb h1 h2 h3 h4
theorem l6a {R : PQ} {ex : Bool} {l : List ZZ} (H : Heap) (hl : Laid l) (hb : bar ≤ H.length) {i : Nat} (hil : i < l.length) : ∀ (d k : Nat), k + d = i - 1 →
    (((List.range' k d).any fun k => decide (i - k < l.length - 1) && farC l i k) = true → ∀ G, R .ret [(2, .int .i64 5)] (H ++ G)) →
    (((List.range' k d).any fun k => decide (i - k < l.length - 1) && farC l i k) = false → ∀ x G, R (.exit 2) [(4, .lst 2 ex (prA l)), (16, .int .i64 (l.length : Int)), (17, .int .i64 (i : Int)), (5, .int .i64 (i : Int)), (7, .ptr (H.length + 1) 0 0), (38, .int .i64 ((i : Int) - 1)), (39, x), (40, .bool false)] (H ++ G)) →
    Wp E H.length bar (.loop c6_l0) [(4, .lst 2 ex (prA l)), (16, .int .i64 (l.length : Int)), (17, .int .i64 (i : Int)), (5, .int .i64 (i : Int)), (7, .ptr (H.length + 1) 0 0), (38, .int .i64 ((i : Int) - 1)), (39, .int .i64 (k : Int))] (H ++ sides l i) R := by
  intro d
  induction d with
  | zero =>
    intro k hk h1 h2
    rw [wp_round c6_l0.eq_1]
    have hki : ¬ ((k : Int) < (i : Int) - 1) := by omega
    simp [go_sem, hki]
    exact h2 (by simp) _ _
  | succ d ih =>
    intro k hk h1 h2
    have h3 := hl.lo; have h8 := hl.hi
    have hki : (k : Int) < (i : Int) - 1 := by omega
    have e1 := i64s (i := k) (by omega)
    have e2 : IntKind.i64.wrap ((i : Int) - k) = (i : Int) - k := i64_bd ⟨by omega, by omega⟩
    have e3 : IntKind.i64.wrap ((l.length : Int) - 1) = (l.length : Int) - 1 := i64_bd ⟨by omega, by omega⟩
    have z := fun k => Nat.le_trans hb (Nat.le_add_right H.length k)
    have x1 := k25s (ex := ex) hl k (by omega)
    have y1 := k27s (hl.gp i) (hl.gp (i + 1)) (hl.gp k) (hl.gp (k + 1))
    simp only [sdA] at x1
    rw [List.range'_succ, List.any_cons] at h1 h2
    unfold sides sideB at ih ⊢
    rw [wp_round c6_l0.eq_1]
    by_cases hf : (i : Int) - k < (l.length : Int) - 1
    · have hf' : decide (i - k < l.length - 1) = true := by simp; omega
      simp only [hf', Bool.true_and] at h1 h2
      rcases meetV_nil (atP l i) (atP l (i + 1)) (atP l k) (atP l (k + 1)) with ⟨m1, m2⟩ | ⟨t, u, m1, m2⟩
      · have m2' : farC l i k = false := m2
        rw [m2', Bool.false_or] at h1 h2
        simp [go_sem, hki, hf, hb, z, e1, e2, e3, x1, y1, m1, prA_len, AV.noVec.noVecs, AV.noVec, eqWp_nn]
        exact ih (k + 1) (by omega) h1 h2
      · have m2' : farC l i k = true := m2
        simp only [m2', Bool.true_or] at h1
        simp [go_sem, hki, hf, hb, z, e1, e2, e3, x1, y1, m1, prA_len, AV.noVec.noVecs, AV.noVec, eqWp_in]
        exact h1 trivial _
    · have hf' : decide (i - k < l.length - 1) = false := by simp; omega
      simp only [hf', Bool.false_and, Bool.false_or] at h1 h2
      simp [go_sem, hki, hf, hb, z, e1, e2, e3, x1, y1, prA_len, AV.noVec.noVecs, AV.noVec]
      exact ih (k + 1) (by omega) h1 h2
/-- what the check asks at a corner -/
def badAt (l : List ZZ) (i : Nat) : Bool := backC l i || (List.range' 0 (i - 1)).any fun k => decide (i - k < l.length - 1) && farC l i k
theorem badC_at (l : List ZZ) : badC l = (List.range' 0 l.length).any (badAt l) := by
  unfold badC badAt
  simp only [List.range_eq_range']
theorem l6b {R : PQ} {ex : Bool} {l : List ZZ} (H : Heap) (hl : Laid l) (hb : bar ≤ H.length) : ∀ (d i : Nat), i + d = l.length →
    (((List.range' i d).any (badAt l)) = true → ∀ G, R .ret [(2, .int .i64 5)] (H ++ G)) →
    (((List.range' i d).any (badAt l)) = false → R (.exit 0) [(4, .lst 2 ex (prA l)), (16, .int .i64 (l.length : Int)), (17, .int .i64 (l.length : Int)), (18, .bool false)] H) →
    Wp E base bar (.loop c6_l1) [(4, .lst 2 ex (prA l)), (16, .int .i64 (l.length : Int)), (17, .int .i64 (i : Int))] H R := by
  intro d
  induction d with
  | zero =>
    intro i hi h1 h2
    obtain rfl : i = l.length := by omega
    rw [wp_round c6_l1.eq_1]
    simp [go_sem]
    exact h2 (by simp)
  | succ d ih =>
    intro i hi h1 h2
    have h3 := hl.lo; have h8 := hl.hi
    have hil : i < l.length := by omega
    have e1 := i64s (i := i) (by omega)
    have e2 : IntKind.i64.wrap ((i : Int) - 1) = (i : Int) - 1 := i64_bd ⟨by omega, by omega⟩
    have z := fun k => Nat.le_trans hb (Nat.le_add_right H.length k)
    have x1 := k25s (ex := ex) hl i (by omega)
    have x2 := k25p (ex := ex) hl i (by omega)
    have y1 := k26s (hl.gp (i + l.length - 1)) (hl.gp i) (hl.gp (i + 1))
    have y2 := k26s (hl.gp i) (hl.gp (i + 1)) (hl.gp (i + l.length - 1))
    rw [List.range'_succ, List.any_cons] at h1 h2
    simp only [sdA] at x1 x2
    rw [wp_round c6_l1.eq_1]
    simp [go_sem, hil, hb, z, e1, e2, x1, x2, y1, y2]
    by_cases b1 : hasS (atP l (i + l.length - 1)) (atP l i) (atP l (i + 1)) = true
    · rw [if_pos b1]
      exact h1 (by unfold badAt backC; rw [b1]; rfl) _
    · rw [if_neg b1]
      by_cases b2 : hasS (atP l i) (atP l (i + 1)) (atP l (i + l.length - 1)) = true
      · rw [if_pos b2]
        exact h1 (by unfold badAt backC; rw [b2, Bool.or_true]; rfl) _
      · rw [if_neg b2]
        have hbk : backC l i = false := by
          unfold backC
          rw [Bool.or_eq_false_iff]
          exact ⟨by simpa using b1, by simpa using b2⟩
        refine l6a (ex := ex) H hl hb hil (i - 1) 0 (by omega) (fun hs G => ?_) (fun hs x G => ?_)
        · simp [go_sem]
          exact h1 (by unfold badAt; rw [hs, Bool.or_true]; rfl) _
        · have hat : badAt l i = false := by unfold badAt; rw [hbk, hs]; rfl
          rw [hat, Bool.false_or] at h1 h2
          simp [go_sem, e1, tops_prA]
          exact ih (i + 1) (by omega) h1 h2
/-- the error of a piece -/
def checkF (l : List ZZ) : Int := if laidF l = 0 then (if badC l = true then 5 else 0) else laidF l
theorem k6 {ex : Bool} {l : List ZZ} (hb : bar ≤ H.length) (hl : l.length < 1000) (h : Q (.int .i64 (checkF l)) H) : WpCall E pure base bar 6 [.lst 2 ex (prA l)] H Q := by
  rw [call6]
  have hz : (if pure = true then H.length else bar) ≤ H.length := barUp (pure := pure) hb 0
  simp [go_sem, WpFun, c6, prA_len]
  unfold checkF at h
  refine k24 hz hl ?_
  by_cases h0 : laidF l = 0
  · rw [if_pos h0, badC_at] at h
    simp [go_sem, h0, prA_len]
    refine l6b (ex := ex) H (laidF_ok h0) hz l.length 0 (by omega) (fun hs G => ?_) (fun hs => ?_)
    · rw [if_pos hs] at h
      simp [go_sem]; exact h
    · rw [hs] at h
      simp [go_sem]; exact h
  · rw [if_neg h0] at h
    simp [go_sem, h0]
    exact h
theorem k6n (h : Q (.int .i64 4) H) : WpCall E pure base bar 6 [.nils] H Q := by
  rw [call6]
  simp [go_sem, WpFun, c6]
  refine k24n ?_
  simp [go_sem]
  exact h
end Go.Proofs.YtihdlpeghlhnoaaDoor.Code
end

section
namespace Go.Proofs.YtihdlpeghlhnoaaDoor.Code
open Go Go.Ab
open Go.Proofs.Pt hiding ZZ
variable {pure : Bool} {base bar : Nat} {H : Heap} {Q : AV → Heap → Prop}
attribute [local go_sem] aload astore storeWp Ab.part AV.isTup AV.cells setCells
structure Smp (l : List ZZ) : Prop where
  lo : 3 ≤ l.length
  hi : l.length ≤ 8
  gp : ∀ p ∈ l, GP p
theorem Smp.at {l : List ZZ} (h : Smp l) (m : Nat) : GP (atP l m) := h.gp _ (atP_mem (by have := h.lo; omega))
theorem rem_nat {m n : Nat} (hn : 0 < n) : abin BinOp.rem (.int .i64 (m : Int)) (.int .i64 (n : Int)) = some (.int .i64 ((m % n : Nat) : Int)) := by
  rw [abin_rem (by omega), Int.tmod_eq_emod_of_nonneg (by omega)]; rfl
theorem k34s {a b c d : ZZ} (ha : GP a) (hb : GP b) (hc : GP c) (hd : GP d) : ∀ (pure : Bool) (base bar : Nat) (H : Heap) (Q : AV → Heap → Prop), WpCall E pure base bar 34 [.agg [.int .i64 a.1, .int .i64 a.2], .agg [.int .i64 b.1, .int .i64 b.2], .agg [.int .i64 c.1, .int .i64 c.2], .agg [.int .i64 d.1, .int .i64 d.2]] H Q ↔ Q (.bool (touchL a b c d)) H := fun _ _ _ _ _ => k34 ha hb hc hd
/-- two sides, as the law asks -/
def pw (a b c d : ZZ) : Bool := if a = c then false else if b = c then !(betw a c d || betw d a b) else if d = a then !(betw c a b || betw b c d) else !touchL a b c d
theorem l8a {R : PQ} {ex : Bool} {l : List ZZ} (H : Heap) (hl : Smp l) (hb : bar ≤ H.length) {i : Nat} (hil : i < l.length) : ∀ (d k : Nat), k + d = i →
    (((List.range' k d).all fun k => pairS l i k) = false → ∀ G, R .ret [(2, .bool false)] (H ++ G)) →
    (((List.range' k d).all fun k => pairS l i k) = true → ∀ x, R (.exit 2) [(0, .lst 2 ex (prA l)), (3, .int .i64 (l.length : Int)), (14, .int .i64 (l.length : Int)), (15, .int .i64 (i : Int)), (4, .int .i64 (i : Int)), (18, .int .i64 (i : Int)), (19, x), (20, .bool false)] H) →
    Wp E base bar (.loop c8_l0) [(0, .lst 2 ex (prA l)), (3, .int .i64 (l.length : Int)), (14, .int .i64 (l.length : Int)), (15, .int .i64 (i : Int)), (4, .int .i64 (i : Int)), (18, .int .i64 (i : Int)), (19, .int .i64 (k : Int))] H R := by
  intro d
  induction d with
  | zero =>
    intro k hk h1 h2
    rw [wp_round c8_l0.eq_1]
    have hki : ¬ ((k : Int) < (i : Int)) := by omega
    simp [go_sem, hki]
    exact h2 (by simp) _
  | succ d ih =>
    intro k hk h1 h2
    have h3 := hl.lo; have h8 := hl.hi
    have hki : (k : Int) < (i : Int) := by omega
    have hkl : k < l.length := by omega
    have e1 := i64s (i := k) (by omega)
    have e2 := i64s (i := i) (by omega)
    have z := fun k => Nat.le_trans hb (Nat.le_add_right H.length k)
    obtain ⟨i', hi'⟩ : ∃ i', i' = (i + 1) % l.length := ⟨_, rfl⟩
    obtain ⟨k', hk'⟩ : ∃ k', k' = (k + 1) % l.length := ⟨_, rfl⟩
    have hi'l : i' < l.length := by rw [hi']; exact Nat.mod_lt _ (by omega)
    have hk'l : k' < l.length := by rw [hk']; exact Nat.mod_lt _ (by omega)
    have r1 : abin BinOp.rem (.int .i64 ((i + 1 : Nat) : Int)) (.int .i64 (l.length : Int)) = some (.int .i64 (i' : Int)) := by rw [rem_nat (by omega), hi']
    have r2 : abin BinOp.rem (.int .i64 ((k + 1 : Nat) : Int)) (.int .i64 (l.length : Int)) = some (.int .i64 (k' : Int)) := by rw [rem_nat (by omega), hk']
    simp only [Int.natCast_add, Int.cast_ofNat_Int] at r1 r2 e1 e2
    rw [List.range'_succ, List.all_cons] at h1 h2
    rw [wp_round c8_l0.eq_1]
    simp [go_sem, hki]
    rw [wp_twin]
    simp [go_sem, wptwin_cons, wptwin_nil, twinNext, hb, z, AV.top, tops_cons, tops_nil, Nat.ble, prA_get hil, prA_get hkl, prA_get hi'l, prA_get hk'l, e1, e2, r1, r2]
    have ea : atP l i = l[i] := by unfold atP; rw [Nat.mod_eq_of_lt hil, List.getD_eq_getElem?_getD, List.getElem?_eq_getElem hil]; rfl
    have ec : atP l k = l[k] := by unfold atP; rw [Nat.mod_eq_of_lt hkl, List.getD_eq_getElem?_getD, List.getElem?_eq_getElem hkl]; rfl
    have eb : atP l (i + 1) = l[i'] := by unfold atP; rw [← hi', List.getD_eq_getElem?_getD, List.getElem?_eq_getElem hi'l]; rfl
    have ed : atP l (k + 1) = l[k'] := by unfold atP; rw [← hk', List.getD_eq_getElem?_getD, List.getElem?_eq_getElem hk'l]; rfl
    have ga := hl.at i
    have gb := hl.at (i + 1)
    have gc := hl.at k
    have gd := hl.at (k + 1)
    have hp : pairS l i k = pw (atP l i) (atP l (i + 1)) (atP l k) (atP l (k + 1)) := rfl
    rw [ea] at ga hp
    rw [eb] at gb hp
    rw [ec] at gc hp
    rw [ed] at gd hp
    rw [hp] at h1 h2
    clear hp ea eb ec ed
    generalize l[i] = a at *
    generalize l[i'] = b at *
    generalize l[k] = c at *
    generalize l[k'] = d' at *
    have ihk := fun h1 h2 => ih (k + 1) (by omega) h1 h2
    refine ⟨by rw [tops_prA]; exact Nat.zero_le _, ?_⟩
    have x1 := k33s ga gc gd
    have x2 := k33s gd ga gb
    have x3 := k33s gc ga gb
    have x4 := k33s gb gc gd
    have y1 := k34s ga gb gc gd
    by_cases q1 : a = c
    · have hp : pw a b c d' = false := by unfold pw; rw [if_pos q1]
      rw [hp] at h1
      simp [go_sem, eqWp_pt, q1]
      exact h1 rfl _
    · by_cases q2 : b = c
      · have hp : pw a b c d' = !(betw a c d' || betw d' a b) := by unfold pw; rw [if_neg q1, if_pos q2]
        rw [hp] at h1 h2
        subst q2
        generalize betw a b d' = t1 at *
        generalize betw d' a b = t2 at *
        cases t1
        · cases t2
          · simp [go_sem, eqWp_pt, q1, x1, x2, tops_prA, e1]
            exact ihk (by simpa using h1) (by simpa using h2)
          · simp [go_sem, eqWp_pt, q1, x1, x2, tops_prA, e1]
            exact h1 rfl _
        · simp [go_sem, eqWp_pt, q1, x1, x2, tops_prA, e1]
          exact h1 rfl _
      · by_cases q3 : d' = a
        · have hp : pw a b c d' = !(betw c a b || betw b c d') := by unfold pw; rw [if_neg q1, if_neg q2, if_pos q3]
          rw [hp] at h1 h2
          subst q3
          generalize betw c d' b = t1 at *
          generalize betw b c d' = t2 at *
          cases t1
          · cases t2
            · simp [go_sem, eqWp_pt, q1, q2, x3, x4, tops_prA, e1]
              exact ihk (by simpa using h1) (by simpa using h2)
            · simp [go_sem, eqWp_pt, q1, q2, x3, x4, tops_prA, e1]
              exact h1 rfl _
          · simp [go_sem, eqWp_pt, q1, q2, x3, x4, tops_prA, e1]
            exact h1 rfl _
        · have hp : pw a b c d' = !touchL a b c d' := by unfold pw; rw [if_neg q1, if_neg q2, if_neg q3]
          rw [hp] at h1 h2
          generalize touchL a b c d' = t1 at *
          cases t1
          · simp [go_sem, eqWp_pt, q1, q2, q3, y1, tops_prA, e1]
            exact ihk (by simpa using h1) (by simpa using h2)
          · simp [go_sem, eqWp_pt, q1, q2, q3, y1, tops_prA, e1]
            exact h1 rfl _
def simpAt (l : List ZZ) (i : Nat) : Bool := (List.range' 0 i).all fun k => pairS l i k
theorem l8b {R : PQ} {ex : Bool} {l : List ZZ} (H : Heap) (hl : Smp l) (hb : bar ≤ H.length) : ∀ (d i : Nat), i + d = l.length →
    (((List.range' i d).all (simpAt l)) = false → ∀ G, R .ret [(2, .bool false)] (H ++ G)) →
    (((List.range' i d).all (simpAt l)) = true → R (.exit 0) [(0, .lst 2 ex (prA l)), (3, .int .i64 (l.length : Int)), (14, .int .i64 (l.length : Int)), (15, .int .i64 (l.length : Int)), (16, .bool false)] H) →
    Wp E base bar (.loop c8_l1) [(0, .lst 2 ex (prA l)), (3, .int .i64 (l.length : Int)), (14, .int .i64 (l.length : Int)), (15, .int .i64 (i : Int))] H R := by
  intro d
  induction d with
  | zero =>
    intro i hi h1 h2
    obtain rfl : i = l.length := by omega
    rw [wp_round c8_l1.eq_1]
    simp [go_sem]
    exact h2 (by simp)
  | succ d ih =>
    intro i hi h1 h2
    have h3 := hl.lo; have h8 := hl.hi
    have hil : i < l.length := by omega
    have e1 := i64s (i := i) (by omega)
    rw [List.range'_succ, List.all_cons] at h1 h2
    rw [wp_round c8_l1.eq_1]
    simp [go_sem, hil]
    refine l8a (ex := ex) H hl hb hil i 0 (by omega) (fun hs G => ?_) (fun hs x => ?_)
    · simp [go_sem]
      exact h1 (by unfold simpAt; rw [hs]; rfl) _
    · have hat : simpAt l i = true := hs
      rw [hat, Bool.true_and] at h1 h2
      simp [go_sem, e1, tops_prA]
      exact ih (i + 1) (by omega) h1 h2
theorem simpleF_at (l : List ZZ) : simpleF l = (decide (3 ≤ l.length) && (List.range' 0 l.length).all (simpAt l)) := by
  unfold simpleF simpAt
  simp only [List.range_eq_range']
theorem k8 {ex : Bool} {l : List ZZ} (hb : bar ≤ H.length) (hl : Smp l) (h : Q (.bool (simpleF l)) H) : WpCall E pure base bar 8 [.lst 2 ex (prA l)] H Q := by
  rw [call8]
  have hz : (if pure = true then H.length else bar) ≤ H.length := barUp (pure := pure) hb 0
  have h3 := hl.lo
  simp [go_sem, WpFun, c8, prA_len]
  rw [if_neg (by omega)]
  rw [simpleF_at, show decide (3 ≤ l.length) = true from by simpa using h3, Bool.true_and] at h
  refine l8b (ex := ex) H hl hz l.length 0 (by omega) (fun hs G => ?_) (fun hs => ?_)
  · rw [hs] at h
    simp [go_sem]; exact h
  · rw [hs] at h
    simp [go_sem]; exact h
end Go.Proofs.YtihdlpeghlhnoaaDoor.Code
end

section
namespace Go.Proofs.YtihdlpeghlhnoaaDoor.Code
open Go Go.Ab
open Go.Proofs.Pt hiding ZZ
variable {pure : Bool} {base bar : Nat} {H : Heap} {Q : AV → Heap → Prop}
attribute [local go_sem] aload astore storeWp Ab.part AV.isTup AV.cells setCells
/-- points, each once -/
def addP (out : List ZZ) (p : ZZ) : List ZZ := if p ∈ out then out else out ++ [p]
theorem k23own {k : Nat} {l : List ZZ} {v : AV} {p : ZZ} (g : Ab.Own k 2 (prs l) v H) (hb : bar ≤ k) (hl : l.length < 1000)
    (h : ∀ H', Ab.Own k 2 (prs l) v H' → H'.length = H.length → (∀ j, idOf v ≠ some j → H'[j]? = H[j]?) → Q (.bool (decide (p ∈ l))) H') : WpCall E pure base bar 23 [v, ptA p] H Q := by
  obtain ⟨H', h1, h2, h3, h4⟩ := g.frz (d := 5) (by decide) (by rw [prs_length]; exact Nat.dvd_mul_right ..) (fun c hc => prs_plain c hc) hb
  rw [call23]
  have hz : frzAll bar H [v, ptA p] = some ([outL 2 (prs l), ptA p], H') := by
    have h1' : frz 8 bar H v = some (outL 2 (prs l), H') := h1
    simp only [frzAll, frz.frzs, frzsW, h1']
    rfl
  rw [hz]
  have h' := h H' h2 h3 h4
  rw [outL_prs]
  split
  · rename_i he
    subst he
    have := k23n (pure := pure) (base := base) (bar := bar) (p := p) (H := H') (Q := Q) (by simpa using h')
    rw [call23] at this
    simpa [frzAll, frz.frzs, frzsW, ptA, zc, frz] using this
  · have := k23 (ex := false) (pure := pure) (base := base) (bar := bar) (p := p) (l := l) (H := H') (Q := Q) hl h'
    rw [call23] at this
    have hz2 : frzAll bar H' [.lst 2 false (prA l), ptA p] = some ([.lst 2 false (prA l), ptA p], H') := by
      simp [frzAll, frz.frzs, frzsW, ptA, zc, frz]
    rw [hz2] at this
    exact this
end Go.Proofs.YtihdlpeghlhnoaaDoor.Code
end

section
namespace Go.Proofs.YtihdlpeghlhnoaaDoor.Code
open Go Go.Ab
open Go.Proofs.Pt hiding ZZ
variable {pure : Bool} {base bar : Nat} {H : Heap} {Q : AV → Heap → Prop}
attribute [local go_sem] aload astore storeWp Ab.part AV.isTup AV.cells setCells
def hb16 (f : Nat → Nat) : List AV := (List.range 16).map fun i => AV.int .u8 (f i : Nat)
def hidA (s : Nat) (f : Nat → Nat) : AV := .agg (.int .u8 (s : Nat) :: hb16 f)
/-- the point with a number -/
def ptH (n : Nat) (f : Nat → Nat) (i : Nat) : ZZ := (((f (2 * i) % n : Nat) : Int), ((f (2 * i + 1) % n : Nat) : Int))
def ptsH (n : Nat) (f : Nat → Nat) : List ZZ := (List.range' 0 8).foldl (fun out i => addP out (ptH n f i)) []
theorem l5 {R : PQ} (H0 : Heap) {n : Nat} (hn : 0 < n) (hn2 : n < 100) {f : Nat → Nat} (hf : ∀ i, f i < 256) (hb : bar ≤ H0.length) : ∀ (d i : Nat), i + d = 8 → ∀ (done : List ZZ) (v : AV) (H : Heap),
    Ab.Own H0.length 2 (prs done) v H → H0.length ≤ H.length → (∀ j, j < H0.length → H[j]? = H0[j]?) → done.length ≤ i →
    (∀ v' H', Ab.Own H0.length 2 (prs ((List.range' i d).foldl (fun out i => addP out (ptH n f i)) done)) v' H' → H0.length ≤ H'.length → (∀ j, j < H0.length → H'[j]? = H0[j]?) → R (.exit 0) [(3, .int .i64 (n : Int)), (4, v'), (14, .agg (hb16 f)), (15, .int .i64 8), (16, .bool false)] H') →
    Wp E H0.length bar (.loop c5_l0) [(3, .int .i64 (n : Int)), (4, v), (14, .agg (hb16 f)), (15, .int .i64 (i : Int))] H R := by
  intro d
  induction d with
  | zero =>
    intro i hi done v H g h1 h2 hl h
    obtain rfl : i = 8 := by omega
    rw [wp_round c5_l0.eq_1]
    simp [go_sem]
    exact h v H g h1 h2
  | succ d ih =>
    intro i hi done v H g h1 h2 hl h
    have hi8 : i < 8 := by omega
    have hi8' : (i : Int) < 8 := by omega
    have e1 := i64s (i := i) (by omega)
    have z : bar ≤ H.length := by omega
    have z' := fun k => Nat.le_trans z (Nat.le_add_right H.length k)
    obtain ⟨s1, s2⟩ := g.slot
    have hln : (hb16 f).length = 16 := by simp [hb16]
    have hle : i * 2 + 2 ≤ 16 := by omega
    have hix : List.take 2 (List.drop (i * 2) (hb16 f)) = [.int .u8 (f (2 * i) : Nat), .int .u8 (f (2 * i + 1) : Nat)] := by
      have : i = 0 ∨ i = 1 ∨ i = 2 ∨ i = 3 ∨ i = 4 ∨ i = 5 ∨ i = 6 ∨ i = 7 := by omega
      rcases this with rfl | rfl | rfl | rfl | rfl | rfl | rfl | rfl <;> rfl
    have c1 : IntKind.i64.wrap ((f (2 * i) : Nat) : Int) = (f (2 * i) : Nat) := i64_bd ⟨by omega, by have := hf (2 * i); omega⟩
    have c2 : IntKind.i64.wrap ((f (2 * i + 1) : Nat) : Int) = (f (2 * i + 1) : Nat) := i64_bd ⟨by omega, by have := hf (2 * i + 1); omega⟩
    have r1 : abin BinOp.rem (.int .i64 ((f (2 * i) : Nat) : Int)) (.int .i64 (n : Int)) = some (.int .i64 (ptH n f i).1) := rem_nat hn
    have r2 : abin BinOp.rem (.int .i64 ((f (2 * i + 1) : Nat) : Int)) (.int .i64 (n : Int)) = some (.int .i64 (ptH n f i).2) := rem_nat hn
    rw [wp_round c5_l0.eq_1]
    simp [go_sem, hi8, hi8', z, z', s1, s2, hix, hln, hle, c1, c2, r1, r2]
    obtain ⟨B1, hB1⟩ : ∃ B1 : Blk, B1 = Blk.row 0 [AV.int .u8 ((f (2 * i) : Nat) : Int), AV.int .u8 ((f (2 * i + 1) : Nat) : Int)] 0 true := ⟨_, rfl⟩
    obtain ⟨p, hp⟩ : ∃ p, p = ptH n f i := ⟨_, rfl⟩
    rw [← hB1, ← hp]
    have hfold : ∀ o, (List.range' i (d + 1)).foldl (fun out i => addP out (ptH n f i)) o = (List.range' (i + 1) d).foldl (fun out i => addP out (ptH n f i)) (addP o p) := fun o => by
      rw [List.range'_succ, List.foldl_cons, hp]
    rw [hfold] at h
    have g1 : Ab.Own H0.length 2 (prs done) v (H ++ [B1, Blk.row 0 [AV.int .i64 p.1, AV.int .i64 p.2] 0 true]) := g.mono fun j hj => List.getElem?_append_left (g.lt hj).2
    refine k23own (k := H0.length) (l := done) (p := p) g1 hb (by omega) fun H' g2 hl' hs' => ?_
    have hlen : H'.length = H.length + 2 := by rw [hl']; simp
    have hpt : H'[H.length + 1]? = some (Blk.row 0 [AV.int .i64 p.1, AV.int .i64 p.2] 0 true) := by
      rw [hs' _ (fun e => by have := (g.lt e).2; omega)]
      rw [List.getElem?_append_right (by omega)]; simp
    have hsm : ∀ j, j < H0.length → H'[j]? = H0[j]? := fun j hj => by
      rw [hs' _ (fun e => by have := (g.lt e).1; omega), List.getElem?_append_left (by omega), h2 j hj]
    by_cases hm : p ∈ done
    · have ha : addP done p = done := by unfold addP; rw [if_pos hm]
      rw [ha] at h
      simp [go_sem, hm, e1]
      exact ih (i + 1) (by omega) done v H' g2 (by omega) hsm (by omega) h
    · have ha : addP done p = done ++ [p] := by unfold addP; rw [if_neg hm]
      rw [ha] at h
      simp [go_sem, hm, hpt, aop, fillA, setCells, chunks, AV.noVec.noVecs, AV.noVec]
      refine Own.pair (k := H0.length) (l := done) (p := p) g2 (by omega) hb (Nat.le_refl _) (by omega) fun v' H'' tc g3 kp => ?_
      obtain ⟨t1, t2⟩ := g3.slot
      simp [go_sem, e1, t1, t2]
      have hH : H0.length ≤ H''.length := by have := kp.len; omega
      refine ih (i + 1) (by omega) (done ++ [p]) v' H'' g3 hH (fun j hj => ?_) (by simp; omega) h
      rw [kp.same j (by omega) (fun e => by have := (g2.lt e).1; omega), hsm j hj]
theorem k5 {s : Nat} {f : Nat → Nat} (hs : s < 256) (hf : ∀ i, f i < 256) (hb : bar ≤ H.length) (h : Q (outL 2 (prs (ptsH (3 + s % 11) f))) H) : WpCall E pure base bar 5 [hidA s f] H Q := by
  rw [call5]
  have hz : (if pure = true then H.length else bar) ≤ H.length := barUp (pure := pure) hb 0
  have hpl : frzsW (frz 7 bar) H (hb16 f) = some (hb16 f, H) := plains (d := 5) (fun c hc => by
    obtain ⟨i, _, rfl⟩ := List.mem_map.1 hc
    exact fun _ _ _ => rfl)
  have hln : (hb16 f).length = 16 := by simp [hb16]
  have e0 : IntKind.i64.wrap ((s : Nat) : Int) = (s : Int) := i64_bd ⟨by omega, by omega⟩
  have r0 : abin BinOp.rem (.int .i64 ((s : Nat) : Int)) (.int .i64 11) = some (.int .i64 ((s % 11 : Nat) : Int)) := by
    rw [abin_rem (by omega), Int.tmod_eq_emod_of_nonneg (by omega)]; rfl
  have e1 : IntKind.i64.wrap (3 + ((s % 11 : Nat) : Int)) = ((3 + s % 11 : Nat) : Int) := by rw [i64_bd ⟨by omega, by omega⟩]; omega
  simp only [Int.natCast_emod, Int.cast_ofNat_Int, Int.natCast_add] at r0 e1
  simp [go_sem, WpFun, c5, hidA, hpl, hln, e0, r0, e1, List.take_of_length_le]
  refine l5 (n := 3 + s % 11) H (by omega) (by omega) hf hz 8 0 rfl [] .nils _ .nil (by simp) (fun j hj => List.getElem?_append_left hj) (by simp) fun v' H' g h1 h2 => ?_
  obtain ⟨t1, t2⟩ := g.slot
  simp [go_sem, t2]
  obtain ⟨H2, q1, q2, q3, q4⟩ := g.frz (d := 5) (bar := if pure = true then H.length else bar) (by decide) (by rw [prs_length]; exact Nat.dvd_mul_right ..) (fun c hc => prs_plain c hc) hz
  have q1' : frz 8 (if pure = true then H.length else bar) H' v' = some (outL 2 (prs (ptsH (3 + s % 11) f)), H2) := q1
  have htk : H2.take H.length = H := by
    refine List.ext_getElem? fun j => ?_
    rw [List.getElem?_take]
    split
    · rename_i hj
      rw [q4 j (fun e => by have := (g.lt e).1; omega), h2 j hj]
    · rename_i hj
      rw [List.getElem?_eq_none (by omega)]
  have htop : AV.top.tops [outL 2 (prs (ptsH (3 + s % 11) f))] = 0 := by
    rw [tops_cons, tops_nil, isP.out.top]; rfl
  rw [q1']
  simp [go_sem, htk, htop]
  exact h
end Go.Proofs.YtihdlpeghlhnoaaDoor.Code
end

section
namespace Go.Proofs.YtihdlpeghlhnoaaDoor.Code
open Go Go.Ab
open Go.Proofs.Pt hiding ZZ
variable {pure : Bool} {base bar : Nat} {H : Heap} {Q : AV → Heap → Prop}
attribute [local go_sem] aload astore storeWp Ab.part AV.isTup AV.cells setCells
theorem flat_prA {l : List ZZ} : (prA l).flatMap AV.cells = prs l := by
  induction l with
  | nil => rfl
  | cons p l ih =>
    simp only [prA, List.map_cons, List.flatMap_cons] at ih ⊢
    rw [ih]; rfl
theorem noVecs_prs {l : List ZZ} : AV.noVec.noVecs (prs l) = true := by
  induction l with
  | nil => rfl
  | cons p l ih =>
    show AV.noVec.noVecs (.int .i64 p.1 :: .int .i64 p.2 :: prs l) = true
    simp only [AV.noVec.noVecs, AV.noVec, ih, Bool.and_self]
theorem app_first {ex : Bool} {l : List ZZ} {K : AV → Heap → List Nat → Prop} (hl : l ≠ []) (hlen : l.length < 1000) :
    appWp base bar 2 16 (some (.lst 2 true [])) (some (.lst 2 ex (prA l))) H K = K (.vec H.length 0 0 l.length 2) (H ++ [.row 0 (prs l) 0 false]) [] := by
  have hz : frzAll bar H (prs l) = some (prs l, H) := by
    have := plains (d := 6) (bar := bar) (H := H) (prs_plain (l := l))
    simpa [frzAll, frz.frzs] using this
  have hne : (prs l).isEmpty = false := by cases l with
    | nil => exact absurd rfl hl
    | cons a r => rfl
  simp [appWp, asrc_lst, flat_prA, hz, aappend, hne, prs_length, noVecs_prs, show l.length * 16 ≤ 140737488355328 by omega, Nat.dvd_mul_right]
theorem k9 {ex : Bool} {l : List ZZ} (hl : l ≠ []) (hlen : l.length < 1000) (hb : bar ≤ H.length) (h : Q (.vec H.length 0 0 l.length 2) (H ++ [.row 0 (prs l) 0 false])) : WpCall E pure base bar 9 [.lst 2 ex (prA l)] H Q := by
  rw [call9]
  have hz : (if pure = true then H.length else bar) ≤ H.length := barUp (pure := pure) hb 0
  simp [go_sem, WpFun, c9, eqWp_def, aeq]
  simp [go_sem, aop, fillA, chunks, AV.noVec.noVecs, frzAll, frz.frzs, frzsW]
  rw [app_first hl hlen]
  simp [go_sem, leave]
  exact h
end Go.Proofs.YtihdlpeghlhnoaaDoor.Code
end

section
namespace Go.Proofs.YtihdlpeghlhnoaaDoor.Code
open Go Go.Ab
open Go.Proofs.Pt hiding ZZ
variable {pure : Bool} {base bar : Nat} {H : Heap} {Q : AV → Heap → Prop}
attribute [local go_sem] aload astore storeWp Ab.part AV.isTup AV.cells setCells
theorem ptH_in {n : Nat} (hn : 0 < n) (h13 : n ≤ 13) {f : Nat → Nat} {i : Nat} : inG (ptH n f i) = true := by
  have h1 := Nat.mod_lt (f (2 * i)) hn
  have h2 := Nat.mod_lt (f (2 * i + 1)) hn
  unfold inG ptH
  simp only [Bool.and_eq_true, decide_eq_true_eq]
  omega
theorem fold_ok {n : Nat} (hn : 0 < n) (h13 : n ≤ 13) {f : Nat → Nat} : ∀ (is : List Nat) (o : List ZZ), (∀ p ∈ o, inG p = true) → o.Nodup →
    (∀ p ∈ is.foldl (fun out i => addP out (ptH n f i)) o, inG p = true) ∧ (is.foldl (fun out i => addP out (ptH n f i)) o).Nodup ∧ o.length ≤ (is.foldl (fun out i => addP out (ptH n f i)) o).length ∧ (is.foldl (fun out i => addP out (ptH n f i)) o).length ≤ o.length + is.length
  | [], o, h1, h2 => ⟨h1, h2, Nat.le_refl _, by simp⟩
  | i :: is, o, h1, h2 => by
    rw [List.foldl_cons]
    by_cases hm : ptH n f i ∈ o
    · have e : addP o (ptH n f i) = o := by unfold addP; rw [if_pos hm]
      rw [e]
      obtain ⟨a, b, c, d⟩ := fold_ok hn h13 is o h1 h2
      exact ⟨a, b, c, by simp; omega⟩
    · have e : addP o (ptH n f i) = o ++ [ptH n f i] := by unfold addP; rw [if_neg hm]
      rw [e]
      obtain ⟨a, b, c, d⟩ := fold_ok (f := f) hn h13 is (o ++ [ptH n f i]) (fun p hp => by
        rcases List.mem_append.1 hp with hp | hp
        · exact h1 p hp
        · rw [List.mem_singleton] at hp; subst hp; exact ptH_in hn h13) (List.nodup_append.2 ⟨h2, by simp, fun a ha b hb => by
          rw [List.mem_singleton] at hb; subst hb; exact fun e => hm (e ▸ ha)⟩)
      simp at c d
      exact ⟨a, b, by omega, by simp; omega⟩
theorem ptsH_ok {n : Nat} (hn : 0 < n) (h13 : n ≤ 13) {f : Nat → Nat} : (∀ p ∈ ptsH n f, inG p = true) ∧ (ptsH n f).Nodup ∧ 1 ≤ (ptsH n f).length ∧ (ptsH n f).length ≤ 8 := by
  have h0 : ptsH n f = (List.range' 1 7).foldl (fun out i => addP out (ptH n f i)) [ptH n f 0] := by
    unfold ptsH
    rw [show List.range' 0 8 = 0 :: List.range' 1 7 from rfl, List.foldl_cons]
    have : addP [] (ptH n f 0) = [ptH n f 0] := by unfold addP; rw [if_neg (by simp)]; rfl
    rw [this]
  obtain ⟨a, b, c, d⟩ := fold_ok (f := f) hn h13 (List.range' 1 7) [ptH n f 0] (fun p hp => by rw [List.mem_singleton] at hp; subst hp; exact ptH_in hn h13) (by simp)
  rw [← h0] at a b c d
  exact ⟨a, b, by simpa using c, by simpa using d⟩
theorem laidG_app {q : ZZ} : ∀ {r done : List ZZ}, (∀ p ∈ r, inG p = true) → (done ++ r).Nodup → laidG done (r ++ [q]) = if inG q = true then (if q ∈ done ++ r then 6 else 0) else 1
  | [], done, _, _ => by simp [laidG]
  | p :: r, done, h1, h2 => by
    have hp := h1 p (by simp)
    have hm : p ∉ done := fun hm => by
      rw [List.nodup_append] at h2
      exact h2.2.2 p hm p (by simp) rfl
    simp only [List.cons_append, laidG, hp, if_true]
    rw [if_neg hm]
    rw [laidG_app (fun x hx => h1 x (by simp [hx])) (by simpa using h2)]
    simp
theorem laidG_zero : ∀ {r done : List ZZ}, (∀ p ∈ r, inG p = true) → (done ++ r).Nodup → laidG done r = 0
  | [], done, _, _ => rfl
  | p :: r, done, h1, h2 => by
    have hp := h1 p (by simp)
    have hm : p ∉ done := fun hm => by
      rw [List.nodup_append] at h2
      exact h2.2.2 p hm p (by simp) rfl
    simp only [laidG, hp, if_true]
    rw [if_neg hm]
    exact laidG_zero (fun x hx => h1 x (by simp [hx])) (by simpa using h2)
theorem check_small {l : List ZZ} (h : l.length < 3) : checkF l = 4 := by
  unfold checkF laidF; simp [h]
theorem laidF_of {l : List ZZ} (h3 : 3 ≤ l.length) (h8 : l.length ≤ 8) : laidF l = laidG [] l := by
  unfold laidF
  rw [if_neg (by omega), if_neg (by omega)]
theorem check_simple {l : List ZZ} (h3 : 3 ≤ l.length) (h8 : l.length ≤ 8) (hg : ∀ p ∈ l, inG p = true) (hn : l.Nodup) : checkF l = if simpleF l = true then 0 else 5 := by
  have h0 : laidF l = 0 := by rw [laidF_of h3 h8]; exact laidG_zero hg (by simpa using hn)
  unfold checkF
  rw [if_pos h0, simple_bad hn h3]
  cases badC l <;> simp
theorem check_app {l : List ZZ} {q : ZZ} (h3 : 3 ≤ l.length) (h8 : l.length < 8) (hg : ∀ p ∈ l, inG p = true) (hn : l.Nodup) : (q ∈ l → checkF (l ++ [q]) = 6) ∧ (inG q = false → checkF (l ++ [q]) = 1) := by
  have h0 : laidF (l ++ [q]) = if inG q = true then (if q ∈ l then 6 else 0) else 1 := by
    rw [laidF_of (by simp; omega) (by simp; omega), laidG_app hg (by simpa using hn)]; simp
  unfold checkF
  constructor
  · intro hq
    rw [if_pos (hg q hq), if_pos hq] at h0
    rw [h0]; rfl
  · intro hq
    rw [if_neg (by rw [hq]; decide)] at h0
    rw [h0]; rfl
theorem k6own {k : Nat} {l : List ZZ} {v : AV} (g : Ab.Own k 2 (prs l) v H) (hb : bar ≤ k) (hk : k ≤ H.length) (hne : l ≠ []) (hl : l.length < 1000)
    (h : ∀ H', H'.length = H.length → (∀ j, idOf v ≠ some j → H'[j]? = H[j]?) → Q (.int .i64 (checkF l)) H') : WpCall E pure base bar 6 [v] H Q := by
  obtain ⟨H', h1, h2, h3, h4⟩ := g.frz (d := 5) (by decide) (by rw [prs_length]; exact Nat.dvd_mul_right ..) (fun c hc => prs_plain c hc) hb
  rw [call6]
  have hz : frzAll bar H [v] = some ([.lst 2 false (prA l)], H') := by
    have h1' : frz 8 bar H v = some (outL 2 (prs l), H') := h1
    rw [outL_prs, if_neg hne] at h1'
    simp only [frzAll, frz.frzs, frzsW, h1']
  rw [hz]
  have := k6 (ex := false) (pure := pure) (base := base) (bar := bar) (l := l) (H := H') (Q := Q) (by omega) hl (h H' h3 h4)
  rw [call6] at this
  have hz2 : frzAll bar H' [.lst 2 false (prA l)] = some ([.lst 2 false (prA l)], H') := by
    simp [frzAll, frz.frzs, frzsW, frz]
  rw [hz2] at this
  exact this
theorem own_first {k : Nat} {l : List ZZ} (hl : l ≠ []) (hk : k ≤ H.length) : Ab.Own k 2 (prs l) (.vec H.length 0 0 l.length 2) (H ++ [.row 0 (prs l) 0 false]) := by
  refine .inr ⟨H.length, 0, 0, fun e => hl (prs_eq_nil.1 e), hk, Nat.zero_le _, ?_, by simp⟩
  rw [prs_length, Nat.mul_div_cancel_left _ (by decide)]
theorem k3 {s c : Nat} {f : Nat → Nat} (hs : s < 256) (hc : c < 256) (hf : ∀ i, f i < 256) (hb : bar ≤ H.length) : WpCall E false base bar 3 [hidA s f, .int .u8 (c : Int)] H (fun v _ => v = .bool true) := by
  rw [call3]
  obtain ⟨a1, a2, a3, a4⟩ := ptsH_ok (n := 3 + s % 11) (by omega) (by omega) (f := f)
  obtain ⟨L, hL⟩ : ∃ L, L = ptsH (3 + s % 11) f := ⟨_, rfl⟩
  have hpl : frzsW (frz 7 bar) H (hb16 f) = some (hb16 f, H) := plains (d := 5) (fun c hc => by
    obtain ⟨i, _, rfl⟩ := List.mem_map.1 hc
    exact fun _ _ _ => rfl)
  have hln : (hb16 f).length = 16 := by simp [hb16]
  have z := fun k => Nat.le_trans hb (Nat.le_add_right H.length k)
  simp [go_sem, WpFun, c3, hidA, hpl, hln, List.take_of_length_le]
  have k5' := fun (pure : Bool) (base bar : Nat) (H : Heap) (Q : AV → Heap → Prop) => k5 (pure := pure) (base := base) (bar := bar) (H := H) (Q := Q) hs hf
  simp only [hidA] at k5'
  refine k5' _ _ _ _ _ (by simp; omega) ?_
  rw [← hL] at a1 a2 a3 a4 ⊢
  have hLne : L ≠ [] := fun e => by rw [e] at a3; simp at a3
  rw [outL_prs, if_neg hLne]
  have e0 : IntKind.i64.wrap ((c : Nat) : Int) = (c : Int) := i64_bd ⟨by omega, by omega⟩
  have r0 : abin BinOp.rem (.int .i64 ((c : Nat) : Int)) (.int .i64 6) = some (.int .i64 ((c % 6 : Nat) : Int)) := by
    rw [abin_rem (by omega), Int.tmod_eq_emod_of_nonneg (by omega)]; rfl
  have e1 : IntKind.i64.wrap (3 + ((c % 6 : Nat) : Int)) = ((3 + c % 6 : Nat) : Int) := by rw [i64_bd ⟨by omega, by omega⟩]; omega
  simp only [Int.natCast_emod, Int.cast_ofNat_Int, Int.natCast_add] at r0 e1
  simp [go_sem, e0, r0, e1, prA_len]
  obtain ⟨m, hm⟩ : ∃ m : Nat, (m : Int) = (if 3 + (c : Int) % 6 < (L.length : Int) then 3 + (c : Int) % 6 else (L.length : Int)) := by
    by_cases hlt : 3 + c % 6 < L.length
    · exact ⟨3 + c % 6, by rw [if_pos (by omega)]; omega⟩
    · exact ⟨L.length, by rw [if_neg (by omega)]⟩
  have hm1 : 1 ≤ m := by split at hm <;> omega
  have hm2 : m ≤ L.length := by split at hm <;> omega
  obtain ⟨ex, hsl⟩ := asl_take (ex := false) (H := H ++ [Blk.row 0 (AV.int .u8 (s : Int) :: hb16 f) 0 true]) hm2
  rw [hm] at hsl
  simp [aop, evs, Opd.ev, fgetN]
  simp [go_sem, aop, Opd.evo, hsl]
  have hlm : (L.take m).length = m := by rw [List.length_take]; omega
  have b1 : ∀ p ∈ L.take m, inG p = true := fun p hp => a1 p (List.mem_of_mem_take hp)
  have b2 : (L.take m).Nodup := a2.sublist (List.take_sublist m L)
  clear hsl hm
  generalize L.take m = l at *
  refine k6 (ex := ex) (l := l) (by simp; omega) (by omega) ?_
  simp [go_sem, prA_len, tops_prA]
  by_cases h3 : l.length < 3
  · rw [check_small h3, if_pos (by omega)]
    simp [go_sem, call7]
  · rw [if_neg (by omega)]
    have hs3 : Smp l := ⟨by omega, by omega, fun p hp => inG_gp (b1 p hp)⟩
    refine k8 (ex := ex) (l := l) (by simp; omega) hs3 ?_
    rw [check_simple (by omega) (by omega) b1 b2]
    have hne : l ≠ [] := fun e => by rw [e] at h3; simp at h3
    obtain ⟨q0, hq0⟩ : ∃ q0, l[0]? = some q0 := ⟨l[0]'(by omega), List.getElem?_eq_getElem _⟩
    have hq0m : q0 ∈ l := List.mem_of_getElem? hq0
    have hp0 : (prA l)[0]? = some (.agg [.int .i64 q0.1, .int .i64 q0.2]) := by simp [prA, hq0, zc]
    generalize simpleF l = b
    cases b <;> simp [go_sem, prA_len]
    all_goals
      by_cases h8 : (l.length : Int) < 8
      · rw [if_pos h8]
        have hH : H.length + 1 = (H ++ [Blk.row 0 (AV.int .u8 (s : Int) :: hb16 f) 0 true]).length := by simp
        generalize (H ++ [Blk.row 0 (AV.int .u8 (s : Int) :: hb16 f) 0 true]) = H1 at *
        refine k9 hne (by omega) (by omega) ?_
        simp [go_sem, hp0, aop, fillA, setCells, chunks, AV.noVec.noVecs, AV.noVec]
        refine Own.pair (k := H.length) (l := l) (p := q0) (own_first hne (by omega)) (by simp; omega) hb (Nat.le_refl _) (by omega) fun v1 G1 tc1 g1 kp1 => ?_
        obtain ⟨t1, t2⟩ := g1.slot
        have hG1 : H.length ≤ G1.length := by have := kp1.len; simp at this; omega
        simp [go_sem, t1, t2]
        refine k6own g1 hb hG1 (by simp) (by simp; omega) fun G2 hG2 _ => ?_
        rw [(check_app (q := q0) (by omega) (by omega) b1 b2).1 hq0m]
        simp [go_sem]
        refine k9 hne (by omega) (by omega) ?_
        simp [go_sem, aop, fillA, setCells, chunks, AV.noVec.noVecs, AV.noVec]
        refine Own.pair (k := H.length) (l := l) (p := ((13 : Int), (0 : Int))) (own_first hne (by omega)) (by simp; omega) hb (Nat.le_refl _) (by omega) fun v2 G3 tc2 g2 kp2 => ?_
        obtain ⟨u1, u2⟩ := g2.slot
        have hG3 : H.length ≤ G3.length := by have := kp2.len; simp at this; omega
        simp [go_sem, u1, u2]
        refine k6own g2 hb hG3 (by simp) (by simp; omega) fun G4 hG4 _ => ?_
        rw [(check_app (q := ((13 : Int), (0 : Int))) (by omega) (by omega) b1 b2).2 (by decide)]
        simp [go_sem, call7]
      · rw [if_neg h8]
        simp [go_sem, call7]
end Go.Proofs.YtihdlpeghlhnoaaDoor.Code
end

section
namespace Go.Proofs.YtihdlpeghlhnoaaDoor.Code
open Go Go.Ab Go.RowKit Go.ChangeShapes Go.WideShapes
variable {H : Type} {enc : TypeId × Value → H} {P : Program} {W W' : World} {base : Nat} {spare : Nat → Bool} {held : Bool}

theorem flat_vr {n : Nat} {t : TypeId} {v : Value} {d : DataW H} {ps : List MemPlace} {r : Reach} {b0 : Nat}
    (hu : (∃ fs, P.underlying t = some (.struct fs)) ∨ ∃ m e, P.underlying t = some (.array m e)) (hf : flatT P n t = true)
    (hval : Value.okWide P W r b0 t v) (hd : DataW.Trod enc P W 0 spare held t v d ps) : ∃ ys, VR (ctx0 W) (.agg ys) v ∧ Sh P n t ys := by
  have hv : ∃ cs, v = .agg cs := by
    unfold Value.okWide at hval
    rcases hu with ⟨fs, hu⟩ | ⟨m, e, hu⟩
    · rw [hu] at hval
      obtain ⟨cs, h, _⟩ := hval
      exact ⟨cs, h⟩
    · rw [hu] at hval
      obtain ⟨cs, h, _⟩ := hval
      exact ⟨cs, h⟩
  obtain ⟨cs, rfl⟩ := hv
  obtain ⟨fuel, hd⟩ := hd
  obtain ⟨ys, h1, h2⟩ := flat_cel (W := W) n t hf _ _ _ hd
  have hc : (Value.agg cs).cells.toList = cs.toList := rfl
  rw [hc] at h2
  exact ⟨ys, .agg ys cs (by rw [h2.len]; simp) h2.one fun i c u hi hu => h2.vr i c u hi (by simpa using hu), h1⟩

theorem sh_nat {n : Nat} {e : TypeId} {k : IntKind} {ys : List AV} (he : P.underlying e = some (.int k)) (hk : k.min = 0) (h : Sh P (n + 1) e ys) : ∃ a : Nat, ys = [.int k a] ∧ (a : Int) ≤ k.max := by
  unfold Sh at h
  rw [he] at h
  obtain ⟨z, rfl, hw⟩ := h
  simp only [Lit.wf, Bool.and_eq_true, decide_eq_true_eq, hk] at hw
  obtain ⟨a, rfl⟩ := Int.eq_ofNat_of_zero_le hw.1
  exact ⟨a, rfl, hw.2⟩

theorem sh_bytes {e : TypeId} {m o : Nat} {ys : List AV} {t : TypeId} (ht : P.underlying t = some (.array m e)) (he : P.underlying e = some (.int .u8)) (ce : P.cellsOf e = 1) (ct : P.cellsOf t = m)
    (hs : Sh P 2 t ((ys.drop o).take m)) : ∀ i, i < m → ∃ a : Nat, ys[o + i]? = some (.int .u8 (a : Nat)) ∧ a < 256 := by
  unfold Sh at hs
  rw [ht] at hs
  obtain ⟨hl, hs⟩ := hs
  intro i hi
  have := hs i hi
  rw [ce, Nat.mul_one] at this
  obtain ⟨a, ha, ha2⟩ := sh_nat he (by decide) this
  have m1 : IntKind.u8.max = 255 := by decide
  refine ⟨a, ?_, by omega⟩
  have h2 : ((((ys.drop o).take m).drop i).take 1)[0]? = some (.int .u8 (a : Nat)) := by rw [ha]; rfl
  rw [List.getElem?_take, if_pos (by decide), List.getElem?_drop, List.getElem?_take, if_pos (by omega), List.getElem?_drop] at h2
  rw [← h2]; rfl
/-- points by numbers: a byte, and eight pairs of bytes -/
theorem hide_vr {t a e : TypeId} {f0 f1 : Field} {v : Value} {d : DataW H} {ps : List MemPlace} {r : Reach} {b0 : Nat}
    (ht : P.underlying t = some (.struct #[f0, f1])) (o0 : f0.offset = 0) (o1 : f1.offset = 1) (c0 : P.cellsOf f0.type = 1) (c1 : P.cellsOf f1.type = 16) (ct : P.cellsOf t = 17)
    (h0 : P.underlying f0.type = some (.int .u8)) (h1 : P.underlying f1.type = some (.array 8 a)) (h2 : P.underlying a = some (.array 2 e)) (he : P.underlying e = some (.int .u8)) (ca : P.cellsOf a = 2) (ce : P.cellsOf e = 1)
    (hval : Value.okWide P W r b0 t v) (hd : DataW.Trod enc P W 0 spare held t v d ps) :
    ∃ (s : Nat) (f : Nat → Nat), s < 256 ∧ (∀ i, f i < 256) ∧ VR (ctx0 W) (hidA s f) v := by
  have hf : flatT P 4 t = true := by
    have ge1 : flatT P 1 e = true := by unfold flatT; rw [he]
    have ga : flatT P 2 a = true := by unfold flatT; rw [h2]; simp [ce, ca, ge1]
    have g0 : flatT P 3 f0.type = true := by unfold flatT; rw [h0]
    have g1 : flatT P 3 f1.type = true := by unfold flatT; rw [h1]; simp [ca, c1, ga]
    unfold flatT; rw [ht]
    simp [rowed, o0, o1, c0, c1, ct, g0, g1]
  obtain ⟨ys, hv, hs⟩ := flat_vr (.inl ⟨_, ht⟩) hf hval hd
  unfold Sh at hs
  rw [ht] at hs
  obtain ⟨hl, hs⟩ := hs
  rw [ct] at hl
  have s0 := hs f0 (by simp)
  have s1 := hs f1 (by simp)
  rw [o0, c0] at s0
  rw [o1, c1] at s1
  obtain ⟨a0, ha0, hb0⟩ := sh_nat h0 (by decide) s0
  have m1 : IntKind.u8.max = 255 := by decide
  unfold Sh at s1
  rw [h1] at s1
  obtain ⟨hl1, s1⟩ := s1
  have each : ∀ i, i < 16 → ∃ x : Nat, ys[i + 1]? = some (.int .u8 (x : Nat)) ∧ x < 256 := fun i hi => by
    have h3 := s1 (i / 2) (by omega)
    rw [ca] at h3
    have h4 : Sh P 2 a ((ys.drop (1 + i / 2 * 2)).take 2) := by
      have e3 : ((((ys.drop 1).take 16).drop (i / 2 * 2)).take 2) = (ys.drop (1 + i / 2 * 2)).take 2 := by
        rw [List.drop_take, List.take_take, List.drop_drop, Nat.min_eq_left (by omega)]
      rwa [e3] at h3
    obtain ⟨x, hx1, hx2⟩ := sh_bytes (t := a) h2 he ce ca h4 (i % 2) (by omega)
    exact ⟨x, by rw [← hx1]; congr 1; omega, hx2⟩
  obtain ⟨Y, hY⟩ := Go.Deep.choose_lt each
  refine ⟨a0, fun i => if i < 16 then Y i else 0, by omega, fun i => ?_, ?_⟩
  · simp only
    split
    · rename_i h; exact (hY i h).2
    · decide
  · have : ys = AV.int .u8 ((a0 : Nat) : Int) :: hb16 (fun i => if i < 16 then Y i else 0) := by
      apply List.ext_getElem?
      intro i
      cases i with
      | zero =>
        have h2 : ((ys.drop 0).take 1)[0]? = some (.int .u8 (a0 : Nat)) := by rw [ha0]; rfl
        rw [List.getElem?_take, if_pos (by decide), List.getElem?_drop] at h2
        exact h2
      | succ i =>
        rw [List.getElem?_cons_succ]
        by_cases hi : i < 16
        · rw [(hY i hi).1]; simp [hb16, hi]
        · rw [List.getElem?_eq_none (by omega), List.getElem?_eq_none (by simp [hb16]; omega)]
    unfold hidA
    rw [← this]; exact hv
/-- the law about points in any order, for every input -/
theorem simple_true {s : Nat} {f : Nat → Nat} {c : Nat} (hs : s < 256) (hf : ∀ i, f i < 256) (hc : c < 256) : ∃ n H', acall E n 3 [hidA s f, .int .u8 (c : Int)] [] = some (.bool true, H') := by
  obtain ⟨n, v, H', h1, h2⟩ := k3 (bar := 0) (base := 0) (H := []) hs hc hf (Nat.zero_le _)
  subst h2
  exact ⟨n, H', h1⟩
end Go.Proofs.YtihdlpeghlhnoaaDoor.Code
end

