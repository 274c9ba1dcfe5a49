/-
  Plain laws of the hull; contracts of functions: points, sides, the check of a piece, sorting, chains.
-/
import Derived.Test.YtihdlpeghlhnoaaGreatDoorCall
import Derived.Test.YtihdlpeghlhnoaaGreatDoorKit
set_option linter.all false
section
section
namespace Go.Proofs.Pt
abbrev ZZ := Int × Int

def turnL (a b c : ZZ) : Int := a.1 * (b.2 - c.2) + b.1 * (c.2 - a.2) + c.1 * (a.2 - b.2)
def subP (p q : ZZ) : ZZ := (p.1 - q.1, p.2 - q.2)
def tmP (p q : ZZ) : Int := p.1 * q.2 - p.2 * q.1
/-- a point is on a side: the program's way -/
def hasS (a b p : ZZ) : Bool := decide (tmP (subP a p) (subP b p) = 0) && decide ((subP a p).1 * (subP b p).1 + (subP a p).2 * (subP b p).2 ≤ 0)
/-- and the law's -/
def betw (p a b : ZZ) : Bool := decide (turnL p a b = 0) && decide ((p.1 - a.1) * (p.1 - b.1) ≤ 0) && decide ((p.2 - a.2) * (p.2 - b.2) ≤ 0)
theorem sq_nn (k : Int) : 0 ≤ k * k := by
  rcases Int.le_total 0 k with h | h
  · exact Int.mul_nonneg h h
  · exact Int.mul_nonneg_of_nonpos_of_nonpos h h
theorem prod_neg {x y : Int} (hx : 0 < x) (hy : y < 0) : x * y < 0 := Int.mul_neg_of_pos_of_neg hx hy
theorem two_nonpos {x y k : Int} (h : x * y = k * k) : x + y ≤ 0 ↔ x ≤ 0 ∧ y ≤ 0 := by
  constructor
  · intro hs
    have hk := sq_nn k
    constructor
    · apply Decidable.byContradiction; intro hx
      have := prod_neg (x := x) (y := y) (by omega) (by omega)
      omega
    · apply Decidable.byContradiction; intro hy
      have := prod_neg (x := y) (y := x) (by omega) (by omega)
      have := Int.mul_comm x y
      omega
  · rintro ⟨h1, h2⟩; omega
theorem has_betw {a b p : ZZ} : hasS a b p = betw p a b := by
  obtain ⟨ax, ay⟩ := a
  obtain ⟨bx, by_⟩ := b
  obtain ⟨px, py⟩ := p
  rw [Bool.eq_iff_iff]
  simp only [hasS, betw, Bool.and_eq_true, decide_eq_true_eq]
  simp only [subP, tmP, turnL]
  have e1 : (ax - px) * (by_ - py) - (ay - py) * (bx - px) = px * (ay - by_) + ax * (by_ - py) + bx * (py - ay) := by grind
  have e2 : (px - ax) * (px - bx) = (ax - px) * (bx - px) := by grind
  have e3 : (py - ay) * (py - by_) = (ay - py) * (by_ - py) := by grind
  rw [e1, e2, e3, and_assoc]
  refine and_congr_right fun h => ?_
  rw [← e1] at h
  have hk : ((ax - px) * (bx - px)) * ((ay - py) * (by_ - py)) = ((ax - px) * (by_ - py)) * ((ax - px) * (by_ - py)) := by grind
  exact two_nonpos hk
/-- two sides cross: the program's way -/
def crossS (a b c d : ZZ) : Bool := (decide (0 < turnL a b c) != decide (0 < turnL a b d)) && (decide (0 < turnL c d a) != decide (0 < turnL c d b))
def ends (a b c d : ZZ) : Bool := betw a c d || betw b c d || betw c a b || betw d a b
/-- the law's -/
def touchL (a b c d : ZZ) : Bool := ends a b c d || ((decide (0 < turnL a b c) != decide (0 < turnL a b d)) && !decide (turnL a b c = 0) && !decide (turnL a b d = 0) && (decide (0 < turnL c d a) != decide (0 < turnL c d b)) && !decide (turnL c d a = 0) && !decide (turnL c d b = 0))
theorem diff_le {P Q : Int} (h : (decide (0 < P) != decide (0 < Q)) = true) : P * Q ≤ 0 := by
  by_cases h1 : 0 < P
  · have h2 : ¬ 0 < Q := fun h2 => by simp [h1, h2] at h
    exact Int.mul_nonpos_of_nonneg_of_nonpos (by omega) (by omega)
  · by_cases h2 : 0 < Q
    · rw [Int.mul_comm]; exact Int.mul_nonpos_of_nonneg_of_nonpos (by omega) (by omega)
    · simp [h1, h2] at h
theorem cancel_sq {X K V : Int} (hK : K ≠ 0) (h : X * (K * K) = V) (hV : V ≤ 0) : X ≤ 0 := by
  apply Decidable.byContradiction
  intro hx
  have hk : 0 < K * K := by
    have := sq_nn K
    have : K * K ≠ 0 := fun e => hK (by rcases Int.mul_eq_zero.1 e with h | h <;> exact h)
    omega
  have := Int.mul_pos (show 0 < X by omega) hk
  omega
/-- an end that is on the line of the other side, where sides cross, is on the other side -/
theorem cross_on {a b c d : ZZ} (h0 : turnL a b c = 0) (h1 : turnL a b d ≠ 0) (hp : turnL c d a * turnL c d b ≤ 0) : betw c a b = true := by
  obtain ⟨ax, ay⟩ := a
  obtain ⟨bx, by_⟩ := b
  obtain ⟨cx, cy⟩ := c
  obtain ⟨dx, dy⟩ := d
  simp only [turnL] at h0 h1 hp
  simp only [betw, Bool.and_eq_true, decide_eq_true_eq]
  simp only [turnL]
  have x1 : (cx - ax) * (ax * (by_ - dy) + bx * (dy - ay) + dx * (ay - by_)) = (cx * (dy - ay) + dx * (ay - cy) + ax * (cy - dy)) * (bx - ax) := by grind
  have x2 : (cx - bx) * (ax * (by_ - dy) + bx * (dy - ay) + dx * (ay - by_)) = (cx * (dy - by_) + dx * (by_ - cy) + bx * (cy - dy)) * (bx - ax) := by grind
  have y1 : (cy - ay) * (ax * (by_ - dy) + bx * (dy - ay) + dx * (ay - by_)) = (cx * (dy - ay) + dx * (ay - cy) + ax * (cy - dy)) * (by_ - ay) := by grind
  have y2 : (cy - by_) * (ax * (by_ - dy) + bx * (dy - ay) + dx * (ay - by_)) = (cx * (dy - by_) + dx * (by_ - cy) + bx * (cy - dy)) * (by_ - ay) := by grind
  generalize ax * (by_ - dy) + bx * (dy - ay) + dx * (ay - by_) = K at *
  generalize cx * (dy - ay) + dx * (ay - cy) + ax * (cy - dy) = P at *
  generalize cx * (dy - by_) + dx * (by_ - cy) + bx * (cy - dy) = Q at *
  refine ⟨⟨by grind, ?_⟩, ?_⟩
  · refine cancel_sq h1 (V := P * Q * ((bx - ax) * (bx - ax))) ?_ ?_
    · have : (cx - ax) * (cx - bx) * (K * K) = ((cx - ax) * K) * ((cx - bx) * K) := by grind
      rw [this, x1, x2]; grind
    · exact Int.mul_nonpos_of_nonpos_of_nonneg hp (sq_nn _)
  · refine cancel_sq h1 (V := P * Q * ((by_ - ay) * (by_ - ay))) ?_ ?_
    · have : (cy - ay) * (cy - by_) * (K * K) = ((cy - ay) * K) * ((cy - by_) * K) := by grind
      rw [this, y1, y2]; grind
    · exact Int.mul_nonpos_of_nonpos_of_nonneg hp (sq_nn _)
theorem bne_comm' {a b : Bool} : (a != b) = (b != a) := by cases a <;> cases b <;> rfl
/-- both ways say the same -/
theorem meet_touch {a b c d : ZZ} : (ends a b c d || crossS a b c d) = touchL a b c d := by
  unfold touchL
  cases he : ends a b c d with
  | true => rfl
  | false =>
    simp only [Bool.false_or]
    unfold ends at he
    simp only [Bool.or_eq_false_iff] at he
    obtain ⟨⟨⟨n1, n2⟩, n3⟩, n4⟩ := he
    cases hc : crossS a b c d with
    | false =>
      unfold crossS at hc
      rw [Bool.and_eq_false_iff] at hc
      rcases hc with h | h
      · rw [h]; simp
      · rw [h]; simp
    | true =>
      unfold crossS at hc
      rw [Bool.and_eq_true] at hc
      obtain ⟨c1, c2⟩ := hc
      have swapT : ∀ {a b c : ZZ}, turnL b a c = -turnL a b c := fun {a b c} => by simp only [turnL]; grind
      have sgn0 : ∀ {P Q : Int}, (decide (0 < P) != decide (0 < Q)) = true → P = 0 → Q ≠ 0 := fun h h1 h2 => by subst h1 h2; simp at h
      have p1 := diff_le c1
      have p2 := diff_le c2
      have c1' : (decide (0 < turnL a b d) != decide (0 < turnL a b c)) = true := by rw [bne_comm']; exact c1
      have c2' : (decide (0 < turnL c d b) != decide (0 < turnL c d a)) = true := by rw [bne_comm']; exact c2
      have z1 : turnL a b c ≠ 0 := fun h0 => by
        rw [cross_on h0 (sgn0 c1 h0) p2] at n3; cases n3
      have z2 : turnL a b d ≠ 0 := fun h0 => by
        rw [cross_on h0 (sgn0 c1' h0) (by rw [swapT (a := c) (b := d) (c := a), swapT (a := c) (b := d) (c := b)]; grind)] at n4; cases n4
      have z3 : turnL c d a ≠ 0 := fun h0 => by
        rw [cross_on h0 (sgn0 c2 h0) p1] at n1; cases n1
      have z4 : turnL c d b ≠ 0 := fun h0 => by
        rw [cross_on h0 (sgn0 c2' h0) (by rw [swapT (a := a) (b := b) (c := c), swapT (a := a) (b := b) (c := d)]; grind)] at n2; cases n2
      rw [c1, c2]
      simp [z1, z2, z3, z4]
end Go.Proofs.Pt
end

section
namespace Go.Proofs.Pt

/-- the point with a number that goes around -/
def atP (L : List ZZ) (i : Nat) : ZZ := L.getD (i % L.length) (0, 0)
/-- the program: two sides one after the other that come back, at the corner i -/
def backC (L : List ZZ) (i : Nat) : Bool :=
  hasS (atP L (i + L.length - 1)) (atP L i) (atP L (i + 1)) || hasS (atP L i) (atP L (i + 1)) (atP L (i + L.length - 1))
/-- two sides that are not next to each other -/
def farC (L : List ZZ) (i k : Nat) : Bool := ends (atP L i) (atP L (i + 1)) (atP L k) (atP L (k + 1)) || crossS (atP L i) (atP L (i + 1)) (atP L k) (atP L (k + 1))
def badC (L : List ZZ) : Bool := (List.range L.length).any fun i => backC L i || (List.range (i - 1)).any fun k => decide (i - k < L.length - 1) && farC L i k
theorem atP_mod {L : List ZZ} {i : Nat} : atP L (i % L.length) = atP L i := by unfold atP; rw [Nat.mod_mod]
end Go.Proofs.Pt
end

section
namespace Go.Proofs.Pt

def leftP (a b c : ZZ) : Int := (b.1 - a.1) * (c.2 - a.2) - (b.2 - a.2) * (c.1 - a.1)
/-- the program: points that do not turn to the left are taken off -/
def popS : List ZZ → ZZ → List ZZ
  | b :: a :: r, p => if tmP (subP b a) (subP p b) ≤ 0 then popS (a :: r) p else b :: a :: r
  | l, _ => l
def chainG (st l : List ZZ) : List ZZ := l.foldl (fun st p => p :: popS st p) st
def chainF (l : List ZZ) : List ZZ := (chainG [] l).reverse
theorem tm_left {a b p : ZZ} : tmP (subP b a) (subP p b) = leftP a b p := by
  simp only [tmP, subP, leftP]; grind
/-- a way of sorting points -/
def kap (k : ZZ) (p : ZZ) : Int := k.1 * p.1 + k.2 * p.2
/-- a point is to the left of a side, or on it -/
def good (k : ZZ) (a b q : ZZ) : Prop := 0 < leftP a b q ∨ (leftP a b q = 0 ∧ kap k a ≤ kap k q ∧ kap k q ≤ kap k b)
theorem good.le {k a b q : ZZ} (h : good k a b q) : 0 ≤ leftP a b q := by rcases h with h | h <;> omega
theorem mul_nn {a b : Int} (h1 : 0 ≤ a) (h2 : 0 ≤ b) : 0 ≤ a * b := Int.mul_nonneg h1 h2
theorem pos_of {x c : Int} (hc : 0 < c) (h : 0 < x * c) : 0 < x := by
  apply Decidable.byContradiction; intro hx
  have := Int.mul_nonpos_of_nonpos_of_nonneg (show x ≤ 0 by omega) (show 0 ≤ c by omega)
  omega
theorem nn_of {x c : Int} (hc : 0 < c) (h : 0 ≤ x * c) : 0 ≤ x := by
  apply Decidable.byContradiction; intro hx
  have := Int.mul_neg_of_neg_of_pos (show x < 0 by omega) hc
  omega
/-- a point beyond the last side: taken off -/
theorem off_far {k a b p q : ZZ} (hb : kap k b < kap k p) (hq : kap k q < kap k p) (ha : kap k a < kap k p) (h1 : 0 ≤ leftP b p q) (h2 : leftP a b p ≤ 0) : 0 ≤ leftP a p q := by
  refine nn_of (c := kap k p - kap k b) (by omega) ?_
  have e : leftP a p q * (kap k p - kap k b) = leftP b p q * (kap k p - kap k a) + (- leftP a b p) * (kap k p - kap k q) := by
    simp only [leftP, kap]; grind
  rw [e]
  have := mul_nn h1 (show 0 ≤ kap k p - kap k a by omega)
  have := mul_nn (show 0 ≤ - leftP a b p by omega) (show 0 ≤ kap k p - kap k q by omega)
  omega
theorem off_near {k a b p q : ZZ} (hb : kap k a < kap k b) (hq : kap k a ≤ kap k q) (hp : kap k a < kap k p) (h1 : 0 ≤ leftP a b q) (h2 : leftP a b p ≤ 0) : 0 ≤ leftP a p q := by
  refine nn_of (c := kap k b - kap k a) (by omega) ?_
  have e : leftP a p q * (kap k b - kap k a) = leftP a b q * (kap k p - kap k a) + (- leftP a b p) * (kap k q - kap k a) := by
    simp only [leftP, kap]; grind
  rw [e]
  have := mul_nn h1 (show 0 ≤ kap k p - kap k a by omega)
  have := mul_nn (show 0 ≤ - leftP a b p by omega) (show 0 ≤ kap k q - kap k a by omega)
  omega
theorem on_before {k a b p q : ZZ} (hb : kap k a < kap k b) (hq : kap k q < kap k b) (hp : kap k b < kap k p) (h1 : 0 ≤ leftP a b q) (h2 : 0 < leftP a b p) : 0 < leftP b p q := by
  refine pos_of (c := kap k b - kap k a) (by omega) ?_
  have e : leftP b p q * (kap k b - kap k a) = leftP a b q * (kap k p - kap k b) + leftP a b p * (kap k b - kap k q) := by
    simp only [leftP, kap]; grind
  rw [e]
  have := mul_nn h1 (show 0 ≤ kap k p - kap k b by omega)
  have := Int.mul_pos h2 (show 0 < kap k b - kap k q by omega)
  omega
theorem on_low {k c a b p : ZZ} (hc : kap k c < kap k a) (hb : kap k a < kap k b) (hp : kap k b < kap k p) (h1 : 0 < leftP c a b) (h2 : 0 < leftP a b p) : 0 < leftP c a p := by
  refine pos_of (c := kap k b - kap k a) (by omega) ?_
  have e : leftP c a p * (kap k b - kap k a) = leftP c a b * (kap k p - kap k a) + leftP a b p * (kap k a - kap k c) := by
    simp only [leftP, kap]; grind
  rw [e]
  have := Int.mul_pos h1 (show 0 < kap k p - kap k a by omega)
  have := Int.mul_pos h2 (show 0 < kap k a - kap k c by omega)
  omega
/-- the sides of a chain, the last one first -/
def Chn (k : ZZ) (done : List ZZ) : List ZZ → Prop
  | b :: a :: r => kap k a < kap k b ∧ (∀ q ∈ done, good k a b q) ∧ Chn k done (a :: r)
  | [b] => b ∈ done ∧ ∀ q ∈ done, kap k b ≤ kap k q
  | [] => False
theorem Chn.tail {k : ZZ} {done : List ZZ} {b a : ZZ} {r : List ZZ} (h : Chn k done (b :: a :: r)) : Chn k done (a :: r) := h.2.2
/-- a greater point, taken in -/
theorem Chn.more {k : ZZ} {done : List ZZ} {p : ZZ} : ∀ {r : List ZZ} {b a : ZZ}, (∀ x ∈ b :: a :: r, x ∈ done) → kap k b < kap k p → 0 < leftP a b p → Chn k done (b :: a :: r) → Chn k (done ++ [p]) (b :: a :: r) := by
  intro r
  induction r with
  | nil =>
    intro b a hm hp hl h
    obtain ⟨h1, h2, h3, h4⟩ := h
    refine ⟨h1, fun q hq => ?_, by simp [h3], fun q hq => ?_⟩
    · rcases List.mem_append.1 hq with hq | hq
      · exact h2 q hq
      · obtain rfl := List.mem_singleton.1 hq; exact .inl hl
    · rcases List.mem_append.1 hq with hq | hq
      · exact h4 q hq
      · obtain rfl := List.mem_singleton.1 hq; omega
  | cons c r ih =>
    intro b a hm hp hl h
    obtain ⟨h1, h2, h3⟩ := h
    refine ⟨h1, fun q hq => ?_, ?_⟩
    · rcases List.mem_append.1 hq with hq | hq
      · exact h2 q hq
      · obtain rfl := List.mem_singleton.1 hq; exact .inl hl
    · refine ih (fun x hx => hm x (by simp at hx ⊢; simp [hx])) (by omega) ?_ h3
      have hb : good k c a b := h3.2.1 b (hm b (by simp))
      have hb' : 0 < leftP c a b := by rcases hb with hb | ⟨_, _, hb⟩ <;> omega
      exact on_low h3.1 h1 hp hb' hl
theorem pop_chn {k : ZZ} {done : List ZZ} {p : ZZ} (hlt : ∀ q ∈ done, kap k q < kap k p) : ∀ {r : List ZZ} {t : ZZ}, (∀ x ∈ t :: r, x ∈ done) → Chn k done (t :: r) →
    (∀ q ∈ done, kap k t ≤ kap k q → 0 ≤ leftP t p q) → Chn k (done ++ [p]) (p :: popS (t :: r) p) ∧ (∀ x ∈ popS (t :: r) p, x ∈ done) ∧ popS (t :: r) p ≠ [] ∧ (popS (t :: r) p).getLast? = (t :: r).getLast? := by
  intro r
  induction r with
  | nil =>
    intro t hm h hP
    simp only [popS]
    refine ⟨⟨hlt t (hm t (by simp)), fun q hq => ?_, by simp [h.1], fun q hq => ?_⟩, hm, by simp, trivial⟩
    · rcases List.mem_append.1 hq with hq | hq
      · have := h.2 q hq
        have h2 := hP q hq this
        have := hlt q hq
        by_cases e : leftP t p q = 0
        · exact .inr ⟨e, by omega, by omega⟩
        · exact .inl (by omega)
      · obtain rfl := List.mem_singleton.1 hq
        refine .inr ⟨by simp only [leftP]; grind, ?_, by omega⟩
        have := hlt t (hm t (by simp)); omega
    · rcases List.mem_append.1 hq with hq | hq
      · exact h.2 q hq
      · obtain rfl := List.mem_singleton.1 hq
        have := hlt t (hm t (by simp)); omega
  | cons a r ih =>
    intro b hm h hP
    obtain ⟨h1, h2, h3⟩ := h
    have hbp := hlt b (hm b (by simp))
    simp only [popS]
    split
    · rename_i hc
      rw [tm_left] at hc
      have := ih (t := a) (fun x hx => hm x (by simp at hx ⊢; simp [hx])) h3 ?_
      · simpa using this
      intro q hq hk
      by_cases hqb : kap k b ≤ kap k q
      · exact off_far hbp (hlt q hq) (by omega) (hP q hq hqb) hc
      · exact off_near h1 hk (by omega) (h2 q hq).le hc
    · rename_i hc
      rw [tm_left] at hc
      refine ⟨⟨hbp, fun q hq => ?_, ?_⟩, hm, by simp, rfl⟩
      · rcases List.mem_append.1 hq with hq | hq
        · by_cases hqb : kap k b ≤ kap k q
          · have h2 := hP q hq hqb
            have := hlt q hq
            by_cases e : leftP b p q = 0
            · exact .inr ⟨e, by omega, by omega⟩
            · exact .inl (by omega)
          · exact .inl (on_before h1 (by omega) hbp (h2 q hq).le (by omega))
        · obtain rfl := List.mem_singleton.1 hq
          exact .inr ⟨by simp only [leftP]; grind, by omega, by omega⟩
      · exact Chn.more hm hbp (by omega) ⟨h1, h2, h3⟩
/-- points in the order of their keys -/
def Asc (k : ZZ) (l : List ZZ) : Prop := l.Pairwise fun p q => kap k p < kap k q
theorem chainG_chn {k : ZZ} : ∀ (l done st : List ZZ), Asc k (done ++ l) → st ≠ [] → (∀ x ∈ st, x ∈ done) → Chn k done st → st.head? = done.getLast? → st.getLast? = done.head? →
    Chn k (done ++ l) (chainG st l) ∧ (∀ x ∈ chainG st l, x ∈ done ++ l) ∧ (chainG st l).head? = (done ++ l).getLast? ∧ (chainG st l).getLast? = (done ++ l).head? ∧ chainG st l ≠ [] := by
  intro l
  induction l with
  | nil => intro done st _ hne hm hc h1 h2; simp only [List.append_nil]; exact ⟨hc, hm, h1, h2, hne⟩
  | cons p l ih =>
    intro done st ha hne hm hc h1 h2
    cases st with
    | nil => exact absurd rfl hne
    | cons t r =>
      have ha' := ha
      unfold Asc at ha'
      rw [List.pairwise_append] at ha'
      have hlt : ∀ q ∈ done, kap k q < kap k p := fun q hq => ha'.2.2 q hq p (by simp)
      have hP : ∀ q ∈ done, kap k t ≤ kap k q → 0 ≤ leftP t p q := by
        intro q hq hk
        have ht : done.getLast? = some t := h1.symm
        obtain ⟨ys, hys⟩ := List.getLast?_eq_some_iff.1 ht
        subst hys
        rcases List.mem_append.1 hq with hq | hq
        · have := (List.pairwise_append.1 ha'.1).2.2 q hq t (by simp)
          omega
        · obtain rfl := List.mem_singleton.1 hq
          simp only [leftP]; grind
      obtain ⟨c1, c2, c3, c4⟩ := pop_chn hlt hm hc hP
      have := ih (done ++ [p]) (p :: popS (t :: r) p) (by simpa using ha) (by simp) (by
        intro x hx
        rcases List.mem_cons.1 hx with rfl | hx
        · simp
        · simp [c2 x hx]) c1 (by simp) (by
        cases hq : popS (t :: r) p with
        | nil => exact absurd hq c3
        | cons y ys =>
          rw [List.getLast?_cons_cons, ← hq, c4, h2]
          cases done with
          | nil => simp at h1
          | cons d ds => simp)
      simpa [chainG] using this
theorem chainF_chn {k p : ZZ} {l : List ZZ} (ha : Asc k (p :: l)) : Chn k (p :: l) (chainG [] (p :: l)) ∧ (∀ x ∈ chainG [] (p :: l), x ∈ p :: l) ∧ (chainG [] (p :: l)).head? = (p :: l).getLast? ∧ (chainG [] (p :: l)).getLast? = some p ∧ chainG [] (p :: l) ≠ [] := by
  have := chainG_chn (k := k) l [p] [p] (by simpa using ha) (by simp) (by simp) ⟨by simp, by simp⟩ rfl rfl
  simpa [chainG, popS] using this
end Go.Proofs.Pt
end

section
namespace Go.Proofs.Pt

def inI (n lo hi : Int) : Bool := decide (lo ≤ n) && decide (n ≤ hi)
def onP (p a b : ZZ) : Bool := decide (leftP a b p = 0) && inI p.1 (min a.1 b.1) (max a.1 b.1) && inI p.2 (min a.2 b.2) (max a.2 b.2)
/-- the next corner: one look -/
def lookF (now next q : ZZ) : ZZ := if q = now then next else if next = now ∨ leftP now next q < 0 ∨ (leftP now next q = 0 ∧ onP next now q = true) then q else next
def nextF (l : List ZZ) (now : ZZ) : ZZ := l.foldl (lookF now) now
theorem onP_iff {p a b : ZZ} : onP p a b = true ↔ leftP a b p = 0 ∧ (min a.1 b.1 ≤ p.1 ∧ p.1 ≤ max a.1 b.1) ∧ min a.2 b.2 ≤ p.2 ∧ p.2 ≤ max a.2 b.2 := by
  simp only [onP, inI, Bool.and_eq_true, decide_eq_true_eq, and_assoc]
theorem leftP_swap {a b q : ZZ} : leftP a q b = - leftP a b q := by simp only [leftP]; grind
theorem leftP_self {a b : ZZ} : leftP a b b = 0 := by simp only [leftP]; grind
theorem onP_anti {a m q : ZZ} (h1 : onP q a m = true) (h2 : onP m a q = true) : q = m := by
  rw [onP_iff] at h1 h2
  obtain ⟨a1, a2⟩ := a; obtain ⟨m1, m2⟩ := m; obtain ⟨q1, q2⟩ := q
  simp only at h1 h2
  rw [Prod.mk.injEq]; omega
/-- a corner with no point to the right -/
def Dom (l : List ZZ) (a m : ZZ) : Prop := m ∈ l ∧ m ≠ a ∧ ∀ q ∈ l, q ≠ a → 0 < leftP a m q ∨ (leftP a m q = 0 ∧ onP q a m = true)
theorem look_stay {l : List ZZ} {a m q : ZZ} (h : Dom l a m) (hq : q ∈ l) : lookF a m q = m := by
  unfold lookF
  split
  · rfl
  · rename_i hqa
    split
    · rename_i hc
      rcases hc with hc | hc | ⟨hc, ho⟩
      · exact absurd hc h.2.1
      · rcases h.2.2 q hq hqa with h | ⟨h, _⟩ <;> omega
      · rcases h.2.2 q hq hqa with h | ⟨_, h⟩
        · omega
        · exact onP_anti h ho
    · rfl
theorem look_take {l : List ZZ} {a m n : ZZ} (h : Dom l a m) (hn : n = a ∨ n ∈ l) : lookF a n m = m := by
  unfold lookF
  rw [if_neg h.2.1]
  split
  · rfl
  · rename_i hc
    by_cases hna : n = a
    · exact absurd (.inl hna) hc
    · have hm : n ∈ l := hn.resolve_left hna
      rcases h.2.2 n hm hna with h | ⟨h, ho⟩
      · refine absurd (.inr (.inl ?_)) hc
        rw [leftP_swap]; omega
      · refine absurd (.inr (.inr ⟨?_, ho⟩)) hc
        rw [leftP_swap]; omega
theorem look_mem {l : List ZZ} {a n q : ZZ} (hn : n = a ∨ n ∈ l) (hq : q ∈ l) : lookF a n q = a ∨ lookF a n q ∈ l := by
  unfold lookF
  split
  · exact hn
  · split
    · exact .inr hq
    · exact hn
theorem foldl_stay {l : List ZZ} {a m : ZZ} (h : Dom l a m) : ∀ r : List ZZ, (∀ q ∈ r, q ∈ l) → r.foldl (lookF a) m = m
  | [], _ => rfl
  | q :: r, hr => by rw [List.foldl_cons, look_stay h (hr q (by simp))]; exact foldl_stay h r fun x hx => hr x (by simp [hx])
theorem foldl_take {l : List ZZ} {a m : ZZ} (h : Dom l a m) : ∀ (r : List ZZ) (n : ZZ), (∀ q ∈ r, q ∈ l) → (n = a ∨ n ∈ l) → m ∈ r → r.foldl (lookF a) n = m
  | [], _, _, _, hm => by cases hm
  | q :: r, n, hr, hn, hm => by
    rw [List.foldl_cons]
    rcases List.mem_cons.1 hm with rfl | hm
    · rw [look_take h hn]; exact foldl_stay h r fun x hx => hr x (by simp [hx])
    · exact foldl_take h r _ (fun x hx => hr x (by simp [hx])) (look_mem hn (hr q (by simp))) hm
theorem nextF_dom {l : List ZZ} {a m : ZZ} (h : Dom l a m) : nextF l a = m := foldl_take h l a (fun _ h => h) (.inl rfl) h.1

/-- from the keys to the coordinates -/
theorem btw_of {v y K Y : Int} (e : y * K = v * Y) (hK : 0 < K) (h0 : 0 ≤ Y) (h1 : Y ≤ K) : min 0 v ≤ y ∧ y ≤ max 0 v := by
  rcases Int.le_total 0 v with hv | hv
  · have a1 : 0 ≤ y := nn_of hK (by rw [e]; exact mul_nn hv h0)
    have a2 : 0 ≤ v - y := nn_of hK (by
      have e2 : (v - y) * K = v * (K - Y) := by grind
      rw [e2]; exact mul_nn hv (by omega))
    omega
  · have a1 : 0 ≤ - y := nn_of hK (by
      have e2 : (- y) * K = (- v) * Y := by grind
      rw [e2]; exact mul_nn (by omega) h0)
    have a2 : 0 ≤ y - v := nn_of hK (by
      have e2 : (y - v) * K = (- v) * (K - Y) := by grind
      rw [e2]; exact mul_nn (by omega) (by omega))
    omega
theorem onP_of {k a b q : ZZ} (hl : leftP a b q = 0) (hab : kap k a < kap k b) (h1 : kap k a ≤ kap k q) (h2 : kap k q ≤ kap k b) : onP q a b = true := by
  rw [onP_iff]
  have e1 : (q.1 - a.1) * (kap k b - kap k a) = (b.1 - a.1) * (kap k q - kap k a) := by
    simp only [leftP] at hl; simp only [kap]; grind
  have e2 : (q.2 - a.2) * (kap k b - kap k a) = (b.2 - a.2) * (kap k q - kap k a) := by
    simp only [leftP] at hl; simp only [kap]; grind
  have b1 := btw_of e1 (by omega) (by omega) (by omega)
  have b2 := btw_of e2 (by omega) (by omega) (by omega)
  exact ⟨hl, by omega, by omega⟩
/-- a step of a chain -/
def Lnk (k : ZZ) (l : List ZZ) (a b : ZZ) : Prop := b ∈ l ∧ kap k a < kap k b ∧ ∀ q ∈ l, good k a b q
theorem Lnk.dom {k a b : ZZ} {l : List ZZ} (h : Lnk k l a b) : Dom l a b := by
  refine ⟨h.1, fun e => ?_, fun q hq hqa => ?_⟩
  · have := h.2.1; rw [e] at this; omega
  · rcases h.2.2 q hq with g | ⟨g, g1, g2⟩
    · exact .inl g
    · exact .inr ⟨g, onP_of g h.2.1 g1 g2⟩
/-- each to the next -/
def Steps (R : ZZ → ZZ → Prop) (l : List ZZ) : Prop := ∀ i, i + 1 < l.length → R (l.getD i (0, 0)) (l.getD (i + 1) (0, 0))
theorem Chn.steps {k : ZZ} {done : List ZZ} : ∀ {st : List ZZ}, (∀ x ∈ st, x ∈ done) → Chn k done st → Steps (fun b a => Lnk k done a b) st
  | [], _, h => h.elim
  | [b], _, _ => fun i hi => by simp at hi
  | b :: a :: r, hm, h => fun i hi => by
    cases i with
    | zero => exact ⟨hm b (by simp), h.1, h.2.1⟩
    | succ i => exact Chn.steps (fun x hx => hm x (by simp at hx ⊢; simp [hx])) h.2.2 i (by simpa using hi)
theorem Steps.rev {R : ZZ → ZZ → Prop} {l : List ZZ} (h : Steps R l) : Steps (fun a b => R b a) l.reverse := fun i hi => by
  simp only [List.length_reverse] at hi
  simp only [List.getD_eq_getElem?_getD]
  rw [List.getElem?_reverse (by omega), List.getElem?_reverse (by omega)]
  have := h (l.length - 1 - (i + 1)) (by omega)
  simp only [List.getD_eq_getElem?_getD] at this
  rw [show l.length - 1 - (i + 1) + 1 = l.length - 1 - i by omega] at this
  exact this
/-- a chain of points by their keys -/
theorem chain_all {k p : ZZ} {l : List ZZ} (ha : Asc k (p :: l)) : Steps (Lnk k (p :: l)) (chainF (p :: l)) ∧ (chainF (p :: l)).head? = some p ∧ (chainF (p :: l)).getLast? = (p :: l).getLast? ∧ ∀ x ∈ chainF (p :: l), x ∈ p :: l := by
  obtain ⟨h1, h2, h3, h4, h5⟩ := chainF_chn ha
  unfold chainF
  exact ⟨(h1.steps h2).rev, by rw [List.head?_reverse, h4], by rw [List.getLast?_reverse, h3], fun x hx => h2 x (by simpa using hx)⟩
/-- from the end of one to the beginning of the other -/
theorem Steps.join {R : ZZ → ZZ → Prop} {u v : List ZZ} {m : ZZ} (hu : Steps R u) (hv : Steps R v) (h1 : u.getLast? = some m) (h2 : v.head? = some m) : Steps R (u.dropLast ++ v) := by
  obtain ⟨us, rfl⟩ := List.getLast?_eq_some_iff.1 h1
  cases v with
  | nil => cases h2
  | cons y v =>
    obtain rfl : y = m := by simpa using h2
    intro i hi
    simp only [List.dropLast_concat, List.length_append, List.length_cons] at hi
    simp only [List.dropLast_concat, List.getD_eq_getElem?_getD]
    by_cases h : i + 1 < us.length
    · rw [List.getElem?_append_left (by omega), List.getElem?_append_left h]
      have := hu i (by simp; omega)
      simp only [List.getD_eq_getElem?_getD] at this
      rwa [List.getElem?_append_left (by omega), List.getElem?_append_left h] at this
    · by_cases h' : i + 1 = us.length
      · have := hu i (by simp; omega)
        simp only [List.getD_eq_getElem?_getD] at this
        rw [List.getElem?_append_left (by omega), List.getElem?_append_right (by omega), h', Nat.sub_self] at this
        rw [List.getElem?_append_left (by omega), List.getElem?_append_right (by omega), h', Nat.sub_self]
        exact this
      · have := hv (i - us.length) (by simp; omega)
        simp only [List.getD_eq_getElem?_getD] at this
        rw [List.getElem?_append_right (by omega), List.getElem?_append_right (by omega)]
        rw [show i + 1 - us.length = i - us.length + 1 by omega]
        exact this
def hullF (S : List ZZ) : List ZZ := (chainF S).dropLast ++ (chainF S.reverse).dropLast
def negk (k : ZZ) : ZZ := (-k.1, -k.2)
theorem kap_neg {k p : ZZ} : kap (negk k) p = - kap k p := by simp only [kap, negk]; grind
theorem Asc.rev {k : ZZ} {l : List ZZ} (h : Asc k l) : Asc (negk k) l.reverse := by
  unfold Asc at h ⊢
  rw [List.pairwise_reverse]
  exact h.imp fun h => by rw [kap_neg, kap_neg]; omega
end Go.Proofs.Pt
end

section
namespace Go.Proofs.Pt

theorem Steps.imp {R T : ZZ → ZZ → Prop} {l : List ZZ} (h : Steps R l) (hi : ∀ a b, R a b → T a b) : Steps T l := fun i h' => hi _ _ (h i h')
theorem Dom.perm {l l' : List ZZ} (hp : ∀ x, x ∈ l ↔ x ∈ l') {a m : ZZ} (h : Dom l a m) : Dom l' a m :=
  ⟨(hp _).1 h.1, h.2.1, fun q hq => h.2.2 q ((hp _).2 hq)⟩
theorem dropLast_last {l : List ZZ} {m : ZZ} (h : l.getLast? = some m) : l.dropLast ++ [m] = l := by
  obtain ⟨ys, rfl⟩ := List.getLast?_eq_some_iff.1 h
  simp
/-- the way round -/
theorem hull_round {k p : ZZ} {l : List ZZ} (ha : Asc k (p :: l)) : Steps (Dom (p :: l)) (hullF (p :: l) ++ [p]) := by
  obtain ⟨m, hm⟩ : ∃ m, (p :: l).getLast? = some m := by
    cases h : (p :: l).getLast? with
    | none => simp at h
    | some m => exact ⟨m, rfl⟩
  obtain ⟨b1, b2, b3, b4⟩ := chain_all ha
  obtain ⟨ys, hys⟩ := List.getLast?_eq_some_iff.1 hm
  have hr : (p :: l).reverse = m :: ys.reverse := by rw [hys]; simp
  have ha2 := ha.rev
  rw [hr] at ha2
  obtain ⟨c1, c2, c3, c4⟩ := chain_all ha2
  have c3' : (chainF (p :: l).reverse).getLast? = some p := by
    rw [hr, c3, ← hr]; simp
  have e : hullF (p :: l) ++ [p] = (chainF (p :: l)).dropLast ++ chainF (p :: l).reverse := by
    unfold hullF
    rw [List.append_assoc, dropLast_last c3']
  rw [e]
  refine (b1.imp fun a b h => h.dom).join (m := m) ?_ (by rw [b3, hm]) (by rw [hr, c2])
  rw [hr]
  refine c1.imp fun a b h => h.dom.perm fun x => ?_
  rw [← hr, List.mem_reverse]
theorem kap_le {k p : ZZ} {l : List ZZ} (ha : Asc k (p :: l)) : ∀ q ∈ p :: l, q = p ∨ kap k p < kap k q := fun q hq => by
  rcases List.mem_cons.1 hq with h | h
  · exact .inl h
  · exact .inr ((List.pairwise_cons.1 ha).1 q h)
theorem dropLast_getD {l : List ZZ} {i : Nat} (h : i < l.length - 1) : l.dropLast.getD i (0, 0) = l.getD i (0, 0) := by
  simp only [List.getD_eq_getElem?_getD]
  rw [List.getElem?_dropLast]
  simp [h]
theorem getLast_getD {l : List ZZ} {m : ZZ} (h : l.getLast? = some m) : l.getD (l.length - 1) (0, 0) = m := by
  rw [List.getD_eq_getElem?_getD, ← List.getLast?_eq_getElem?, h]; rfl
theorem head_getD {l : List ZZ} {m : ZZ} (h : l.head? = some m) : l.getD 0 (0, 0) = m := by
  rw [List.getD_eq_getElem?_getD, ← List.head?_eq_getElem?, h]; rfl
theorem getD_mem {l : List ZZ} {i : Nat} (h : i < l.length) : l.getD i (0, 0) ∈ l := by
  rw [List.getD_eq_getElem?_getD, List.getElem?_eq_getElem h]; exact List.getElem_mem h
/-- a chain's keys rise -/
theorem Steps.rise {k : ZZ} {S l : List ZZ} (h : Steps (Lnk k S) l) : ∀ d i, i + d + 1 < l.length → kap k (l.getD i (0, 0)) < kap k (l.getD (i + d + 1) (0, 0))
  | 0, i, hi => (h i hi).2.1
  | d + 1, i, hi => by
    have h1 := Steps.rise h d i (by omega)
    have h2 := (h (i + d + 1) (by omega)).2.1
    rw [show i + (d + 1) + 1 = i + d + 1 + 1 by omega]; omega
/-- no corner but the first is the smallest point -/
theorem hull_first {k p : ZZ} {l : List ZZ} (ha : Asc k (p :: l)) (hl : l ≠ []) : (hullF (p :: l)).head? = some p ∧ 2 ≤ (hullF (p :: l)).length ∧ ∀ i, 0 < i → i < (hullF (p :: l)).length → (hullF (p :: l)).getD i (0, 0) ≠ p := by
  obtain ⟨m, hm⟩ : ∃ m, (p :: l).getLast? = some m := by
    cases h : (p :: l).getLast? with
    | none => simp at h
    | some m => exact ⟨m, rfl⟩
  have hml : m ∈ l := by
    cases l with
    | nil => exact absurd rfl hl
    | cons a l =>
      rw [List.getLast?_cons_cons] at hm
      exact List.mem_of_getLast? hm
  have hpm : kap k p < kap k m := (List.pairwise_cons.1 ha).1 m hml
  obtain ⟨b1, b2, b3, b4⟩ := chain_all ha
  obtain ⟨ys, hys⟩ := List.getLast?_eq_some_iff.1 hm
  have hr : (p :: l).reverse = m :: ys.reverse := by rw [hys]; simp
  have ha2 := ha.rev
  rw [hr] at ha2
  obtain ⟨c1, c2, c3, c4⟩ := chain_all ha2
  rw [← hr] at c1 c2 c3 c4
  have c3' : (chainF (p :: l).reverse).getLast? = some p := by rw [c3]; simp
  have bl : 2 ≤ (chainF (p :: l)).length := by
    apply Decidable.byContradiction; intro h
    have hb3 := b3.trans hm
    match hB : chainF (p :: l), b2, hb3 with
    | [], h, _ => cases h
    | [x], h, h' =>
      have e1 : x = p := by simpa using h
      have e2 : x = m := by simpa using h'
      rw [← e1, ← e2] at hpm; omega
    | x :: y :: r, _, _ => rw [hB] at h; simp at h
  have cl : 2 ≤ (chainF (p :: l).reverse).length := by
    apply Decidable.byContradiction; intro h
    match hB : chainF (p :: l).reverse, c2, c3' with
    | [], h, _ => cases h
    | [x], h, h' =>
      have e1 : x = m := by simpa using h
      have e2 : x = p := by simpa using h'
      rw [← e1, ← e2] at hpm; omega
    | x :: y :: r, _, _ => rw [hB] at h; simp at h
  have hb0 : (chainF (p :: l)).getD 0 (0, 0) = p := head_getD b2
  have hc0 : (chainF (p :: l).reverse).getD ((chainF (p :: l).reverse).length - 1) (0, 0) = p := getLast_getD c3'
  refine ⟨?_, by unfold hullF; rw [List.length_append, List.length_dropLast, List.length_dropLast]; omega, fun i h0 hi => ?_⟩
  · unfold hullF
    rw [List.head?_append, List.head?_eq_getElem?, List.getElem?_dropLast, if_pos (by omega), ← List.head?_eq_getElem?, b2]; rfl
  · unfold hullF at hi ⊢
    simp only [List.length_append, List.length_dropLast] at hi
    rw [List.getD_eq_getElem?_getD]
    by_cases h : i < (chainF (p :: l)).length - 1
    · rw [List.getElem?_append_left (by simpa using h), ← List.getD_eq_getElem?_getD, dropLast_getD h]
      have := b1.rise (i - 1) 0 (by omega)
      rw [hb0, show 0 + (i - 1) + 1 = i by omega] at this
      intro e; rw [e] at this; omega
    · rw [List.getElem?_append_right (by simp; omega), ← List.getD_eq_getElem?_getD, List.length_dropLast, dropLast_getD (by omega)]
      intro e
      generalize hj : i - ((chainF (p :: l)).length - 1) = j at *
      have := c1.rise ((chainF (p :: l).reverse).length - 1 - j - 1) j (by omega)
      rw [show j + ((chainF (p :: l).reverse).length - 1 - j - 1) + 1 = (chainF (p :: l).reverse).length - 1 by omega, hc0, e] at this
      omega
/-- the next corner -/
theorem hull_next {k p : ZZ} {l : List ZZ} (ha : Asc k (p :: l)) {L : List ZZ} (hL : ∀ x, x ∈ L ↔ x ∈ p :: l) {i : Nat} (hi : i < (hullF (p :: l)).length) :
    nextF L ((hullF (p :: l)).getD i (0, 0)) = if i + 1 < (hullF (p :: l)).length then (hullF (p :: l)).getD (i + 1) (0, 0) else p := by
  have h := hull_round ha i (by simp; omega)
  have h2 := nextF_dom (h.perm (l' := L) fun x => (hL x).symm)
  simp only [List.getD_eq_getElem?_getD] at h2 ⊢
  rw [List.getElem?_append_left hi] at h2
  rw [h2]
  split
  · rename_i hc; rw [List.getElem?_append_left hc]
  · rename_i hc; rw [List.getElem?_append_right (by omega)]
    rw [show i + 1 - (hullF (p :: l)).length = 0 by omega]; rfl
end Go.Proofs.Pt
end

section
namespace Go.Proofs.Pt

theorem left_line {l0 l1 a b c : ZZ} (hne : l0 ≠ l1) (ha : leftP l0 l1 a = 0) (hb : leftP l0 l1 b = 0) (hc : leftP l0 l1 c = 0) : leftP a b c = 0 := by
  have e1 : leftP a b c * (l1.1 - l0.1) = 0 := by simp only [leftP] at *; grind
  have e2 : leftP a b c * (l1.2 - l0.2) = 0 := by simp only [leftP] at *; grind
  rcases Int.mul_eq_zero.1 e1 with h | h
  · exact h
  · rcases Int.mul_eq_zero.1 e2 with h' | h'
    · exact h'
    · exact absurd (Prod.ext (by omega) (by omega)) hne
theorem chain_flat {k p : ZZ} {l : List ZZ} (ha : Asc k (p :: l)) (hf : ∀ a ∈ p :: l, ∀ b ∈ p :: l, ∀ c ∈ p :: l, leftP a b c = 0) : (chainF (p :: l)).length ≤ 2 := by
  obtain ⟨b1, b2, b3, b4⟩ := chain_all ha
  apply Decidable.byContradiction; intro h
  have h0 := b1 0 (by omega)
  have h1 := b1 1 (by omega)
  have m2 := b4 _ (getD_mem (l := chainF (p :: l)) (i := 2) (by omega))
  have m0 := b4 _ (getD_mem (l := chainF (p :: l)) (i := 0) (by omega))
  have hz := hf _ m0 _ h0.1 _ m2
  have hl := h1.2.1
  rcases h0.2.2 _ m2 with g | ⟨_, _, g⟩ <;> simp only [Nat.zero_add, Nat.reduceAdd] at * <;> omega
/-- both ends of a chain -/
theorem chain_two {k p m : ZZ} {l : List ZZ} (ha : Asc k (p :: l)) (hl : l ≠ []) (hm : (p :: l).getLast? = some m) : 2 ≤ (chainF (p :: l)).length ∧ ((chainF (p :: l)).length ≤ 2 → ∀ q ∈ p :: l, 0 ≤ leftP p m q) ∧ kap k p < kap k m := by
  have hml : m ∈ l := by
    cases l with
    | nil => exact absurd rfl hl
    | cons a l =>
      rw [List.getLast?_cons_cons] at hm
      exact List.mem_of_getLast? hm
  have hpm : kap k p < kap k m := (List.pairwise_cons.1 ha).1 m hml
  obtain ⟨b1, b2, b3, b4⟩ := chain_all ha
  have hb3 := b3.trans hm
  have bl : 2 ≤ (chainF (p :: l)).length := by
    apply Decidable.byContradiction; intro h
    match hB : chainF (p :: l), b2, hb3 with
    | [], h, _ => cases h
    | [x], h, h' =>
      have e1 : x = p := by simpa using h
      have e2 : x = m := by simpa using h'
      rw [← e1, ← e2] at hpm; omega
    | x :: y :: r, _, _ => rw [hB] at h; simp at h
  refine ⟨bl, fun h q hq => ?_, hpm⟩
  have h0 := (b1 0 (by omega)).2.2 q hq
  have e0 := head_getD b2
  have e1 := getLast_getD hb3
  rw [show (chainF (p :: l)).length - 1 = 0 + 1 by omega] at e1
  rw [e0, e1] at h0
  exact h0.le
theorem flat_iff {k p : ZZ} {l : List ZZ} (ha : Asc k (p :: l)) (hl : l ≠ []) {L : List ZZ} (hL : ∀ x, x ∈ L ↔ x ∈ p :: l) {l0 l1 : ZZ} (h0 : l0 ∈ L) (h1 : l1 ∈ L) (hne : l0 ≠ l1) :
    (∀ q ∈ L, leftP l0 l1 q = 0) ↔ (hullF (p :: l)).length < 3 := by
  obtain ⟨m, hm⟩ : ∃ m, (p :: l).getLast? = some m := by
    cases h : (p :: l).getLast? with
    | none => simp at h
    | some m => exact ⟨m, rfl⟩
  obtain ⟨b1, b2, b3⟩ := chain_two ha hl hm
  obtain ⟨ys, hys⟩ := List.getLast?_eq_some_iff.1 hm
  have hr : (p :: l).reverse = m :: ys.reverse := by rw [hys]; simp
  have ha2 := ha.rev
  rw [hr] at ha2
  have hys0 : ys.reverse ≠ [] := by
    intro e
    have := congrArg List.length hys
    have e' := congrArg List.length e
    simp at this e'
    rw [e'] at this
    cases l with
    | nil => exact hl rfl
    | cons a l => simp at this
  have hml : (m :: ys.reverse).getLast? = some p := by rw [← hr]; simp
  obtain ⟨c1, c2, c3⟩ := chain_two ha2 hys0 hml
  have hlen : (hullF (p :: l)).length = (chainF (p :: l)).length - 1 + ((chainF (m :: ys.reverse)).length - 1) := by
    unfold hullF; rw [hr]; simp only [List.length_append, List.length_dropLast]
  have hmem : ∀ x, x ∈ m :: ys.reverse ↔ x ∈ p :: l := fun x => by rw [← hr, List.mem_reverse]
  constructor
  · intro hf
    have hall : ∀ a ∈ p :: l, ∀ b ∈ p :: l, ∀ c ∈ p :: l, leftP a b c = 0 := fun a ha b hb c hc => left_line hne (hf a ((hL a).2 ha)) (hf b ((hL b).2 hb)) (hf c ((hL c).2 hc))
    have d1 := chain_flat ha hall
    have d2 := chain_flat ha2 fun a ha b hb c hc => hall a ((hmem a).1 ha) b ((hmem b).1 hb) c ((hmem c).1 hc)
    omega
  · intro h q hq
    have d1 := b2 (by omega)
    have d2 := c2 (by omega)
    have hpm : p ≠ m := fun e => by rw [e] at b3; omega
    have z : ∀ x ∈ p :: l, leftP p m x = 0 := fun x hx => by
      have g1 := d1 x hx
      have g2 := d2 x ((hmem x).2 hx)
      have e : leftP m p x = - leftP p m x := by simp only [leftP]; grind
      omega
    exact left_line hpm (z _ ((hL _).1 h0)) (z _ ((hL _).1 h1)) (z _ ((hL _).1 hq))
end Go.Proofs.Pt
end

section
namespace Go.Proofs.Pt

theorem left_turn {a b p : ZZ} : leftP a b p = turnL a b p := by simp only [leftP, turnL]; grind
theorem left_turn' {a b p : ZZ} : leftP a b p = turnL p a b := by simp only [leftP, turnL]; grind
theorem btw_prod {x a b : Int} : (x - a) * (x - b) ≤ 0 ↔ min a b ≤ x ∧ x ≤ max a b := by
  constructor
  · intro h
    constructor
    · apply Decidable.byContradiction; intro hc
      have := Int.mul_pos (show 0 < a - x by omega) (show 0 < b - x by omega)
      have e : (a - x) * (b - x) = (x - a) * (x - b) := by grind
      omega
    · apply Decidable.byContradiction; intro hc
      have := Int.mul_pos (show 0 < x - a by omega) (show 0 < x - b by omega)
      omega
  · rintro ⟨h1, h2⟩
    rcases Int.le_total a b with h | h
    · exact Int.mul_nonpos_of_nonneg_of_nonpos (by omega) (by omega)
    · rw [Int.mul_comm]; exact Int.mul_nonpos_of_nonneg_of_nonpos (by omega) (by omega)
theorem onP_betw {p a b : ZZ} : onP p a b = betw p a b := by
  rw [Bool.eq_iff_iff, onP_iff]
  simp only [betw, Bool.and_eq_true, decide_eq_true_eq, and_assoc, btw_prod, left_turn']
def signI (n : Int) : Int := if 0 < n then 1 else if n < 0 then -1 else 0
/-- the reference: two straight lines meet -/
def meetR (a b c d : ZZ) : Bool := (onP a c d || onP b c d || onP c a b || onP d a b) || (decide (signI (leftP a b c) * signI (leftP a b d) < 0) && decide (signI (leftP c d a) * signI (leftP c d b) < 0))
theorem sign_opp {x y : Int} : decide (signI x * signI y < 0) = ((decide (0 < x) != decide (0 < y)) && !decide (x = 0) && !decide (y = 0)) := by
  rw [Bool.eq_iff_iff]
  unfold signI
  by_cases h1 : 0 < x <;> by_cases h2 : 0 < y <;> by_cases h3 : x < 0 <;> by_cases h4 : y < 0 <;> simp [h1, h2, h3, h4] <;> omega
theorem meetR_touch {a b c d : ZZ} : meetR a b c d = touchL a b c d := by
  unfold meetR touchL ends
  simp only [onP_betw, sign_opp, left_turn, Bool.and_assoc]
theorem touch_swap {a b c d : ZZ} : touchL a b c d = touchL c d a b := by
  unfold touchL ends
  generalize betw a c d = b1
  generalize betw b c d = b2
  generalize betw c a b = b3
  generalize betw d a b = b4
  generalize (decide (0 < turnL a b c) != decide (0 < turnL a b d)) = x1
  generalize (decide (0 < turnL c d a) != decide (0 < turnL c d b)) = x2
  generalize decide (turnL a b c = 0) = y1
  generalize decide (turnL a b d = 0) = y2
  generalize decide (turnL c d a = 0) = y3
  generalize decide (turnL c d b = 0) = y4
  cases b1 <;> cases b2 <;> cases b3 <;> cases b4 <;> cases x1 <;> cases x2 <;> cases y1 <;> cases y2 <;> cases y3 <;> cases y4 <;> rfl
def refBack (l : List ZZ) (i : Nat) : Bool := onP (atP l i) (atP l (i + 1)) (atP l (i + 2)) || onP (atP l (i + 2)) (atP l i) (atP l (i + 1))
def refFar (l : List ZZ) (i k : Nat) : Bool := decide ((k + 1) % l.length ≠ i) && meetR (atP l i) (atP l (i + 1)) (atP l k) (atP l (k + 1))
def refAt (l : List ZZ) (i : Nat) : Bool := refBack l i || (List.range' (i + 2) (l.length - (i + 2))).any (refFar l i)
def refBad (l : List ZZ) : Bool := (List.range' 0 l.length).any (refAt l)
theorem back_ref {l : List ZZ} {i : Nat} (hl : 0 < l.length) : refBack l i = backC l (i + 1) := by
  unfold refBack backC
  rw [show i + 1 + l.length - 1 = i + l.length by omega]
  have e : atP l (i + l.length) = atP l i := by unfold atP; rw [Nat.add_mod_right]
  rw [e, has_betw, has_betw, onP_betw, onP_betw, Bool.or_comm]
theorem back_mod {l : List ZZ} {i : Nat} (hl : 0 < l.length) : backC l (i % l.length) = backC l i := by
  unfold backC
  have e1 : atP l (i % l.length + l.length - 1) = atP l (i + l.length - 1) := by
    unfold atP
    rw [show i % l.length + l.length - 1 = i % l.length + (l.length - 1) by omega, show i + l.length - 1 = i + (l.length - 1) by omega, Nat.mod_add_mod]
  have e2 : atP l (i % l.length + 1) = atP l (i + 1) := by unfold atP; rw [Nat.mod_add_mod]
  rw [e1, e2, atP_mod]
theorem far_swap {l : List ZZ} {i k : Nat} : meetR (atP l i) (atP l (i + 1)) (atP l k) (atP l (k + 1)) = farC l k i := by
  unfold farC
  rw [meetR_touch, touch_swap, meet_touch]
theorem refBad_eq {l : List ZZ} (h3 : 3 ≤ l.length) : refBad l = badC l := by
  rw [Bool.eq_iff_iff]
  unfold refBad badC refAt
  simp only [List.any_eq_true, Bool.or_eq_true, List.mem_range'_1, List.mem_range, Nat.zero_le, true_and, Nat.zero_add]
  constructor
  · rintro ⟨i, hi, h | ⟨k, hk, h⟩⟩
    · refine ⟨(i + 1) % l.length, Nat.mod_lt _ (by omega), .inl ?_⟩
      rw [back_mod (by omega), ← back_ref (by omega)]; exact h
    · unfold refFar at h
      rw [far_swap] at h
      simp only [Bool.and_eq_true, decide_eq_true_eq] at h
      refine ⟨k, by omega, .inr ⟨i, by omega, ?_⟩⟩
      simp only [Bool.and_eq_true, decide_eq_true_eq]
      refine ⟨?_, h.2⟩
      have h1 := h.1
      by_cases hkl : k + 1 = l.length
      · rw [hkl, Nat.mod_self] at h1; omega
      · omega
  · rintro ⟨i, hi, h | ⟨k, hk, h⟩⟩
    · by_cases h0 : i = 0
      · subst h0
        refine ⟨l.length - 1, by omega, .inl ?_⟩
        rw [back_ref (by omega), show l.length - 1 + 1 = l.length by omega, ← back_mod (by omega), Nat.mod_self]; exact h
      · refine ⟨i - 1, by omega, .inl ?_⟩
        rw [back_ref (by omega), show i - 1 + 1 = i by omega]; exact h
    · simp only [Bool.and_eq_true, decide_eq_true_eq] at h
      refine ⟨k, by omega, .inr ⟨i, by omega, ?_⟩⟩
      unfold refFar
      rw [far_swap]
      simp only [Bool.and_eq_true, decide_eq_true_eq]
      refine ⟨?_, h.2⟩
      by_cases hil : i + 1 = l.length
      · rw [hil, Nat.mod_self]; omega
      · rw [Nat.mod_eq_of_lt (by omega)]; omega
end Go.Proofs.Pt
end

section
namespace Go.Proofs.YtihdlpeghlhnoaaGreatDoor.Code
open Go Go.Ab
open Go.Proofs.Pt hiding ZZ
attribute [go_sem ↓] wpop_app
attribute [local go_sem] aload astore storeWp Ab.part AV.isTup AV.cells setCells
variable {pure : Bool} {base bar : Nat} {H : Heap} {Q : AV → Heap → Prop}

/-- a number that is not great -/
def Bd (b : Int) (x : Int) : Prop := -b ≤ x ∧ x ≤ b
theorem Bd.mul {a b x y : Int} (hx : Bd a x) (hy : Bd b y) : Bd (a * b) (x * y) := by
  obtain ⟨h1, h2⟩ := hx
  obtain ⟨h3, h4⟩ := hy
  have k1 : 0 ≤ (a - x) * (b + y) := Int.mul_nonneg (by omega) (by omega)
  have k2 : 0 ≤ (a + x) * (b - y) := Int.mul_nonneg (by omega) (by omega)
  have k3 : 0 ≤ (a - x) * (b - y) := Int.mul_nonneg (by omega) (by omega)
  have k4 : 0 ≤ (a + x) * (b + y) := Int.mul_nonneg (by omega) (by omega)
  have e1 : (a - x) * (b + y) = a * b + a * y - x * b - x * y := by grind
  have e2 : (a + x) * (b - y) = a * b - a * y + x * b - x * y := by grind
  have e3 : (a - x) * (b - y) = a * b - a * y - x * b + x * y := by grind
  have e4 : (a + x) * (b + y) = a * b + a * y + x * b + x * y := by grind
  constructor <;> omega
theorem i64_bd {x : Int} (h : Bd 1000000000000 x) : IntKind.i64.wrap x = x := by
  obtain ⟨h1, h2⟩ := h
  simp [IntKind.wrap, IntKind.signed, IntKind.bits]
  omega
/-- a point whose coordinates are not great -/
def BP (p : ZZ) : Prop := Bd 1000 p.1 ∧ Bd 1000 p.2
def ptA (p : ZZ) : AV := .agg (zc p)
theorem barUp {pure : Bool} {bar : Nat} {H : Heap} (h : bar ≤ H.length) (k : Nat) : (if pure = true then H.length else bar) ≤ H.length + k := by split <;> omega
theorem k104 {p q : ZZ} (hb : bar ≤ H.length) (hp : BP p) (hq : BP q) : WpCall E pure base bar 104 [ptA p, ptA q] H Q ↔ Q (ptA (subP p q)) H := by
  rw [call104]
  have hb2 := barUp (pure := pure) hb 2
  obtain ⟨⟨h1, h2⟩, h3, h4⟩ := hp
  obtain ⟨⟨h5, h6⟩, h7, h8⟩ := hq
  have e1 : IntKind.i64.wrap (p.1 - q.1) = p.1 - q.1 := i64_bd ⟨by omega, by omega⟩
  have e2 : IntKind.i64.wrap (p.2 - q.2) = p.2 - q.2 := i64_bd ⟨by omega, by omega⟩
  simp [go_sem, WpFun, c104, ptA, zc, subP, e1, e2, hb2]
theorem k105 {p q : ZZ} (hp : Bd 10000 p.1 ∧ Bd 10000 p.2) (hq : Bd 10000 q.1 ∧ Bd 10000 q.2) : WpCall E pure base bar 105 [ptA p, ptA q] H Q ↔ Q (.int .i64 (tmP p q)) H := by
  rw [call105]
  have m1 := hp.1.mul hq.2
  have m2 := hp.2.mul hq.1
  unfold Bd at m1 m2
  have e1 : IntKind.i64.wrap (p.1 * q.2) = p.1 * q.2 := i64_bd ⟨by omega, by omega⟩
  have e2 : IntKind.i64.wrap (p.2 * q.1) = p.2 * q.1 := i64_bd ⟨by omega, by omega⟩
  have e3 : IntKind.i64.wrap (p.1 * q.2 - p.2 * q.1) = p.1 * q.2 - p.2 * q.1 := i64_bd ⟨by omega, by omega⟩
  simp [go_sem, WpFun, c105, ptA, zc, tmP, e1, e2, e3]
theorem k70 {n a b : Int} : WpCall E pure base bar 70 [.int .i64 n, .int .i64 a, .int .i64 b] H Q ↔ Q (.bool (decide (a ≤ n) && decide (n ≤ b))) H := by
  rw [call70]
  simp [go_sem, WpFun, c70]
  by_cases h : a ≤ n <;> simp [h]
/-- a point of the grid, or nearly -/
def GP (p : ZZ) : Prop := (0 ≤ p.1 ∧ p.1 ≤ 100) ∧ 0 ≤ p.2 ∧ p.2 ≤ 100
theorem GP.bp {p : ZZ} (h : GP p) : BP p := by unfold GP at h; exact ⟨⟨by omega, by omega⟩, by omega, by omega⟩
theorem sub_bd {p q : ZZ} (hp : GP p) (hq : GP q) : Bd 10000 (subP p q).1 ∧ Bd 10000 (subP p q).2 := by
  unfold GP at hp hq
  simp only [subP, Bd]; omega
end Go.Proofs.YtihdlpeghlhnoaaGreatDoor.Code
end

section
namespace Go.Proofs.YtihdlpeghlhnoaaGreatDoor.Code
open Go Go.Ab
open Go.Proofs.Pt hiding ZZ
variable {pure : Bool} {base bar : Nat} {H : Heap} {Q : AV → Heap → Prop}
attribute [local go_sem] aload astore storeWp Ab.part AV.isTup AV.cells setCells
def sdA (a b : ZZ) : AV := .agg [.int .i64 a.1, .int .i64 a.2, .int .i64 b.1, .int .i64 b.2]
theorem k104s {p q : ZZ} (hp : BP p) (hq : BP q) : ∀ (pure : Bool) (base bar : Nat) (H : Heap) (Q : AV → Heap → Prop), bar ≤ H.length → (WpCall E pure base bar 104 [.agg [.int .i64 p.1, .int .i64 p.2], .agg [.int .i64 q.1, .int .i64 q.2]] H Q ↔ Q (.agg [.int .i64 (p.1 - q.1), .int .i64 (p.2 - q.2)]) H) := fun _ _ _ _ _ hb => k104 hb hp hq
set_option maxRecDepth 20000 in
theorem k76 {a b p : ZZ} (hb : bar ≤ H.length) (h1 : GP a) (h2 : GP b) (h3 : GP p) : WpCall E pure base bar 76 [sdA a b, ptA p] H Q ↔ Q (.bool (hasS a b p)) H := by
  rw [call76]
  have x1 := k104s h1.bp h3.bp
  have x2 := k104s h2.bp h3.bp
  have d1 := sub_bd h1 h3
  have d2 := sub_bd h2 h3
  have y1 := fun (pure : Bool) (base bar : Nat) (H : Heap) (Q : AV → Heap → Prop) => k105 (pure := pure) (base := base) (bar := bar) (H := H) (Q := Q) d1 d2
  simp only [ptA, zc, subP] at y1 d1 d2
  have hb0 := fun k => barUp (pure := pure) hb k
  have hz : (if pure = true then H.length else bar) ≤ H.length := hb0 0
  have z1 : (if pure = true then H.length else bar) ≤ H.length + 1 := hb0 1
  have z2 : (if pure = true then H.length else bar) ≤ H.length + 2 := hb0 2
  have z3 : (if pure = true then H.length else bar) ≤ H.length + 3 := hb0 3
  simp [go_sem, WpFun, c76, ptA, zc, sdA]
  rw [wp_twin]
  simp [go_sem, wptwin_cons, wptwin_nil, twinNext, x1, x2, hz, z1, z2, z3, AV.top, tops_cons, tops_nil, Nat.ble]
  have m1 := d1.1.mul d2.1
  have m2 := d1.2.mul d2.2
  unfold Bd at m1 m2
  have e5 : IntKind.i64.wrap ((a.1 - p.1) * (b.1 - p.1)) = (a.1 - p.1) * (b.1 - p.1) := i64_bd ⟨by omega, by omega⟩
  have e6 : IntKind.i64.wrap ((a.2 - p.2) * (b.2 - p.2)) = (a.2 - p.2) * (b.2 - p.2) := i64_bd ⟨by omega, by omega⟩
  have e7 : IntKind.i64.wrap ((a.1 - p.1) * (b.1 - p.1) + (a.2 - p.2) * (b.2 - p.2)) = (a.1 - p.1) * (b.1 - p.1) + (a.2 - p.2) * (b.2 - p.2) := i64_bd ⟨by omega, by omega⟩
  simp [go_sem, y1]
  unfold hasS
  simp only [subP]
  by_cases h : tmP (a.1 - p.1, a.2 - p.2) (b.1 - p.1, b.2 - p.2) = 0
  · simp [go_sem, h, e5, e6, e7]
    exact Iff.rfl
  · simp [go_sem, h]
theorem k76s {a b p : ZZ} (h1 : GP a) (h2 : GP b) (h3 : GP p) : ∀ (pure : Bool) (base bar : Nat) (H : Heap) (Q : AV → Heap → Prop), bar ≤ H.length → (WpCall E pure base bar 76 [.agg [.int .i64 a.1, .int .i64 a.2, .int .i64 b.1, .int .i64 b.2], .agg [.int .i64 p.1, .int .i64 p.2]] H Q ↔ Q (.bool (hasS a b p)) H) := fun _ _ _ _ _ hb => k76 hb h1 h2 h3
end Go.Proofs.YtihdlpeghlhnoaaGreatDoor.Code
end

section
namespace Go.Proofs.YtihdlpeghlhnoaaGreatDoor.Code
open Go Go.Ab
open Go.Proofs.Pt hiding ZZ
variable {pure : Bool} {base bar : Nat} {H : Heap} {Q : AV → Heap → Prop}
attribute [local go_sem] aload astore storeWp Ab.part AV.isTup AV.cells setCells
theorem k105s {p q : ZZ} (hp : Bd 10000 p.1 ∧ Bd 10000 p.2) (hq : Bd 10000 q.1 ∧ Bd 10000 q.2) : ∀ (pure : Bool) (base bar : Nat) (H : Heap) (Q : AV → Heap → Prop), WpCall E pure base bar 105 [.agg [.int .i64 p.1, .int .i64 p.2], .agg [.int .i64 q.1, .int .i64 q.2]] H Q ↔ Q (.int .i64 (tmP p q)) H := fun _ _ _ _ _ => k105 hp hq
def crossT (a b c d : ZZ) : Bool := (decide (0 < tmP (subP b a) (subP c a)) != decide (0 < tmP (subP b a) (subP d a))) && (decide (0 < tmP (subP d c) (subP a c)) != decide (0 < tmP (subP d c) (subP b c)))
theorem tm_turn {a b c : ZZ} : tmP (subP b a) (subP c a) = turnL a b c := by
  simp only [tmP, subP, turnL]; grind
theorem crossT_eq {a b c d : ZZ} : crossT a b c d = crossS a b c d := by
  unfold crossT crossS; simp only [tm_turn]
theorem frz_nili {d bar : Nat} {H : Heap} : frz (d + 1) bar H .nili = some (.nili, H) := (rfl)
theorem frz_ifc {d bar : Nat} {H : Heap} {t : TypeId} {x : AV} : frz (d + 1) bar H (.ifc t x) = some (.ifc t x, H) := (rfl)
/-- what two sides have in common -/
def meetV (a b c d : ZZ) : AV := if hasS c d a then .ifc 24 (ptA a) else if hasS c d b then .ifc 24 (ptA b) else if hasS a b c then .ifc 24 (ptA c) else if hasS a b d then .ifc 24 (ptA d) else if crossT a b c d then .ifc 146 (.agg []) else .nili
set_option maxRecDepth 20000 in
theorem k77 {a b c d : ZZ} (hb : bar ≤ H.length) (h1 : GP a) (h2 : GP b) (h3 : GP c) (h4 : GP d) : WpCall E pure base bar 77 [sdA a b, sdA c d] H Q ↔ Q (meetV a b c d) H := by
  rw [call77]
  have x1 := k76s h3 h4 h1
  have x2 := k76s h3 h4 h2
  have x3 := k76s h1 h2 h3
  have x4 := k76s h1 h2 h4
  have hb0 := fun k => barUp (pure := pure) hb k
  have hz : (if pure = true then H.length else bar) ≤ H.length := hb0 0
  have z1 : (if pure = true then H.length else bar) ≤ H.length + 1 := hb0 1
  have z2 : (if pure = true then H.length else bar) ≤ H.length + 2 := hb0 2
  have z3 : (if pure = true then H.length else bar) ≤ H.length + 3 := hb0 3
  simp [go_sem, WpFun, c77, sdA]
  have w1 : IntKind.i64.wrap 1 = 1 := rfl
  have w2 : IntKind.i64.wrap 2 = 2 := rfl
  unfold meetV
  generalize hasS c d a = b1 at *
  generalize hasS c d b = b2 at *
  generalize hasS a b c = b3 at *
  generalize hasS a b d = b4 at *
  rw [wp_round c77_l0.eq_1]
  simp [go_sem, x1, hz, hb0]
  cases b1
  case true => simp [go_sem, hz, hb0, ptA, zc, aop, frz_ifc, leave0, AV.top, tops_cons, tops_nil]
  simp [go_sem, hz, hb0, w1, w2]
  rw [wp_round c77_l0.eq_1]
  simp [go_sem, x2, hz, hb0]
  cases b2
  case true => simp [go_sem, hz, hb0, ptA, zc, aop, frz_ifc, leave0, AV.top, tops_cons, tops_nil]
  simp [go_sem, hz, hb0, w1, w2]
  rw [wp_round c77_l0.eq_1]
  simp [go_sem, hz, hb0, w1, w2]
  rw [wp_round c77_l1.eq_1]
  simp [go_sem, x3, hz, hb0]
  cases b3
  case true => simp [go_sem, hz, hb0, ptA, zc, aop, frz_ifc, leave0, AV.top, tops_cons, tops_nil]
  simp [go_sem, hz, hb0, w1, w2]
  rw [wp_round c77_l1.eq_1]
  simp [go_sem, x4, hz, hb0]
  cases b4
  case true => simp [go_sem, hz, hb0, ptA, zc, aop, frz_ifc, leave0, AV.top, tops_cons, tops_nil]
  simp [go_sem, hz, hb0, w1, w2]
  rw [wp_round c77_l1.eq_1]
  simp [go_sem, hz, hb0, w1, w2]
  have u1 := k104s h2.bp h1.bp
  have u2 := k104s h4.bp h3.bp
  have u3 := k104s h3.bp h1.bp
  have u4 := k104s h4.bp h1.bp
  have u5 := k104s h1.bp h3.bp
  have u6 := k104s h2.bp h3.bp
  have v1 := k105s (sub_bd h2 h1) (sub_bd h3 h1)
  have v2 := k105s (sub_bd h2 h1) (sub_bd h4 h1)
  have v3 := k105s (sub_bd h4 h3) (sub_bd h1 h3)
  have v4 := k105s (sub_bd h4 h3) (sub_bd h2 h3)
  simp only [subP] at v1 v2 v3 v4
  rw [wp_twin]
  simp [go_sem, wptwin_cons, wptwin_nil, twinNext, u1, u2, hz, hb0, AV.top, tops_cons, tops_nil, Nat.ble]
  simp [go_sem, u3, u4, v1, v2, hz, hb0, AV.noVec.noVecs, AV.noVec]
  by_cases q1 : (0 < tmP (b.1 - a.1, b.2 - a.2) (c.1 - a.1, c.2 - a.2) ↔ 0 < tmP (b.1 - a.1, b.2 - a.2) (d.1 - a.1, d.2 - a.2))
  · have q1' : (decide (0 < tmP (subP b a) (subP c a)) != decide (0 < tmP (subP b a) (subP d a))) = false := by
      rw [bne_eq_false_iff_eq]; exact decide_eq_decide.2 q1
    have hX : crossT a b c d = false := by unfold crossT; rw [q1', Bool.false_and]
    simp [go_sem, q1, frz_nili, leave0, AV.top, hX]
  · have q1' : (decide (0 < tmP (subP b a) (subP c a)) != decide (0 < tmP (subP b a) (subP d a))) = true := by
      rw [bne_iff_ne]; exact fun e => q1 (decide_eq_decide.1 e)
    simp only [q1, if_false]
    simp [go_sem, u5, u6, v3, v4, hz, hb0, AV.noVec.noVecs, AV.noVec]
    by_cases q2 : (0 < tmP (d.1 - c.1, d.2 - c.2) (a.1 - c.1, a.2 - c.2) ↔ 0 < tmP (d.1 - c.1, d.2 - c.2) (b.1 - c.1, b.2 - c.2))
    · have q2' : (decide (0 < tmP (subP d c) (subP a c)) != decide (0 < tmP (subP d c) (subP b c))) = false := by
        rw [bne_eq_false_iff_eq]; exact decide_eq_decide.2 q2
      have hX : crossT a b c d = false := by unfold crossT; rw [q2', Bool.and_false]
      simp [go_sem, q2, frz_nili, leave0, AV.top, hX]
    · have q2' : (decide (0 < tmP (subP d c) (subP a c)) != decide (0 < tmP (subP d c) (subP b c))) = true := by
        rw [bne_iff_ne]; exact fun e => q2 (decide_eq_decide.1 e)
      have hX : crossT a b c d = true := by unfold crossT; rw [q1', q2', Bool.true_and]
      simp [go_sem, q2, hX, aop, frz_ifc, leave0, AV.top, tops_cons, tops_nil]
end Go.Proofs.YtihdlpeghlhnoaaGreatDoor.Code
end

section
namespace Go.Proofs.YtihdlpeghlhnoaaGreatDoor.Code
open Go Go.Ab
open Go.Proofs.Pt hiding ZZ
variable {pure : Bool} {base bar : Nat} {H : Heap} {Q : AV → Heap → Prop}
attribute [local go_sem] aload astore storeWp Ab.part AV.isTup AV.cells setCells
theorem k90 {ex : Bool} {l : List ZZ} {i : Int} {m : Nat} (hb : bar ≤ H.length) (hl : 0 < l.length) (hl2 : l.length < 1000) (hi : i + l.length = (m : Int)) (hm : m < 1000000) : WpCall E pure base bar 90 [.lst 2 ex (prA l), .int .i64 i] H Q ↔ Q (ptA (atP l m)) H := by
  rw [call90]
  have hb0 := fun k => barUp (pure := pure) hb k
  have hz : (if pure = true then H.length else bar) ≤ H.length := hb0 0
  have hlen : (prA l).length = l.length := by simp [prA]
  have e1 : IntKind.i64.wrap (i + l.length) = (m : Int) := by rw [hi]; exact i64_bd ⟨by omega, by omega⟩
  have hmod : m % l.length < l.length := Nat.mod_lt _ hl
  have hne : ((l.length : Nat) : Int) ≠ 0 := by omega
  obtain ⟨j, hj⟩ : ∃ j, j = m % l.length := ⟨_, rfl⟩
  have hjl : j < l.length := by omega
  have e2 : abin BinOp.rem (.int .i64 (m : Int)) (.int .i64 ((l.length : Nat) : Int)) = some (.int .i64 (j : Int)) := by
    rw [abin_rem hne, Int.tmod_eq_emod_of_nonneg (by omega), hj]; rfl
  have hp : (prA l)[j]? = some (.agg (zc l[j])) := by simp [prA, List.getElem?_eq_getElem hjl]
  have hat : atP l m = l[j] := by
    unfold atP; rw [← hj, List.getD_eq_getElem?_getD, List.getElem?_eq_getElem hjl]; rfl
  simp [go_sem, WpFun, c90, hz, hb0, hlen, e1, e2, hp, hat, ptA, zc]
/-- the side from a corner on -/
theorem k75 {ex : Bool} {l : List ZZ} {i : Int} {m : Nat} (hb : bar ≤ H.length) (hl : 0 < l.length) (hl2 : l.length < 1000) (hi : i + l.length = (m : Int)) (hm : m < 100000) : WpCall E pure base bar 75 [.lst 2 ex (prA l), .int .i64 i] H Q ↔ Q (sdA (atP l m) (atP l (m + 1))) H := by
  rw [call75]
  have hb0 := fun k => barUp (pure := pure) hb k
  have hz : (if pure = true then H.length else bar) ≤ H.length := hb0 0
  have e1 : IntKind.i64.wrap (i + 1) = i + 1 := i64_bd ⟨by omega, by omega⟩
  have x1 := fun (pure : Bool) (base bar : Nat) (H : Heap) (Q : AV → Heap → Prop) (hb : bar ≤ H.length) => k90 (pure := pure) (base := base) (bar := bar) (H := H) (Q := Q) (ex := ex) hb hl hl2 hi (by omega)
  have x2 := fun (pure : Bool) (base bar : Nat) (H : Heap) (Q : AV → Heap → Prop) (hb : bar ≤ H.length) => k90 (pure := pure) (base := base) (bar := bar) (H := H) (Q := Q) (ex := ex) (i := i + 1) (m := m + 1) hb hl hl2 (by omega) (by omega)
  simp only [ptA, zc] at x1 x2
  simp [go_sem, WpFun, c75, hz, hb0, e1, x1, x2, sdA, go_sem]
end Go.Proofs.YtihdlpeghlhnoaaGreatDoor.Code
end

section
namespace Go.Proofs.YtihdlpeghlhnoaaGreatDoor.Code
open Go Go.Ab
open Go.Proofs.Pt hiding ZZ
variable {pure : Bool} {base bar : Nat} {H : Heap} {Q : AV → Heap → Prop}
attribute [local go_sem] aload astore storeWp Ab.part AV.isTup AV.cells setCells
theorem eqWp_pt {neg : Bool} {p q : ZZ} {K : AV → Heap → List Nat → Prop} : eqWp neg (.flat [false, false]) (some (.agg [.int .i64 p.1, .int .i64 p.2])) (some (.agg [.int .i64 q.1, .int .i64 q.2])) H K = K (.bool (if neg then !decide (p = q) else decide (p = q))) H [] := by
  rw [eqWp_def]
  have e : aeq (.flat [false, false]) (.agg [.int .i64 p.1, .int .i64 p.2]) (.agg [.int .i64 q.1, .int .i64 q.2]) = some (decide (p = q)) := by
    have : decide (p = q) = (p.1 == q.1 && p.2 == q.2) := by
      rw [Bool.eq_iff_iff]; simp [Prod.ext_iff]
    rw [this]
    simp [aeq, eqCells, eqCell]
    cases p.1 == q.1 <;> cases p.2 == q.2 <;> rfl
  rw [e]
theorem prA_len {l : List ZZ} : (prA l).length = l.length := by simp [prA]
theorem prA_get {l : List ZZ} {i : Nat} (h : i < l.length) : (prA l)[i]? = some (.agg [.int .i64 l[i].1, .int .i64 l[i].2]) := by simp [prA, zc, List.getElem?_eq_getElem h]
theorem i64s {i : Nat} (h : i < 1000000) : IntKind.i64.wrap ((i : Int) + 1) = ((i + 1 : Nat) : Int) := by
  simp [IntKind.wrap, IntKind.signed, IntKind.bits]; omega
theorem l103 {R : PQ} {ex : Bool} {l : List ZZ} {p : ZZ} (H0 : Heap) (hl : l.length < 1000) (hbs : base ≤ H0.length) : ∀ (d i : Nat), i + d = l.length → (∀ x ∈ l.take i, x ≠ p) →
    (∀ j : Nat, j < l.length → p ∈ l → R .ret [(4, .int .i64 (j : Int))] (H0 ++ [.row 0 (zc p) 0 true])) →
    (p ∉ l → ∀ b, R (.exit 0) [(0, .lst 2 ex (prA l)), (3, .ptr H0.length 0 0), (7, .int .i64 (l.length : Int)), (8, .int .i64 (l.length : Int)), (9, .bool b)] (H0 ++ [.row 0 (zc p) 0 true])) →
    Wp E base bar (.loop c103_l0) [(0, .lst 2 ex (prA l)), (3, .ptr H0.length 0 0), (7, .int .i64 (l.length : Int)), (8, .int .i64 (i : Int))] (H0 ++ [.row 0 (zc p) 0 true]) R := by
  intro d
  induction d with
  | zero =>
    intro i hi hn h1 h2
    obtain rfl : i = l.length := by omega
    rw [wp_round c103_l0.eq_1]
    simp [go_sem]
    refine h2 (fun hp => ?_) _
    rw [List.take_length] at hn
    exact hn p hp rfl
  | succ d ih =>
    intro i hi hn h1 h2
    have hil : i < l.length := by omega
    rw [wp_round c103_l0.eq_1]
    have e1 := i64s (i := i) (by omega)
    simp only [zc] at h1 h2 ih ⊢
    by_cases he : p = l[i]
    · have hpm : p ∈ l := he ▸ List.getElem_mem hil
      simp [go_sem, hil, prA_get hil, eqWp_pt, he]
      rw [← he]
      exact h1 i hil hpm
    · simp [go_sem, hil, prA_get hil, eqWp_pt, he, e1]
      refine ih (i + 1) (by omega) ?_ h1 h2
      intro x hx
      rw [List.take_add_one, List.getElem?_eq_getElem hil] at hx
      rcases List.mem_append.1 hx with hx | hx
      · exact hn x hx
      · simp only [Option.toList_some, List.mem_singleton] at hx
        subst hx; exact fun e => he e.symm
theorem k103 {ex : Bool} {l : List ZZ} {p : ZZ} (hl : l.length < 1000) (h : ∀ r : Int, (0 ≤ r ↔ p ∈ l) → Q (.int .i64 r) H) : WpCall E pure base bar 103 [.lst 2 ex (prA l), ptA p] H Q := by
  rw [call103]
  simp [go_sem, WpFun, c103, ptA, zc, prA_len]
  refine l103 (ex := ex) (l := l) (p := p) H hl (Nat.le_refl _) l.length 0 (by omega) (by simp) (fun j hj hp => ?_) (fun hp b => ?_)
  · simp [go_sem]
    exact h _ ⟨fun _ => hp, fun _ => by omega⟩
  · simp [go_sem]
    exact h _ ⟨fun h => absurd h (by decide), fun h => absurd h hp⟩
theorem k60 {ex : Bool} {l : List ZZ} {p : ZZ} (hl : l.length < 1000) (h : Q (.bool (decide (p ∈ l))) H) : WpCall E pure base bar 60 [.lst 2 ex (prA l), ptA p] H Q := by
  rw [call60]
  simp [go_sem, WpFun, c60, ptA, zc]
  refine k103 hl fun r hr => ?_
  simp [go_sem]
  rw [show decide (0 ≤ r) = decide (p ∈ l) from decide_eq_decide.2 hr]
  exact h
theorem k103n {p : ZZ} (h : Q (.int .i64 (-1)) H) : WpCall E pure base bar 103 [.nils, ptA p] H Q := by
  rw [call103]
  simp [go_sem, WpFun, c103, ptA, zc]
  rw [wp_round c103_l0.eq_1]
  simp [go_sem]
  exact h
theorem k60n {p : ZZ} (h : Q (.bool false) H) : WpCall E pure base bar 60 [.nils, ptA p] H Q := by
  rw [call60]
  simp [go_sem, WpFun, c60, ptA, zc]
  refine k103n ?_
  simp [go_sem]
  exact h
end Go.Proofs.YtihdlpeghlhnoaaGreatDoor.Code
end

section
namespace Go.Proofs.YtihdlpeghlhnoaaGreatDoor.Code
open Go Go.Ab
open Go.Proofs.Pt hiding ZZ
variable {pure : Bool} {base bar : Nat} {H : Heap} {Q : AV → Heap → Prop}
attribute [local go_sem] aload astore storeWp Ab.part AV.isTup AV.cells setCells
def inG (p : ZZ) : Bool := (decide (0 ≤ p.1) && decide (p.1 ≤ 12)) && (decide (0 ≤ p.2) && decide (p.2 ≤ 12))
/-- the error of points, from a place on -/
def laidG : List ZZ → List ZZ → Int
  | _, [] => 0
  | done, p :: r => if inG p = true then (if p ∈ done then 6 else laidG (done ++ [p]) r) else 1
def laidF (l : List ZZ) : Int := if l.length < 3 then 4 else if 8 < l.length then 3 else laidG [] l
theorem k70s (n : Int) : ∀ (pure : Bool) (base bar : Nat) (H : Heap) (Q : AV → Heap → Prop), WpCall E pure base bar 70 [.int .i64 n, .int .i64 0, .int .i64 12] H Q ↔ Q (.bool (decide (0 ≤ n) && decide (n ≤ 12))) H := fun _ _ _ _ _ => k70
theorem asl_take {H : Heap} {ex : Bool} {l : List ZZ} {i : Nat} (hi : i ≤ l.length) : ∃ ex', aslice H (.slc 2) (.lst 2 ex (prA l)) none (some (.int .i64 (i : Int))) none = some (.lst 2 ex' (prA (l.take i))) := by
  have h1 : ¬ (l.length < i) := by omega
  refine ⟨ex && i == l.length, ?_⟩
  simp [aslice, optBound, bound1, AV.asNat, prA_len, hi, prA]
theorem l74 {R : PQ} {ex : Bool} {l : List ZZ} (H : Heap) (hl : l.length < 1000) (hb : bar ≤ H.length) : ∀ (d i : Nat), i + d = l.length →
    (laidG (l.take i) (l.drop i) ≠ 0 → ∀ G, R .ret [(2, .int .i64 (laidG (l.take i) (l.drop i)))] (H ++ G)) →
    (laidG (l.take i) (l.drop i) = 0 → R (.exit 1) [(0, .lst 2 ex (prA l)), (13, .lst 2 ex (prA l)), (14, .int .i64 (l.length : Int)), (15, .int .i64 (l.length : Int)), (16, .bool false)] H) →
    Wp E base bar (.loop c74_l0) [(0, .lst 2 ex (prA l)), (13, .lst 2 ex (prA l)), (14, .int .i64 (l.length : Int)), (15, .int .i64 (i : Int))] H R := by
  intro d
  induction d with
  | zero =>
    intro i hi h1 h2
    obtain rfl : i = l.length := by omega
    rw [wp_round c74_l0.eq_1]
    simp [go_sem]
    exact h2 (by simp [laidG])
  | succ d ih =>
    intro i hi h1 h2
    have hil : i < l.length := by omega
    have e1 := i64s (i := i) (by omega)
    have z := fun k => Nat.le_trans hb (Nat.le_add_right H.length k)
    have hd : l.drop i = l[i] :: l.drop (i + 1) := List.drop_eq_getElem_cons hil
    have ht : l.take i ++ [l[i]] = l.take (i + 1) := by rw [List.take_add_one, List.getElem?_eq_getElem hil]; rfl
    have hlt : (l.take i).length = i := by rw [List.length_take]; omega
    rw [hd] at h1 h2
    simp only [laidG, ht] at h1 h2
    rw [wp_round c74_l0.eq_1]
    by_cases hg : inG l[i] = true
    · have hg1 : (decide (0 ≤ l[i].1) && decide (l[i].1 ≤ 12)) = true := by unfold inG at hg; simp only [Bool.and_eq_true] at hg ⊢; exact hg.1
      have hg2 : (decide (0 ≤ l[i].2) && decide (l[i].2 ≤ 12)) = true := by unfold inG at hg; simp only [Bool.and_eq_true] at hg ⊢; exact hg.2
      simp [go_sem, hil, prA_get hil, z, hb, k70s, hg1, hg2]
      obtain ⟨ex', hsl⟩ := asl_take (ex := ex) (H := H ++ [Blk.row 0 [AV.int .i64 l[i].1, AV.int .i64 l[i].2] 0 true]) (Nat.le_of_lt hil)
      simp [go_sem, aop, Opd.evo, hsl]
      refine k60 (l := l.take i) (p := l[i]) (by omega) ?_
      by_cases hm : l[i] ∈ l.take i
      · simp only [hg, hm, if_true] at h1
        simp [go_sem, hm, AV.noVec.noVecs, AV.noVec]
        exact h1 (by decide) _
      · simp only [hg, hm, if_true, if_false] at h1 h2
        simp [go_sem, hm, AV.noVec.noVecs, AV.noVec, e1, tops_prA]
        exact ih (i + 1) (by omega) h1 h2
    · simp only [hg] at h1 h2
      have hg' : (decide (0 ≤ l[i].1) && decide (l[i].1 ≤ 12)) = false ∨ (decide (0 ≤ l[i].2) && decide (l[i].2 ≤ 12)) = false := by
        unfold inG at hg
        revert hg
        generalize (decide (0 ≤ l[i].1) && decide (l[i].1 ≤ 12)) = x
        generalize (decide (0 ≤ l[i].2) && decide (l[i].2 ≤ 12)) = y
        cases x <;> cases y <;> simp
      have h1' := h1 (by simp)
      simp only [Bool.false_eq_true, if_false] at h1'
      by_cases hg1 : (decide (0 ≤ l[i].1) && decide (l[i].1 ≤ 12)) = true
      · have hg2 : (decide (0 ≤ l[i].2) && decide (l[i].2 ≤ 12)) = false := hg'.resolve_left (by rw [hg1]; decide)
        simp [go_sem, hil, prA_get hil, z, hb, k70s, hg1, hg2]
        exact h1' _
      · simp only [Bool.not_eq_true] at hg1
        simp [go_sem, hil, prA_get hil, z, hb, k70s, hg1]
        exact h1' _
theorem laidG_range {r : List ZZ} : ∀ {done : List ZZ}, laidG done r = 0 ∨ laidG done r = 1 ∨ laidG done r = 6 := by
  induction r with
  | nil => intro _; exact .inl rfl
  | cons p r ih =>
    intro done
    simp only [laidG]
    split
    · split
      · simp
      · exact ih
    · simp
theorem k74 {ex : Bool} {l : List ZZ} (hb : bar ≤ H.length) (hl : l.length < 1000) (h : Q (.int .i64 (laidF l)) H) : WpCall E pure base bar 74 [.lst 2 ex (prA l)] H Q := by
  rw [call74]
  have hz : (if pure = true then H.length else bar) ≤ H.length := barUp (pure := pure) hb 0
  simp [go_sem, WpFun, c74, prA_len]
  unfold laidF at h
  by_cases h3 : l.length < 3
  · rw [if_pos h3] at h
    rw [if_pos (by omega)]; exact h
  · rw [if_neg h3] at h
    rw [if_neg (by omega)]
    by_cases h8 : 8 < l.length
    · rw [if_pos h8] at h
      rw [if_pos (by omega)]; exact h
    · rw [if_neg h8] at h
      rw [if_neg (by omega)]
      refine l74 (ex := ex) (l := l) H hl hz l.length 0 (by omega) (fun _ G => ?_) (fun h0 => ?_)
      · simp [go_sem]
        exact h
      · simp [go_sem]
        simp at h0
        rw [h0] at h; exact h
theorem k74n (h : Q (.int .i64 4) H) : WpCall E pure base bar 74 [.nils] H Q := by
  rw [call74]
  simp [go_sem, WpFun, c74]
  exact h
end Go.Proofs.YtihdlpeghlhnoaaGreatDoor.Code
end

section
namespace Go.Proofs.YtihdlpeghlhnoaaGreatDoor.Code
open Go Go.Ab
open Go.Proofs.Pt hiding ZZ
variable {pure : Bool} {base bar : Nat} {H : Heap} {Q : AV → Heap → Prop}
attribute [local go_sem] aload astore storeWp Ab.part AV.isTup AV.cells setCells
theorem inG_gp {p : ZZ} (h : inG p = true) : GP p := by
  simp only [inG, Bool.and_eq_true, decide_eq_true_eq] at h
  unfold GP; omega
theorem laidG_ok : ∀ {r done : List ZZ}, done.Nodup → laidG done r = 0 → (∀ p ∈ r, inG p = true) ∧ (done ++ r).Nodup
  | [], done, hn, _ => ⟨fun _ h => (by cases h), by simpa using hn⟩
  | p :: r, done, hn, h => by
    simp only [laidG] at h
    split at h
    · rename_i hg
      split at h
      · cases h
      · rename_i hm
        have hn' : (done ++ [p]).Nodup := List.nodup_append.2 ⟨hn, by simp, fun a ha b hb => by
          rw [List.mem_singleton] at hb; subst hb; exact fun e => hm (e ▸ ha)⟩
        obtain ⟨h1, h2⟩ := laidG_ok hn' h
        refine ⟨fun q hq => ?_, by simpa using h2⟩
        rcases List.mem_cons.1 hq with rfl | hq
        · exact hg
        · exact h1 q hq
    · cases h
structure Laid (l : List ZZ) : Prop where
  lo : 3 ≤ l.length
  hi : l.length ≤ 8
  inG : ∀ p ∈ l, inG p = true
  nd : l.Nodup
theorem laidF_ok {l : List ZZ} (h : laidF l = 0) : Laid l := by
  unfold laidF at h
  split at h
  · cases h
  · split at h
    · cases h
    · obtain ⟨h1, h2⟩ := laidG_ok List.nodup_nil h
      exact ⟨by omega, by omega, h1, by simpa using h2⟩
theorem atP_mem {l : List ZZ} (h : 0 < l.length) {m : Nat} : atP l m ∈ l := by
  unfold atP
  have := Nat.mod_lt m h
  rw [List.getD_eq_getElem?_getD, List.getElem?_eq_getElem this]
  exact List.getElem_mem this
theorem Laid.gp {l : List ZZ} (h : Laid l) (m : Nat) : GP (atP l m) := inG_gp (h.inG _ (atP_mem (by have := h.lo; omega)))
theorem atP_add {l : List ZZ} {m : Nat} : atP l (m + l.length) = atP l m := by unfold atP; rw [Nat.add_mod_right]
/-- do two sides meet -/
def farB (a b c d : ZZ) : Bool := ends a b c d || crossS a b c d
theorem meetV_nil (a b c d : ZZ) : (meetV a b c d = .nili ∧ farB a b c d = false) ∨ (∃ t x, meetV a b c d = .ifc t x ∧ farB a b c d = true) := by
  unfold meetV farB ends
  rw [← crossT_eq]
  simp only [has_betw]
  cases betw a c d
  · cases betw b c d
    · cases betw c a b
      · cases betw d a b
        · cases crossT a b c d
          · left; simp
          · right; exact ⟨_, _, rfl, rfl⟩
        · right; exact ⟨_, _, rfl, rfl⟩
      · right; exact ⟨_, _, rfl, rfl⟩
    · right; exact ⟨_, _, rfl, rfl⟩
  · right; exact ⟨_, _, rfl, rfl⟩
theorem k75s {ex : Bool} {l : List ZZ} (hl : Laid l) (i : Nat) (hi : i < 1000) : ∀ (pure : Bool) (base bar : Nat) (H : Heap) (Q : AV → Heap → Prop), bar ≤ H.length → (WpCall E pure base bar 75 [.lst 2 ex (prA l), .int .i64 (i : Int)] H Q ↔ Q (sdA (atP l i) (atP l (i + 1))) H) := fun pu ba br H0 Q0 hb => by
  have h1 := hl.lo; have h2 := hl.hi
  have := k75 (pure := pu) (base := ba) (bar := br) (H := H0) (Q := Q0) (ex := ex) (l := l) (i := (i : Int)) (m := i + l.length) hb (by omega) (by omega) (by omega) (by omega)
  rw [this, atP_add, show i + l.length + 1 = (i + 1) + l.length by omega, atP_add]
theorem k75p {ex : Bool} {l : List ZZ} (hl : Laid l) (i : Nat) (hi : i < 1000) : ∀ (pure : Bool) (base bar : Nat) (H : Heap) (Q : AV → Heap → Prop), bar ≤ H.length → (WpCall E pure base bar 75 [.lst 2 ex (prA l), .int .i64 ((i : Int) - 1)] H Q ↔ Q (sdA (atP l (i + l.length - 1)) (atP l i)) H) := fun pu ba br H0 Q0 hb => by
  have h1 := hl.lo; have h2 := hl.hi
  have := k75 (pure := pu) (base := ba) (bar := br) (H := H0) (Q := Q0) (ex := ex) (l := l) (i := (i : Int) - 1) (m := i + l.length - 1) hb (by omega) (by omega) (by omega) (by omega)
  rw [this, show i + l.length - 1 + 1 = i + l.length by omega, atP_add]
theorem eqWp_nn {neg : Bool} {K : AV → Heap → List Nat → Prop} : eqWp neg .nilI (some .nili) (some .nili) H K = K (.bool (if neg then false else true)) H [] := by
  rw [eqWp_def]; cases neg <;> rfl
theorem eqWp_in {neg : Bool} {t : TypeId} {x : AV} {K : AV → Heap → List Nat → Prop} : eqWp neg .nilI (some (.ifc t x)) (some .nili) H K = K (.bool (if neg then true else false)) H [] := by
  rw [eqWp_def]; cases neg <;> rfl
theorem atP_pt {l : List ZZ} {m : Nat} : (atP l m) = ((atP l m).1, (atP l m).2) := rfl
def sideB (l : List ZZ) (a b : Nat) : Blk := .row 0 [.int .i64 (atP l a).1, .int .i64 (atP l a).2, .int .i64 (atP l b).1, .int .i64 (atP l b).2] 0 true
def sides (l : List ZZ) (i : Nat) : Heap := [sideB l (i + l.length - 1) i, sideB l i (i + 1)]
theorem k77s {a b c d : ZZ} (h1 : GP a) (h2 : GP b) (h3 : GP c) (h4 : GP d) : ∀ (pure : Bool) (base bar : Nat) (H : Heap) (Q : AV → Heap → Prop), bar ≤ H.length → (WpCall E pure base bar 77 [.agg [.int .i64 a.1, .int .i64 a.2, .int .i64 b.1, .int .i64 b.2], .agg [.int .i64 c.1, .int .i64 c.2, .int .i64 d.1, .int .i64 d.2]] H Q ↔ Q (meetV a b c d) H) := fun _ _ _ _ _ hb => k77 hb h1 h2 h3 h4
theorem l27a {R : PQ} {ex : Bool} {l : List ZZ} (H : Heap) (hl : Laid l) (hb : bar ≤ H.length) {i : Nat} (hil : i < l.length) : ∀ (d k : Nat), k + d = i - 1 →
    (((List.range' k d).any fun k => decide (i - k < l.length - 1) && farC l i k) = true → ∀ G, R .ret [(2, .int .i64 5)] (H ++ G)) →
    (((List.range' k d).any fun k => decide (i - k < l.length - 1) && farC l i k) = false → ∀ x G, R (.exit 2) [(4, .lst 2 ex (prA l)), (16, .int .i64 (l.length : Int)), (17, .int .i64 (i : Int)), (5, .int .i64 (i : Int)), (7, .ptr (H.length + 1) 0 0), (38, .int .i64 ((i : Int) - 1)), (39, x), (40, .bool false)] (H ++ G)) →
    Wp E H.length bar (.loop c27_l0) [(4, .lst 2 ex (prA l)), (16, .int .i64 (l.length : Int)), (17, .int .i64 (i : Int)), (5, .int .i64 (i : Int)), (7, .ptr (H.length + 1) 0 0), (38, .int .i64 ((i : Int) - 1)), (39, .int .i64 (k : Int))] (H ++ sides l i) R := by
  intro d
  induction d with
  | zero =>
    intro k hk h1 h2
    rw [wp_round c27_l0.eq_1]
    have hki : ¬ ((k : Int) < (i : Int) - 1) := by omega
    simp [go_sem, hki]
    exact h2 (by simp) _ _
  | succ d ih =>
    intro k hk h1 h2
    have h3 := hl.lo; have h8 := hl.hi
    have hki : (k : Int) < (i : Int) - 1 := by omega
    have e1 := i64s (i := k) (by omega)
    have e2 : IntKind.i64.wrap ((i : Int) - k) = (i : Int) - k := i64_bd ⟨by omega, by omega⟩
    have e3 : IntKind.i64.wrap ((l.length : Int) - 1) = (l.length : Int) - 1 := i64_bd ⟨by omega, by omega⟩
    have z := fun k => Nat.le_trans hb (Nat.le_add_right H.length k)
    have x1 := k75s (ex := ex) hl k (by omega)
    have y1 := k77s (hl.gp i) (hl.gp (i + 1)) (hl.gp k) (hl.gp (k + 1))
    simp only [sdA] at x1
    rw [List.range'_succ, List.any_cons] at h1 h2
    unfold sides sideB at ih ⊢
    rw [wp_round c27_l0.eq_1]
    by_cases hf : (i : Int) - k < (l.length : Int) - 1
    · have hf' : decide (i - k < l.length - 1) = true := by simp; omega
      simp only [hf', Bool.true_and] at h1 h2
      rcases meetV_nil (atP l i) (atP l (i + 1)) (atP l k) (atP l (k + 1)) with ⟨m1, m2⟩ | ⟨t, u, m1, m2⟩
      · have m2' : farC l i k = false := m2
        rw [m2', Bool.false_or] at h1 h2
        simp [go_sem, hki, hf, hb, z, e1, e2, e3, x1, y1, m1, prA_len, AV.noVec.noVecs, AV.noVec, eqWp_nn]
        exact ih (k + 1) (by omega) h1 h2
      · have m2' : farC l i k = true := m2
        simp only [m2', Bool.true_or] at h1
        simp [go_sem, hki, hf, hb, z, e1, e2, e3, x1, y1, m1, prA_len, AV.noVec.noVecs, AV.noVec, eqWp_in]
        exact h1 trivial _
    · have hf' : decide (i - k < l.length - 1) = false := by simp; omega
      simp only [hf', Bool.false_and, Bool.false_or] at h1 h2
      simp [go_sem, hki, hf, hb, z, e1, e2, e3, x1, y1, prA_len, AV.noVec.noVecs, AV.noVec]
      exact ih (k + 1) (by omega) h1 h2
/-- what the check asks at a corner -/
def badAt (l : List ZZ) (i : Nat) : Bool := backC l i || (List.range' 0 (i - 1)).any fun k => decide (i - k < l.length - 1) && farC l i k
theorem badC_at (l : List ZZ) : badC l = (List.range' 0 l.length).any (badAt l) := by
  unfold badC badAt
  simp only [List.range_eq_range']
theorem l27b {R : PQ} {ex : Bool} {l : List ZZ} (H : Heap) (hl : Laid l) (hb : bar ≤ H.length) : ∀ (d i : Nat), i + d = l.length →
    (((List.range' i d).any (badAt l)) = true → ∀ G, R .ret [(2, .int .i64 5)] (H ++ G)) →
    (((List.range' i d).any (badAt l)) = false → R (.exit 0) [(4, .lst 2 ex (prA l)), (16, .int .i64 (l.length : Int)), (17, .int .i64 (l.length : Int)), (18, .bool false)] H) →
    Wp E base bar (.loop c27_l1) [(4, .lst 2 ex (prA l)), (16, .int .i64 (l.length : Int)), (17, .int .i64 (i : Int))] H R := by
  intro d
  induction d with
  | zero =>
    intro i hi h1 h2
    obtain rfl : i = l.length := by omega
    rw [wp_round c27_l1.eq_1]
    simp [go_sem]
    exact h2 (by simp)
  | succ d ih =>
    intro i hi h1 h2
    have h3 := hl.lo; have h8 := hl.hi
    have hil : i < l.length := by omega
    have e1 := i64s (i := i) (by omega)
    have e2 : IntKind.i64.wrap ((i : Int) - 1) = (i : Int) - 1 := i64_bd ⟨by omega, by omega⟩
    have z := fun k => Nat.le_trans hb (Nat.le_add_right H.length k)
    have x1 := k75s (ex := ex) hl i (by omega)
    have x2 := k75p (ex := ex) hl i (by omega)
    have y1 := k76s (hl.gp (i + l.length - 1)) (hl.gp i) (hl.gp (i + 1))
    have y2 := k76s (hl.gp i) (hl.gp (i + 1)) (hl.gp (i + l.length - 1))
    rw [List.range'_succ, List.any_cons] at h1 h2
    simp only [sdA] at x1 x2
    rw [wp_round c27_l1.eq_1]
    simp [go_sem, hil, hb, z, e1, e2, x1, x2, y1, y2]
    by_cases b1 : hasS (atP l (i + l.length - 1)) (atP l i) (atP l (i + 1)) = true
    · rw [if_pos b1]
      exact h1 (by unfold badAt backC; rw [b1]; rfl) _
    · rw [if_neg b1]
      by_cases b2 : hasS (atP l i) (atP l (i + 1)) (atP l (i + l.length - 1)) = true
      · rw [if_pos b2]
        exact h1 (by unfold badAt backC; rw [b2, Bool.or_true]; rfl) _
      · rw [if_neg b2]
        have hbk : backC l i = false := by
          unfold backC
          rw [Bool.or_eq_false_iff]
          exact ⟨by simpa using b1, by simpa using b2⟩
        refine l27a (ex := ex) H hl hb hil (i - 1) 0 (by omega) (fun hs G => ?_) (fun hs x G => ?_)
        · simp [go_sem]
          exact h1 (by unfold badAt; rw [hs, Bool.or_true]; rfl) _
        · have hat : badAt l i = false := by unfold badAt; rw [hbk, hs]; rfl
          rw [hat, Bool.false_or] at h1 h2
          simp [go_sem, e1, tops_prA]
          exact ih (i + 1) (by omega) h1 h2
/-- the error of a piece -/
def checkF (l : List ZZ) : Int := if laidF l = 0 then (if badC l = true then 5 else 0) else laidF l
theorem k27 {ex : Bool} {l : List ZZ} (hb : bar ≤ H.length) (hl : l.length < 1000) (h : Q (.int .i64 (checkF l)) H) : WpCall E pure base bar 27 [.lst 2 ex (prA l)] H Q := by
  rw [call27]
  have hz : (if pure = true then H.length else bar) ≤ H.length := barUp (pure := pure) hb 0
  simp [go_sem, WpFun, c27, prA_len]
  unfold checkF at h
  refine k74 hz hl ?_
  by_cases h0 : laidF l = 0
  · rw [if_pos h0, badC_at] at h
    simp [go_sem, h0, prA_len]
    refine l27b (ex := ex) H (laidF_ok h0) hz l.length 0 (by omega) (fun hs G => ?_) (fun hs => ?_)
    · rw [if_pos hs] at h
      simp [go_sem]; exact h
    · rw [hs] at h
      simp [go_sem]; exact h
  · rw [if_neg h0] at h
    simp [go_sem, h0]
    exact h
theorem k27n (h : Q (.int .i64 4) H) : WpCall E pure base bar 27 [.nils] H Q := by
  rw [call27]
  simp [go_sem, WpFun, c27]
  refine k74n ?_
  simp [go_sem]
  exact h
end Go.Proofs.YtihdlpeghlhnoaaGreatDoor.Code
end

section
namespace Go.Proofs.YtihdlpeghlhnoaaGreatDoor.Code
open Go Go.Ab
open Go.Proofs.Pt hiding ZZ
variable {pure : Bool} {base bar : Nat} {H : Heap} {Q : AV → Heap → Prop}
attribute [local go_sem] aload astore storeWp Ab.part AV.isTup AV.cells setCells
theorem flat_prA {l : List ZZ} : (prA l).flatMap AV.cells = prs l := by
  induction l with
  | nil => rfl
  | cons p l ih =>
    simp only [prA, List.map_cons, List.flatMap_cons] at ih ⊢
    rw [ih]; rfl
theorem noVecs_prs {l : List ZZ} : AV.noVec.noVecs (prs l) = true := by
  induction l with
  | nil => rfl
  | cons p l ih =>
    show AV.noVec.noVecs (.int .i64 p.1 :: .int .i64 p.2 :: prs l) = true
    simp only [AV.noVec.noVecs, AV.noVec, ih, Bool.and_self]
theorem app_first {ex : Bool} {l : List ZZ} {K : AV → Heap → List Nat → Prop} (hl : l ≠ []) (hlen : l.length < 1000) :
    appWp base bar 2 16 (some (.lst 2 true [])) (some (.lst 2 ex (prA l))) H K = K (.vec H.length 0 0 l.length 2) (H ++ [.row 0 (prs l) 0 false]) [] := by
  have hz : frzAll bar H (prs l) = some (prs l, H) := by
    have := plains (d := 6) (bar := bar) (H := H) (prs_plain (l := l))
    simpa [frzAll, frz.frzs] using this
  have hne : (prs l).isEmpty = false := by cases l with
    | nil => exact absurd rfl hl
    | cons a r => rfl
  simp [appWp, asrc_lst, flat_prA, hz, aappend, hne, prs_length, noVecs_prs, show l.length * 16 ≤ 140737488355328 by omega, Nat.dvd_mul_right]
theorem k51 {ex : Bool} {l : List ZZ} (hl : l ≠ []) (hlen : l.length < 1000) (hb : bar ≤ H.length) (h : Q (.vec H.length 0 0 l.length 2) (H ++ [.row 0 (prs l) 0 false])) : WpCall E pure base bar 51 [.lst 2 ex (prA l)] H Q := by
  rw [call51]
  have hz : (if pure = true then H.length else bar) ≤ H.length := barUp (pure := pure) hb 0
  simp [go_sem, WpFun, c51, eqWp_def, aeq]
  simp [go_sem, aop, fillA, chunks, AV.noVec.noVecs, frzAll, frz.frzs, frzsW]
  rw [app_first hl hlen]
  simp [go_sem, leave]
  exact h
theorem rem_nat {m n : Nat} (hn : 0 < n) : abin BinOp.rem (.int .i64 (m : Int)) (.int .i64 (n : Int)) = some (.int .i64 ((m % n : Nat) : Int)) := by
  rw [abin_rem (by omega), Int.tmod_eq_emod_of_nonneg (by omega)]; rfl
end Go.Proofs.YtihdlpeghlhnoaaGreatDoor.Code
end

section
namespace Go.Proofs.YtihdlpeghlhnoaaGreatDoor.Code
open Go Go.Ab
variable {pure : Bool} {base bar : Nat} {H : Heap} {Q : AV → Heap → Prop} {K : AV → Heap → List Nat → Prop}
def ltZ (p q : ZZ) : Prop := p.1 < q.1 ∨ (p.1 = q.1 ∧ p.2 < q.2)
theorem ltZ.irr {p : ZZ} : ¬ ltZ p p := by unfold ltZ; omega
theorem ltZ.trans {p q r : ZZ} (h1 : ltZ p q) (h2 : ltZ q r) : ltZ p r := by unfold ltZ at *; omega
theorem ltZ.asymm {p q : ZZ} (h1 : ltZ p q) (h2 : ltZ q p) : False := ltZ.irr (h1.trans h2)
/-- lists in strict order with the same members are the same -/
theorem sort_unique : ∀ {L M : List ZZ}, L.Pairwise ltZ → M.Pairwise ltZ → (∀ p, p ∈ L ↔ p ∈ M) → L = M
  | [], [], _, _, _ => rfl
  | [], q :: M, _, _, h => by have := (h q).2 (List.mem_cons_self ..); cases this
  | p :: L, [], _, _, h => by have := (h p).1 (List.mem_cons_self ..); cases this
  | p :: L, q :: M, hL, hM, h => by
    obtain ⟨l1, l2⟩ := List.pairwise_cons.1 hL
    obtain ⟨m1, m2⟩ := List.pairwise_cons.1 hM
    have e : p = q := by
      rcases List.mem_cons.1 ((h p).1 (List.mem_cons_self ..)) with e | e
      · exact e
      · rcases List.mem_cons.1 ((h q).2 (List.mem_cons_self ..)) with e' | e'
        · exact e'.symm
        · exact (ltZ.asymm (l1 q e') (m1 p e)).elim
    subst e
    congr 1
    refine sort_unique l2 m2 fun r => ?_
    constructor
    · intro hr
      rcases List.mem_cons.1 ((h r).1 (List.mem_cons_of_mem _ hr)) with e' | e'
      · subst e'; exact (ltZ.irr (l1 r hr)).elim
      · exact e'
    · intro hr
      rcases List.mem_cons.1 ((h r).2 (List.mem_cons_of_mem _ hr)) with e' | e'
      · subst e'; exact (ltZ.irr (m1 r hr)).elim
      · exact e'
def cmpI (a b : Int) : Int := if a < b then -1 else if b < a then 1 else 0
theorem k132 {a : Int} (h : Q (.bool false) H) : WpCall E pure base bar 132 [.int .i64 a] H Q := by
  rw [call132]
  simp [go_sem, WpFun, c132]
  exact h
theorem k117 {a b : Int} (h : Q (.int .i64 (cmpI a b)) H) : WpCall E pure base bar 117 [.int .i64 a, .int .i64 b] H Q := by
  unfold cmpI at h
  rw [call117]
  simp [go_sem, WpFun, c117]
  refine k132 ?_
  simp [go_sem]
  refine k132 ?_
  by_cases h1 : a < b
  · rw [if_pos h1] at h
    simp [go_sem, h1]
    exact h
  · rw [if_neg h1] at h
    by_cases h2 : b < a
    · rw [if_pos h2] at h
      simp [go_sem, h1, h2]
      exact h
    · rw [if_neg h2] at h
      simp [go_sem, h1, h2]
      exact h
def cmpV : List Int → List Int → Int
  | [], [] => 0
  | [], _ :: _ => -1
  | _ :: _, [] => 1
  | x :: xs, y :: ys => if cmpI x y ≠ 0 then cmpI x y else cmpV xs ys
theorem cmp_lt {p q : ZZ} : cmpV [p.1, p.2] [q.1, q.2] < 0 ↔ ltZ p q := by
  unfold ltZ
  simp only [cmpV, cmpI]
  by_cases h1 : p.1 < q.1
  · simp [h1]
  · by_cases h2 : q.1 < p.1
    · simp [h1, h2]; omega
    · have e : p.1 = q.1 := by omega
      by_cases h3 : p.2 < q.2
      · simp [e, h3]
      · by_cases h4 : q.2 < p.2
        · simp [e, h3, h4]
        · simp [e, h3, h4]
/-! pairs in a block -/
theorem prs_drop {L : List ZZ} {i : Nat} : (prs L).drop (2 * i) = prs (L.drop i) := by
  induction i generalizing L with
  | zero => simp
  | succ i ih =>
    cases L with
    | nil => simp [prs]
    | cons p r =>
      rw [List.drop_succ_cons, ← ih]
      show ((zc p) ++ prs r).drop (2 * (i + 1)) = _
      rw [show 2 * (i + 1) = (zc p).length + 2 * i by simp [zc]; omega, ← List.drop_drop, List.drop_left]
theorem prs_part {L : List ZZ} {i : Nat} (hi : i < L.length) : Ab.part ⟨true, 2⟩ (prs L) (2 * i) = some (.agg (zc L[i])) := by
  have hl := prs_length (l := L)
  have e : ((prs L).drop (2 * i)).take 2 = zc L[i] := by
    rw [prs_drop, List.drop_eq_getElem_cons hi]
    show (zc L[i] ++ prs _).take 2 = _
    simp [zc]
  have hlt : 2 * i + 2 ≤ (prs L).length := by omega
  simp [Ab.part, e, hlt]
theorem prs_set {L : List ZZ} {i : Nat} {p : ZZ} (hi : i < L.length) : setCells (prs L) (2 * i) (zc p) = prs (L.set i p) := by
  induction i generalizing L with
  | zero =>
    cases L with
    | nil => simp at hi
    | cons q r => simp [prs, setCells, zc]
  | succ i ih =>
    cases L with
    | nil => simp at hi
    | cons q r =>
      have := ih (L := r) (by simpa using hi)
      rw [List.set_cons_succ]
      show setCells (zc q ++ prs r) (2 * (i + 1)) (zc p) = zc q ++ prs (r.set i p)
      rw [← this]
      simp [zc, setCells, show 2 * (i + 1) = 2 * i + 1 + 1 by omega]
theorem l116 {a b : Int} {ex : Bool} (h : Q (.int .i64 (if a ≠ 0 then a else b)) H) : WpCall E pure base bar 116 [.lst 1 ex [.int .i64 a, .int .i64 b]] H Q := by
  rw [call116]
  have w1 : IntKind.i64.wrap 1 = 1 := rfl
  have w2 : IntKind.i64.wrap 2 = 2 := rfl
  simp [go_sem, WpFun, c116]
  rw [wp_round c116_l0.eq_1]
  by_cases ha : a = 0
  · subst ha
    rw [if_neg (by simp)] at h
    simp [go_sem, w1]
    rw [wp_round c116_l0.eq_1]
    by_cases hb : b = 0
    · subst hb
      simp [go_sem, w2]
      rw [wp_round c116_l0.eq_1]
      simp [go_sem]
      exact h
    · simp [go_sem, hb]
      exact h
  · rw [if_pos ha] at h
    simp [go_sem, ha]
    exact h
theorem cmpV_two {a b c d : Int} : cmpV [a, b] [c, d] = if cmpI a c ≠ 0 then cmpI a c else cmpI b d := by
  simp only [cmpV]
  by_cases h : cmpI a c = 0
  · simp only [h, ne_eq, not_true, if_false]
    by_cases h2 : cmpI b d = 0 <;> simp [h2]
  · simp [h]
theorem k95 {p q : ZZ} (hbar : bar ≤ H.length) (h : Q (.int .i64 (cmpV [p.1, p.2] [q.1, q.2])) H) : WpCall E pure base bar 95 [.agg (zc p), .agg (zc q)] H Q := by
  rw [call95]
  simp [go_sem, WpFun, c95, zc, aload, Ab.part, AV.isTup, AV.cells]
  refine k117 ?_
  simp [go_sem, zc, aload, Ab.part, AV.isTup, AV.cells]
  refine k117 ?_
  simp [go_sem, zc, aload, Ab.part, AV.isTup, AV.cells, aop, fillA, setCells, chunks, AV.noVec.noVecs, AV.noVec]
  refine l116 ?_
  rw [← cmpV_two]
  simp [go_sem]
  exact h
end Go.Proofs.YtihdlpeghlhnoaaGreatDoor.Code
end

section
namespace Go.Proofs.YtihdlpeghlhnoaaGreatDoor.Code
open Go Go.Ab
variable {pure : Bool} {base bar : Nat} {H : Heap} {Q : AV → Heap → Prop} {K : AV → Heap → List Nat → Prop}
theorem set_same {H : Heap} {i : Nat} {b : Blk} (h : H[i]? = some b) : H.set i b = H := by
  apply List.ext_getElem?
  intro j
  by_cases hj : j = i
  · subst hj; rw [h, List.getElem?_set_self (List.getElem?_eq_some_iff.1 h).1]
  · rw [List.getElem?_set_ne (fun e => hj e.symm)]
/-! insertion sort -/
def srt (L : List ZZ) : Prop := L.Pairwise fun p q => ¬ ltZ q p
theorem zc_tops {p : ZZ} (n : Nat) : AV.top.tops (zc p) ≤ n := by simp [zc, AV.top.tops, AV.top]
theorem ltZ.le {x y z : ZZ} (h1 : ¬ ltZ y x) (h2 : ¬ ltZ z y) : ¬ ltZ z x := by unfold ltZ at *; omega
theorem l120a {id ver n i : Nat} {ex : Bool} {x : ZZ} {C : List ZZ} {H0 : Heap} (hid : id < H0.length) (hb : bar ≤ id) (hn : n < 1000) {R : PQ} : ∀ (A B : List ZZ), A.length + B.length + C.length + 1 = n → srt (A ++ B) → (∀ b ∈ B, ltZ x b) →
    (∀ S : List ZZ, S.Perm (A ++ x :: B) → srt S → ∀ v, R (.exit 2) [(0, .vec id ver 0 n 2), (1, .int .i64 0), (2, .int .i64 (n : Nat)), (3, .fn 95 [] []), (8, .int .i64 (i : Nat)), (9, v), (34, .bool false)] (H0.set id (.row ver (prs (S ++ C)) 0 ex))) →
    Wp E base bar (.loop c120_l0) [(0, .vec id ver 0 n 2), (1, .int .i64 0), (2, .int .i64 (n : Nat)), (3, .fn 95 [] []), (8, .int .i64 (i : Nat)), (9, .int .i64 (A.length : Nat))] (H0.set id (.row ver (prs (A ++ x :: B ++ C)) 0 ex)) R := by
  intro A
  obtain ⟨m, hm⟩ : ∃ m, A.length = m := ⟨_, rfl⟩
  induction m generalizing A with
  | zero =>
    intro B hl hs hB h
    have : A = [] := List.length_eq_zero_iff.1 hm
    subst this
    have hh := h (x :: B) (List.Perm.refl _) (List.pairwise_cons.2 ⟨fun b hb hlt => ltZ.asymm hlt (hB b hb), hs⟩)
    rw [wp_round c120_l0.eq_1]
    simp [go_sem]
    exact hh _
  | succ m ih =>
    intro B hl hs hB h
    obtain ⟨A', y, rfl⟩ : ∃ A' y, A = A' ++ [y] := by
      rcases List.eq_nil_or_concat A with e | ⟨A', y, e⟩
      · subst e; simp at hm
      · exact ⟨A', y, by rw [e, List.concat_eq_append]⟩
    have hm' : A'.length = m := by simpa using hm
    rw [hm]
    have eL : A' ++ [y] ++ x :: B ++ C = A' ++ y :: x :: (B ++ C) := by simp
    have hlen : (A' ++ y :: x :: (B ++ C)).length = n := by simp at hl ⊢; omega
    have hx : (A' ++ y :: x :: (B ++ C))[m + 1]'(by simp; omega) = x := by
      rw [List.getElem_append_right (by omega)]
      simp [hm']
    have hy : (A' ++ y :: x :: (B ++ C))[m]'(by simp; omega) = y := by
      rw [List.getElem_append_right (by omega)]
      simp [hm']
    have hset : ((A' ++ y :: x :: (B ++ C)).set (m + 1) y).set m x = A' ++ x :: (y :: B) ++ C := by
      rw [List.set_append_right _ _ (by omega), List.set_append_right _ _ (by omega)]
      simp [hm']
    have hr1 := prs_part (L := A' ++ y :: x :: (B ++ C)) (i := m + 1) (by omega)
    have hr2 := prs_part (L := A' ++ y :: x :: (B ++ C)) (i := m) (by omega)
    rw [hx] at hr1
    rw [hy] at hr2
    have hs1 := prs_set (L := A' ++ y :: x :: (B ++ C)) (i := m + 1) (p := y) (by omega)
    have hs2 := prs_set (L := (A' ++ y :: x :: (B ++ C)).set (m + 1) y) (i := m) (p := x) (by rw [List.length_set]; omega)
    rw [hset] at hs2
    have hw : IntKind.i64.wrap (((m + 1 : Nat) : Int) - 1) = ((m : Nat) : Int) := by rw [Go.IntWalk.i64_in _ (by omega)]; omega
    have hpl := prs_length (l := A' ++ y :: x :: (B ++ C))
    rw [hlen] at hpl
    have hpl2 := prs_length (l := (A' ++ y :: x :: (B ++ C)).set (m + 1) y)
    rw [List.length_set, hlen] at hpl2
    have hsA : srt (A' ++ (y :: B)) := by simpa using hs
    have hgo := fun (hyx : ltZ x y) => ih A' hm' (y :: B) (by simp at hl ⊢; omega) hsA (fun b hb => by
      rcases List.mem_cons.1 hb with rfl | hb
      · exact hyx
      · exact hB b hb) (fun S hS => h S (hS.trans (by simpa using (List.Perm.append_left A' (List.Perm.swap y x B)))))
    rw [hm'] at hgo
    have hstop : ¬ ltZ x y → srt (A' ++ [y] ++ x :: B) := fun hno => by
      unfold srt at hs ⊢
      rw [List.pairwise_append] at hs ⊢
      obtain ⟨s1, s2, s3⟩ := hs
      refine ⟨s1, List.pairwise_cons.2 ⟨fun b hb hlt => ltZ.asymm hlt (hB b hb), s2⟩, fun a ha b hb => ?_⟩
      rcases List.mem_cons.1 hb with rfl | hb
      · rcases List.mem_append.1 ha with ha | ha
        · rw [List.pairwise_append] at s1
          exact ltZ.le (s1.2.2 a ha y (by simp)) hno
        · rw [List.mem_singleton.1 ha]; exact hno
      · exact s3 a ha b hb
    rw [eL]
    have hg : (H0.set id (.row ver (prs (A' ++ y :: x :: (B ++ C))) 0 ex))[id]? = some (.row ver (prs (A' ++ y :: x :: (B ++ C))) 0 ex) := List.getElem?_set_self hid
    have hset2 : ∀ b c : Blk, (H0.set id b).set id c = H0.set id c := fun b c => by rw [List.set_set]
    have hfin := fun hno v => h _ (List.Perm.refl _) (hstop hno) v
    rw [eL] at hfin
    rw [← hs2, ← hs1] at hgo
    clear hx hy hset hs2 hs1 hpl2 eL
    generalize A' ++ y :: x :: (B ++ C) = L at *
    have i1 : m + 1 < n := by simp at hl; omega
    have i2 : m < n := by omega
    have hA1 : aload (H0.set id (.row ver (prs L) 0 ex)) ⟨true, 2⟩ (.ptr id ver ((m + 1) * 2)) = some (.agg (zc x)) := by rw [aload_ptr hg, Nat.mul_comm]; exact hr1
    have hA2 : aload (H0.set id (.row ver (prs L) 0 ex)) ⟨true, 2⟩ (.ptr id ver (m * 2)) = some (.agg (zc y)) := by rw [aload_ptr hg, Nat.mul_comm]; exact hr2
    have c1 : (m + 1) * 2 + 2 ≤ (prs L).length := by omega
    have c2 : m * 2 + 2 ≤ (prs L).length := by omega
    have hl0 : (H0.set id (.row ver (prs L) 0 ex)).length = H0.length := by simp
    rw [Nat.mul_comm 2 (m + 1), Nat.mul_comm 2 m] at hgo
    have hbl : bar ≤ H0.length := by omega
    have hj0 : 0 < m + 1 := by omega
    clear hr1 hr2 hl hpl hlen
    generalize m + 1 = j at *
    rw [wp_round c120_l0.eq_1]
    simp [go_sem, i1, i2, hw, hA1, hA2, hj0]
    refine k95 (p := x) (q := y) (by rw [hl0]; exact hbl) ?_
    by_cases hlt : ltZ x y
    · have hc := cmp_lt.2 hlt
      have hh := hgo hlt
      generalize cmpV [x.1, x.2] [y.1, y.2] = z at *
      simp [go_sem, hc, i1, i2, hw, hA1, hA2]
      rw [storeWp_ptr (size := 2) hg rfl rfl (by omega) (by omega) hb (.inr (zc_tops _)), hset2]
      have hg2 : (H0.set id (.row ver (setCells (prs L) (j * 2) (zc y)) 0 ex))[id]? = some (.row ver (setCells (prs L) (j * 2) (zc y)) 0 ex) := List.getElem?_set_self hid
      have hcl : (AV.agg (zc y)).cells = zc y := rfl
      have hcx : (AV.agg (zc x)).cells = zc x := rfl
      rw [hcl]
      simp [go_sem, i1, i2, hw]
      rw [storeWp_ptr (size := 2) hg2 rfl rfl (by omega) (by rw [setCells_length]; omega) hb (.inr (zc_tops _)), hset2, hcx]
      simp [go_sem, hw]
      exact hh
    · have hc : ¬ cmpV [x.1, x.2] [y.1, y.2] < 0 := fun e => hlt (cmp_lt.1 e)
      generalize cmpV [x.1, x.2] [y.1, y.2] = z at *
      simp [go_sem, hc]
      exact hfin hlt _
theorem l120b {id ver n : Nat} {ex : Bool} {L0 : List ZZ} {H0 : Heap} (hid : id < H0.length) (hb : bar ≤ id) (hn : n < 1000) {R : PQ} 
    (h : ∀ S : List ZZ, S.Perm L0 → srt S → R (.exit 0) [(0, .vec id ver 0 n 2), (1, .int .i64 0), (2, .int .i64 (n : Nat)), (3, .fn 95 [] []), (8, .int .i64 (n : Nat)), (14, .bool false)] (H0.set id (.row ver (prs S) 0 ex))) :
    ∀ (k i : Nat) (L : List ZZ), i + k = n → 1 ≤ i → L.Perm L0 → L.length = n → srt (L.take i) →
    Wp E base bar (.loop c120_l1) [(0, .vec id ver 0 n 2), (1, .int .i64 0), (2, .int .i64 (n : Nat)), (3, .fn 95 [] []), (8, .int .i64 (i : Nat))] (H0.set id (.row ver (prs L) 0 ex)) R := by
  intro k
  induction k with
  | zero =>
    intro i L hi h1 hp hl hs
    obtain rfl : i = n := by omega
    rw [List.take_of_length_le (by omega)] at hs
    rw [wp_round c120_l1.eq_1]
    simp [go_sem]
    exact h L hp hs
  | succ k ih =>
    intro i L hi h1 hp hl hs
    have hlt : i < L.length := by omega
    have hin : i < n := by omega
    have e1 : L.take i ++ L[i] :: [] ++ L.drop (i + 1) = L := by
      rw [List.append_assoc, List.cons_append, List.nil_append, ← List.drop_eq_getElem_cons hlt, List.take_append_drop]
    have htl : (L.take i).length = i := by rw [List.length_take]; omega
    have hw := i64s (show i < 1000000 by omega)
    rw [wp_round c120_l1.eq_1]
    simp [go_sem, hin]
    have hin' := fun (R : PQ) => l120a (base := base) (bar := bar) (ver := ver) (n := n) (i := i) (ex := ex) (x := L[i]) (C := L.drop (i + 1)) hid hb hn (R := R) (L.take i) [] (by simp; omega) (by simpa using hs) (by simp)
    rw [e1, htl] at hin'
    refine hin' _ fun S hS hsS v => ?_
    simp [go_sem, hw]
    have hSl : S.length = i + 1 := by rw [hS.length_eq]; simp; omega
    refine ih (i + 1) _ (by omega) (by omega) ?_ ?_ ?_
    · refine ((List.Perm.append_right _ hS).trans ?_).trans hp
      rw [e1]
    · rw [List.length_append, hSl, List.length_drop]; omega
    · rw [List.take_append_of_le_length (by omega), List.take_of_length_le (by omega)]; exact hsS
theorem k120 {id ver n : Nat} {ex : Bool} {L : List ZZ} (h : H[id]? = some (.row ver (prs L) 0 ex)) (hl : L.length = n) (h1 : 1 ≤ n) (hn : n < 1000) (hb : bar ≤ id) 
    (k : ∀ S : List ZZ, S.Perm L → srt S → Q (.tup []) (H.set id (.row ver (prs S) 0 ex))) : WpCall E false base bar 120 [.vec id ver 0 n 2, .int .i64 0, .int .i64 (n : Nat), .fn 95 [] []] H Q := by
  have hid := (List.getElem?_eq_some_iff.1 h).1
  rw [call120]
  have hw : IntKind.i64.wrap 1 = ((1 : Nat) : Int) := rfl
  simp [go_sem, WpFun, c120, hw]
  have hset : H.set id (.row ver (prs L) 0 ex) = H := set_same h
  have := fun (R : PQ) hR => l120b (base := H.length) (bar := bar) (ver := ver) (n := n) (ex := ex) (L0 := L) hid hb hn (R := R) hR (n - 1) 1 L (by omega) (by omega) (List.Perm.refl _) hl (by
    obtain _ | ⟨p, L⟩ := L
    · simp at hl; omega
    · simp [srt])
  rw [hset] at this
  refine this _ fun S hS hsS => ?_
  simp [go_sem]
  rw [show (H.set id (.row ver (prs S) 0 ex)).take H.length = H.set id (.row ver (prs S) 0 ex) by rw [List.take_of_length_le (by simp)]]
  exact k S hS hsS
theorem bytesOf_size {l : List Nat} : (bytesOf l).size = l.length := by unfold bytesOf; simp [ByteArray.size]
set_option maxRecDepth 4000 in
theorem c129_size : c129_b0.size = 256 := by
  unfold c129_b0
  rw [bytesOf_size]
  rfl
theorem k129 {n : Nat} (hn : n ≤ 12) (h : ∀ r : Int, Q (.int .i64 r) H) : WpCall E pure base bar 129 [.int .u64 (n : Nat)] H Q := by
  rw [call129]
  have e0 : frzAll bar H [.int .u64 (n : Nat)] = some ([.int .u64 (n : Nat)], H) := rfl
  rw [e0]
  have hw : IntKind.u8.wrap ((n : Nat) : Int) = ((n : Nat) : Int) := by rw [show IntKind.u8.wrap ((n : Nat) : Int) = (n : Int) from Go.IntWalk.u8_in _ (by omega)]
  have hb : n < c129_b0.size := by rw [c129_size]; omega
  obtain ⟨b, hb⟩ : ∃ b, c129_b0[n]? = some b := ⟨_, getElem?_pos c129_b0 n hb⟩
  unfold c129
  generalize c129_b0 = B at *
  simp [go_sem, WpFun, hw, show ¬ (4294967296 : Int) ≤ (n : Int) by omega, show ¬ (65536 : Int) ≤ (n : Int) by omega, show ¬ (256 : Int) ≤ (n : Int) by omega]
  simp [go_sem, aop, Opd.ev, AV.asNat, hb]
  exact h _
theorem k102 {n : Nat} (hn : n ≤ 12) (h : ∀ r : Int, Q (.int .i64 r) H) : WpCall E pure base bar 102 [.int .u64 (n : Nat)] H Q := by
  rw [call102]
  have e0 : frzAll bar H [.int .u64 (n : Nat)] = some ([.int .u64 (n : Nat)], H) := rfl
  rw [e0]
  simp [go_sem, WpFun, c102]
  refine k129 hn fun r => ?_
  simp [go_sem]
  exact h r
theorem k101 {id ver n : Nat} {ex : Bool} {L : List ZZ} {r : Int} (h : H[id]? = some (.row ver (prs L) 0 ex)) (hl : L.length = n) (h1 : 1 ≤ n) (hn : n ≤ 12) (hb : bar ≤ id) 
    (k : ∀ S : List ZZ, S.Perm L → srt S → Q (.tup []) (H.set id (.row ver (prs S) 0 ex))) : WpCall E false base bar 101 [.vec id ver 0 n 2, .int .i64 0, .int .i64 (n : Nat), .int .i64 r, .fn 95 [] []] H Q := by
  rw [call101]
  have hw : IntKind.i64.wrap ((n : Nat) : Int) = (n : Nat) := Go.IntWalk.i64_in _ (by omega)
  simp [go_sem, WpFun, c101]
  rw [wp_round c101_l0.eq_1]
  simp [go_sem, hw, show (n : Int) ≤ 12 by omega]
  refine k120 h hl h1 (by omega) hb fun S hS hsS => ?_
  simp [go_sem]
  rw [show (H.set id (.row ver (prs S) 0 ex)).take H.length = H.set id (.row ver (prs S) 0 ex) by rw [List.take_of_length_le (by simp)]]
  exact k S hS hsS
theorem k53 {id ver n : Nat} {ex : Bool} {L : List ZZ} (h : H[id]? = some (.row ver (prs L) 0 ex)) (hl : L.length = n) (h1 : 1 ≤ n) (hn : n ≤ 12) (hb : bar ≤ id) 
    (k : ∀ S : List ZZ, S.Perm L → srt S → Q (.tup []) (H.set id (.row ver (prs S) 0 ex))) : WpCall E false base bar 53 [.vec id ver 0 n 2, .fn 95 [] []] H Q := by
  rw [call53]
  have hw : IntKind.u64.wrap ((n : Nat) : Int) = ((n : Nat) : Int) := by rw [show IntKind.u64.wrap ((n : Nat) : Int) = (n : Int) from Go.IntWalk.u64_in _ (by omega)]
  simp [go_sem, WpFun, c53, hw]
  refine k102 hn fun r => ?_
  simp [go_sem]
  refine k101 h hl h1 (by omega) hb fun S hS hsS => ?_
  simp [go_sem]
  rw [show (H.set id (.row ver (prs S) 0 ex)).take H.length = H.set id (.row ver (prs S) 0 ex) by rw [List.take_of_length_le (by simp)]]
  exact k S hS hsS
theorem k53n (k : Q (.tup []) H) : WpCall E false base bar 53 [.nils, .fn 95 [] []] H Q := by
  rw [call53]
  simp [go_sem, WpFun, c53]
  refine k102 (n := 0) (by omega) fun r => ?_
  simp [go_sem]
  rw [call101]
  simp [go_sem, WpFun, c101]
  rw [wp_round c101_l0.eq_1]
  simp [go_sem]
  rw [call120]
  simp [go_sem, WpFun, c120]
  rw [wp_round c120_l1.eq_1]
  simp [go_sem]
  exact k
end Go.Proofs.YtihdlpeghlhnoaaGreatDoor.Code
end

section
namespace Go.Proofs.YtihdlpeghlhnoaaGreatDoor.Code
open Go Go.Ab
open Go.Proofs.Pt hiding ZZ
variable {pure : Bool} {base bar : Nat} {H : Heap} {Q : AV → Heap → Prop} {K : AV → Heap → List Nat → Prop}
attribute [local go_sem] AV.isTup AV.cells
/-- a list of points of one's own, perhaps with room behind it -/
def OwnS (k : Nat) (l : List ZZ) (v : AV) (H : Heap) : Prop :=
  (l = [] ∧ v = .nils) ∨ ∃ id ver cs, l ≠ [] ∧ k ≤ id ∧ v = .vec id ver 0 l.length 2 ∧ H[id]? = some (.row ver cs 0 false) ∧ 2 * l.length ≤ cs.length ∧ cs.take (2 * l.length) = prs l
theorem OwnS.lt {k j : Nat} {l : List ZZ} {v : AV} (g : OwnS k l v H) (h : idOf v = some j) : k ≤ j ∧ j < H.length := by
  rcases g with ⟨_, rfl⟩ | ⟨id, ver, cs, _, hk, rfl, hg, _⟩
  · cases h
  · cases h; exact ⟨hk, (List.getElem?_eq_some_iff.1 hg).1⟩
theorem OwnS.mono {k : Nat} {l : List ZZ} {v : AV} {H' : Heap} (g : OwnS k l v H) (h : ∀ j, idOf v = some j → H'[j]? = H[j]?) : OwnS k l v H' := by
  rcases g with ⟨a, b⟩ | ⟨id, ver, cs, h0, hk, rfl, hg, h1, h2⟩
  · exact .inl ⟨a, b⟩
  · exact .inr ⟨id, ver, cs, h0, hk, rfl, by rw [h id rfl, hg], h1, h2⟩
theorem OwnS.slot {k : Nat} {l : List ZZ} {v : AV} (g : OwnS k l v H) : v.isTup = false ∧ v.cells = [v] := by
  rcases g with ⟨_, rfl⟩ | ⟨id, ver, cs, _, _, rfl, _⟩ <;> exact ⟨rfl, rfl⟩
theorem own_part {cs : List AV} {l : List ZZ} {i : Nat} (h1 : 2 * l.length ≤ cs.length) (h2 : cs.take (2 * l.length) = prs l) (hi : i < l.length) : Ab.part ⟨true, 2⟩ cs (i * 2) = some (.agg (zc l[i])) := by
  have h := prs_part (L := l) hi
  have e : ((prs l).drop (2 * i)).take 2 = (cs.drop (2 * i)).take 2 := by
    rw [← h2, List.drop_take, List.take_take, Nat.min_eq_left (by omega)]
  have hl := prs_length (l := l)
  have c1 : 2 * i + 2 ≤ (prs l).length := by omega
  have c2 : i * 2 + 2 ≤ cs.length := by omega
  simp only [Ab.part, if_true, c1, c2] at h ⊢
  rw [e] at h
  rw [Nat.mul_comm i 2]; exact h
theorem OwnS.slice {k id ver : Nat} {l : List ZZ} {p : ZZ} (g : OwnS k (l ++ [p]) (.vec id ver 0 (l.length + 1) 2) H) (hl : l ≠ []) : aslice H (.slc 2) (.vec id ver 0 (l.length + 1) 2) none (some (.int .i64 (l.length : Int))) none = some (.vec id ver 0 l.length 2) ∧ OwnS k l (.vec id ver 0 l.length 2) H := by
  rcases g with ⟨e, _⟩ | ⟨id', ver', cs, h0, hk, hv, hg, h1, h2⟩
  · simp at e
  · simp only [AV.vec.injEq, List.length_append, List.length_singleton, and_true, true_and] at hv
    obtain ⟨rfl, rfl⟩ := hv
    simp only [List.length_append, List.length_singleton] at h1 h2
    constructor
    · have hle : l.length ≤ cs.length / 2 := by omega
      simp [aslice, hg, optBound, bound1, AV.asNat, hle]
    · refine .inr ⟨id, ver, cs, hl, hk, rfl, hg, by omega, ?_⟩
      have := congrArg (List.take (2 * l.length)) h2
      rw [List.take_take, Nat.min_eq_left (by omega), prs_append, List.take_append_of_le_length (by rw [prs_length]; omega)] at this
      rw [this, List.take_of_length_le (by rw [prs_length]; omega)]
theorem setCells_two {cs : List AV} {o : Nat} {a b : AV} (h : o + 2 ≤ cs.length) : (setCells cs o [a, b]).take (o + 2) = cs.take o ++ [a, b] := by
  simp only [setCells]
  apply List.ext_getElem?
  intro i
  rw [List.getElem?_take]
  by_cases hi : i < o
  · rw [if_pos (by omega), List.getElem?_set_ne (by omega), List.getElem?_set_ne (by omega), List.getElem?_append_left (by rw [List.length_take]; omega), List.getElem?_take, if_pos hi]
  · rw [List.getElem?_append_right (by rw [List.length_take]; omega), List.length_take, Nat.min_eq_left (by omega)]
    by_cases h0 : i = o
    · subst h0
      rw [if_pos (by omega), List.getElem?_set_ne (by omega), List.getElem?_set_self (by omega)]; simp
    · by_cases h1 : i = o + 1
      · subst h1
        rw [if_pos (by omega), List.getElem?_set_self (by rw [List.length_set]; omega)]; simp
      · rw [if_neg (by omega), List.getElem?_eq_none (by simp; omega)]
theorem OwnS.pair {k : Nat} {l : List ZZ} {v : AV} {ex : Bool} {p : ZZ} (g : OwnS k l v H) (hk : k ≤ H.length) (hb : bar ≤ k) (hbase : base ≤ k) (hlen : l.length < 100000)
    (h : ∀ v' H' tc, OwnS k (l ++ [p]) v' H' → H.length ≤ H'.length → (∀ j, j < H.length → idOf v ≠ some j → H'[j]? = H[j]?) → K v' H' tc) : appWp base bar 2 16 (some v) (some (.lst 2 ex [.agg [.int .i64 p.1, .int .i64 p.2]])) H K := by
  have hz : frzAll bar H [AV.int .i64 p.1, AV.int .i64 p.2] = some ([AV.int .i64 p.1, AV.int .i64 p.2], H) := rfl
  rcases g with ⟨rfl, rfl⟩ | ⟨id, ver, cs, h0, hki, rfl, hg, h1, h2⟩
  · have := h (.vec H.length 0 0 1 2) (H ++ [.row 0 [AV.int .i64 p.1, AV.int .i64 p.2] 0 false]) [] (.inr ⟨H.length, 0, [AV.int .i64 p.1, AV.int .i64 p.2], by simp, hk, rfl, by simp, by simp, by simp [prs, zc]⟩) (by simp) (fun j hj _ => List.getElem?_append_left hj)
    simp [appWp, asrc_lst, AV.cells, hz, aappend, AV.noVec.noVecs, AV.noVec]
    exact this
  · have hid := (List.getElem?_eq_some_iff.1 hg).1
    have hsame : ∀ b : Blk, ∀ j, j < H.length → idOf (AV.vec id ver 0 l.length 2) ≠ some j → (H.set id b)[j]? = H[j]? := fun b j _ hne => List.getElem?_set_ne (fun e => hne (by rw [← e]; rfl))
    have c0 : ¬ cs.length < l.length * 2 := by omega
    have c1 : ¬ 140737488355328 < (l.length + 1) * 16 := by omega
    by_cases hcap : (l.length + 1) * 2 ≤ cs.length
    · have h2' : (setCells cs (l.length * 2) [AV.int .i64 p.1, AV.int .i64 p.2]).take (2 * (l ++ [p]).length) = prs (l ++ [p]) := by
        rw [show 2 * (l ++ [p]).length = l.length * 2 + 2 by simp; omega, setCells_two (by omega), Nat.mul_comm l.length 2, h2, prs_append]; rfl
      have := h (.vec id ver 0 (l.length + 1) 2) (H.set id (.row ver (setCells cs (l.length * 2) [AV.int .i64 p.1, AV.int .i64 p.2]) 0 false)) [id]
        (.inr ⟨id, ver, _, by simp, hki, by simp, List.getElem?_set_self hid, by rw [setCells_length]; simp; omega, h2'⟩) (by simp) (hsame _)
      simp [appWp, asrc_lst, AV.cells, hz, aappend, AV.noVec.noVecs, AV.noVec, hg, c0, c1, hcap, show bar ≤ id by omega, show base ≤ id by omega]
      exact this
    · have h2' : (cs.take (l.length * 2) ++ [AV.int .i64 p.1, AV.int .i64 p.2]).take (2 * (l ++ [p]).length) = prs (l ++ [p]) := by
        rw [Nat.mul_comm l.length 2, h2, List.take_of_length_le (by simp [prs_length]; omega), prs_append]; rfl
      have := h (.vec id (ver + 1) 0 (l.length + 1) 2) (H.set id (.row (ver + 1) (cs.take (l.length * 2) ++ [AV.int .i64 p.1, AV.int .i64 p.2]) 0 false)) [id]
        (.inr ⟨id, ver + 1, _, by simp, hki, by simp, List.getElem?_set_self hid, by simp; omega, h2'⟩) (by simp) (hsame _)
      simp [appWp, asrc_lst, AV.cells, hz, aappend, AV.noVec.noVecs, AV.noVec, hg, c0, c1, hcap, show bar ≤ id by omega, show base ≤ id by omega]
      exact this
end Go.Proofs.YtihdlpeghlhnoaaGreatDoor.Code
end

section
namespace Go.Proofs.YtihdlpeghlhnoaaGreatDoor.Code
open Go Go.Ab
open Go.Proofs.Pt hiding ZZ
variable {pure : Bool} {base bar : Nat} {H : Heap} {Q : AV → Heap → Prop} {K : AV → Heap → List Nat → Prop}
attribute [local go_sem] AV.isTup AV.cells
theorem OwnS.len {k : Nat} {l : List ZZ} {v : AV} (g : OwnS k l v H) : ∀ (H : Heap) (K : AV → Heap → List Nat → Prop), lenWp (some v) H K = K (.int .i64 (l.length : Int)) H [] := fun H K => by
  rcases g with ⟨rfl, rfl⟩ | ⟨id, ver, cs, _, _, rfl, _⟩ <;> simp [go_sem]
theorem popS_len {p : ZZ} : ∀ {st : List ZZ}, (popS st p).length ≤ st.length
  | [] => Nat.le_refl _
  | [b] => Nat.le_refl _
  | b :: a :: r => by
    rw [popS]
    split
    · exact Nat.le_trans popS_len (by simp)
    · exact Nat.le_refl _
theorem popS_mem {p x : ZZ} : ∀ {st : List ZZ}, x ∈ popS st p → x ∈ st
  | [], h => h
  | [b], h => h
  | b :: a :: r, h => by
    rw [popS] at h
    split at h
    · have := popS_mem h; simp at this ⊢; rcases this with h | h <;> simp [h]
    · exact h
theorem l96a {R : PQ} {k pid : Nat} {arg : AV} {n i : Int} {p : ZZ} (hk : k ≤ H.length) (hb : bar ≤ H.length) (hp : GP p) (hpid : H[pid]? = some (.row 0 [.int .i64 p.1, .int .i64 p.2] 0 true)) : ∀ (m : Nat) (l : List ZZ) (v : AV), l.length = m → m < 1000 → OwnS k l v H → (∀ x ∈ l, GP x) →
    (∀ v', OwnS k (popS l.reverse p).reverse v' H → R (.exit 2) [(3, v'), (7, arg), (8, .int .i64 n), (9, .int .i64 i), (5, .ptr pid 0 0), (6, .int .i64 ((popS l.reverse p).length : Int)), (38, .bool false)] H) →
    Wp E base bar (.loop c96_l0) [(3, v), (7, arg), (8, .int .i64 n), (9, .int .i64 i), (5, .ptr pid 0 0), (6, .int .i64 (m : Int))] H R := by
  intro m
  induction m with
  | zero =>
    intro l v hl _ g _ h
    obtain rfl : l = [] := List.length_eq_zero_iff.1 hl
    obtain ⟨s1, s2⟩ := g.slot
    rw [wp_round c96_l0.eq_1]
    simp [go_sem, s1, s2]
    exact h v g
  | succ m ih =>
    intro l v hl hm g hgp h
    obtain ⟨l1, b, rfl⟩ : ∃ l1 b, l = l1 ++ [b] := by
      rcases List.eq_nil_or_concat l with e | ⟨A', y, e⟩
      · subst e; simp at hl
      · exact ⟨A', y, by rw [e, List.concat_eq_append]⟩
    have hl1 : l1.length = m := by simpa using hl
    cases m with
    | zero =>
      obtain rfl : l1 = [] := List.length_eq_zero_iff.1 hl1
      obtain ⟨s1, s2⟩ := g.slot
      rw [wp_round c96_l0.eq_1]
      simp [go_sem, s1, s2]
      exact h v (by simpa [popS] using g)
    | succ m =>
      obtain ⟨l2, a, rfl⟩ : ∃ l2 a, l1 = l2 ++ [a] := by
        rcases List.eq_nil_or_concat l1 with e | ⟨A', y, e⟩
        · subst e; simp at hl1
        · exact ⟨A', y, by rw [e, List.concat_eq_append]⟩
      have hl2 : l2.length = m := by simpa using hl1
      rcases g with ⟨e, _⟩ | ⟨id, ver, cs, h0, hki, rfl, hg, q1, q2⟩
      · simp at e
      have gg : OwnS k (l2 ++ [a] ++ [b]) (.vec id ver 0 ((l2 ++ [a]).length + 1) 2) H := .inr ⟨id, ver, cs, h0, hki, by simp, hg, q1, q2⟩
      obtain ⟨sl1, sl2⟩ := gg.slice (by simp)
      have pb := own_part (i := m + 1) q1 q2 (by simp; omega)
      have pa := own_part (i := m) q1 q2 (by simp; omega)
      have eb : (l2 ++ [a] ++ [b])[m + 1]'(by simp; omega) = b := by
        rw [List.getElem_append_right (by simp; omega)]; simp
      have ea : (l2 ++ [a] ++ [b])[m]'(by simp; omega) = a := by
        rw [List.getElem_append_left (by simp; omega), List.getElem_append_right (by omega)]; simp
      rw [eb] at pb
      rw [ea] at pa
      have ab : aload H ⟨true, 2⟩ (.ptr id ver ((m + 1) * 2)) = some (.agg [.int .i64 b.1, .int .i64 b.2]) := by rw [aload_ptr hg]; exact pb
      have aa : aload H ⟨true, 2⟩ (.ptr id ver (m * 2)) = some (.agg [.int .i64 a.1, .int .i64 a.2]) := by rw [aload_ptr hg]; exact pa
      have ap : aload H ⟨true, 2⟩ (.ptr pid 0 0) = some (.agg [.int .i64 p.1, .int .i64 p.2]) := by rw [aload_ptr hpid]; rfl
      have w1 : IntKind.i64.wrap (((m + 1 + 1 : Nat) : Int) - 1) = ((m + 1 : Nat) : Int) := by rw [i64_bd ⟨by omega, by omega⟩]; omega
      have w2 : IntKind.i64.wrap (((m + 1 + 1 : Nat) : Int) - 2) = ((m : Nat) : Int) := by rw [i64_bd ⟨by omega, by omega⟩]; omega
      have ga := hgp a (by simp)
      have gb := hgp b (by simp)
      have x1 := k104s gb.bp ga.bp
      have x2 := k104s hp.bp gb.bp
      have y1 := k105s (sub_bd gb ga) (sub_bd hp gb)
      simp only [subP] at y1
      have hll : (l2 ++ [a] ++ [b]).length = m + 1 + 1 := by simp; omega
      have hll' : (l2 ++ [a]).length = m + 1 := by simp; omega
      rw [hll] at *
      rw [hll'] at sl1 sl2
      have j1 : m + 1 < m + 1 + 1 := by omega
      have j2 : m < m + 1 + 1 := by omega
      have j3 : (1 : Int) < ((m + 1 + 1 : Nat) : Int) := by omega
      have ihh := ih (l2 ++ [a]) (.vec id ver 0 (m + 1) 2) hl1 (by omega) sl2 (fun x hx => hgp x (by simp at hx ⊢; rcases hx with hx | hx <;> simp [hx]))
      clear ea eb pa pb gg
      generalize hM : m + 1 + 1 = M at *
      generalize hM1 : m + 1 = M1 at *
      rw [wp_round c96_l0.eq_1]
      simp [go_sem, j3, w1, w2, j1, j2, ab, aa, ap, x1, x2, y1, hb, AV.noVec.noVecs, AV.noVec, clearOf]
      have hrev : (l2 ++ [a] ++ [b]).reverse = b :: a :: l2.reverse := by simp
      have hrev' : (l2 ++ [a]).reverse = a :: l2.reverse := by simp
      rw [hrev] at h
      rw [hrev'] at ihh
      by_cases hc : tmP (b.1 - a.1, b.2 - a.2) (p.1 - b.1, p.2 - b.2) ≤ 0
      · have hpop : popS (b :: a :: l2.reverse) p = popS (a :: l2.reverse) p := by
          have hc' : tmP (subP b a) (subP p b) ≤ 0 := hc
          rw [popS, if_pos hc']
        rw [hpop] at h
        rw [if_pos hc]
        simp [go_sem, aop, Opd.evo, sl1]
        exact ihh h
      · have hpop : popS (b :: a :: l2.reverse) p = b :: a :: l2.reverse := by
          have hc' : ¬ tmP (subP b a) (subP p b) ≤ 0 := hc
          rw [popS, if_neg hc']
        rw [hpop] at h
        rw [if_neg hc]
        have hlen2 : (b :: a :: l2.reverse).length = M := by simp; omega
        have hMl : (l2 ++ [a] ++ [b]).length = M := by simp; omega
        rw [hMl] at q1 q2
        have hq := h (.vec id ver 0 M 2) (.inr ⟨id, ver, cs, by simp, hki, by rw [List.length_reverse, hlen2], hg, by rw [List.length_reverse, hlen2]; exact q1, by
          rw [List.length_reverse, hlen2, show (b :: a :: l2.reverse).reverse = l2 ++ [a] ++ [b] by simp]; exact q2⟩)
        rw [hlen2] at hq
        simpa [hc] using hq
/-- the chain of points -/
def runC (L : List ZZ) (i d : Nat) (st : List ZZ) : List ZZ := chainG st ((L.drop i).take d)
theorem l96b {R : PQ} {k id0 ver0 n : Nat} {ex : Bool} {L : List ZZ} (hl : L.length = n) (hn : n < 900) (hgp : ∀ p ∈ L, GP p) (hb : bar ≤ k) : ∀ (d i : Nat), i + d = n → ∀ (st : List ZZ) (v : AV) (H : Heap), OwnS k st.reverse v H → (∀ p ∈ st, p ∈ L) → st.length ≤ i → k ≤ H.length → id0 < k → H[id0]? = some (.row ver0 (prs L) 0 ex) →
    (∀ v' H', OwnS k (chainG st (L.drop i)).reverse v' H' → H.length ≤ H'.length → (∀ j, j < k → H'[j]? = H[j]?) → R (.exit 0) [(3, v'), (7, .vec id0 ver0 0 n 2), (8, .int .i64 (n : Int)), (9, .int .i64 (n : Int)), (10, .bool false)] H') →
    Wp E k bar (.loop c96_l1) [(3, v), (7, .vec id0 ver0 0 n 2), (8, .int .i64 (n : Int)), (9, .int .i64 (i : Int))] H R := by
  intro d
  induction d with
  | zero =>
    intro i hi st v H g _ _ _ _ _ h
    obtain rfl : i = n := by omega
    obtain ⟨s1, s2⟩ := g.slot
    rw [wp_round c96_l1.eq_1]
    simp [go_sem, s1, s2]
    refine h v H ?_ (Nat.le_refl _) (fun _ _ => rfl)
    rw [List.drop_of_length_le (by omega)]; exact g
  | succ d ih =>
    intro i hi st v H g hst hsl hk hid h0 h
    have hin : i < n := by omega
    have hiL : i < L.length := by omega
    obtain ⟨s1, s2⟩ := g.slot
    have hp0 := prs_part (L := L) hiL
    have hA : aload H ⟨true, 2⟩ (.ptr id0 ver0 (i * 2)) = some (.agg [.int .i64 L[i].1, .int .i64 L[i].2]) := by
      rw [aload_ptr h0, Nat.mul_comm i 2]; exact hp0
    have hd : L.drop i = L[i] :: L.drop (i + 1) := List.drop_eq_getElem_cons hiL
    have hgi := hgp L[i] (List.getElem_mem hiL)
    have e1 := i64s (i := i) (by omega)
    have hbl : bar ≤ H.length := by omega
    generalize hpe : L[i] = p at *
    rw [wp_round c96_l1.eq_1]
    have hpid : (H ++ [Blk.row 0 [AV.int .i64 p.1, AV.int .i64 p.2] 0 true])[H.length]? = some (.row 0 [.int .i64 p.1, .int .i64 p.2] 0 true) := by simp
    have g1 : OwnS k st.reverse v (H ++ [Blk.row 0 [AV.int .i64 p.1, AV.int .i64 p.2] 0 true]) := g.mono fun j hj => List.getElem?_append_left (g.lt hj).2
    have hln := g1.len
    rw [List.length_reverse] at hln
    simp [go_sem, hin, hA, astore, storeWp, setCells, hbl, s1, s2, hln]
    refine l96a (k := k) (p := p) (pid := H.length) (by simp; omega) (by simp; omega) hgi hpid st.length st.reverse v (by simp) (by omega) g1 (fun x hx => hgp x (hst x (by simpa using hx))) fun v1 g2 => ?_
    rw [List.reverse_reverse] at g2 ⊢
    obtain ⟨t1, t2⟩ := g2.slot
    have hpl := popS_len (p := p) (st := st)
    simp [go_sem, t1, t2, aload_ptr hpid, Ab.part, aop, fillA, setCells, chunks, AV.noVec.noVecs, AV.noVec]
    refine OwnS.pair (k := k) (p := p) g2 (by simp; omega) hb (Nat.le_refl _) (by simp; omega) fun v2 H2 tc g3 hlen hsm => ?_
    obtain ⟨r1, r2⟩ := g3.slot
    have e2 : (popS st p).reverse ++ [p] = (p :: popS st p).reverse := by simp
    rw [e2] at g3
    have hch : chainG st (L.drop i) = chainG (p :: popS st p) (L.drop (i + 1)) := by rw [hd]; rfl
    rw [hch] at h
    have hlen1 : H.length + 1 ≤ H2.length := by simpa using hlen
    have hs2 : ∀ j, j < k → H2[j]? = H[j]? := fun j hj => by
      rw [hsm j (by simp; omega) (fun e => by have := (g2.lt e).1; omega), List.getElem?_append_left (by omega)]
    simp [go_sem, r1, r2, e1]
    refine ih (i + 1) (by omega) (p :: popS st p) v2 H2 g3 (fun x hx => ?_) (by simp; omega) (by omega) hid (by rw [hs2 id0 hid]; exact h0) fun v' H' g4 hl4 hs4 => h v' H' g4 (by omega) (fun j hj => by rw [hs4 j hj, hs2 j hj])
    rcases List.mem_cons.1 hx with rfl | hx
    · rw [← hpe]; exact List.getElem_mem hiL
    · exact hst x (popS_mem hx)
theorem k96 {id0 ver0 n : Nat} {ex : Bool} {L : List ZZ} (h : H[id0]? = some (.row ver0 (prs L) 0 ex)) (hl : L.length = n) (hn : n < 900) (hgp : ∀ p ∈ L, GP p) (hb : bar ≤ H.length)
    (hq : ∀ v' H', OwnS H.length (chainF L) v' H' → H.length ≤ H'.length → (∀ j, j < H.length → H'[j]? = H[j]?) → Q v' H') : WpCall E false base bar 96 [.vec id0 ver0 0 n 2] H Q := by
  rw [call96]
  simp [go_sem, WpFun, c96]
  refine l96b (k := H.length) (ex := ex) hl hn hgp hb n 0 (by omega) [] .nils H (.inl ⟨rfl, rfl⟩) (by simp) (by simp) (Nat.le_refl _) (List.getElem?_eq_some_iff.1 h).1 h fun v' H' g h1 h2 => ?_
  obtain ⟨s1, s2⟩ := g.slot
  simp [go_sem, s1, s2]
  exact hq v' H' (by simpa [chainF] using g) h1 h2
end Go.Proofs.YtihdlpeghlhnoaaGreatDoor.Code
end

section
namespace Go.Proofs.YtihdlpeghlhnoaaGreatDoor.Code
open Go Go.Ab
open Go.Proofs.Pt hiding ZZ
variable {pure : Bool} {base bar : Nat} {H : Heap} {Q : AV → Heap → Prop} {K : AV → Heap → List Nat → Prop}
theorem l58 {id ver n : Nat} {ex : Bool} {H0 : Heap} (hid : id < H0.length) (hb : bar ≤ id) (hn : n < 1000) {R : PQ} : ∀ (m : Nat) (M A B : List ZZ), M.length = m → A.length = B.length → A.length + M.length + B.length = n → 1 ≤ n →
    (∀ a b, R (.exit 0) [(0, .vec id ver 0 n 2), (2, a), (3, b), (9, .bool false)] (H0.set id (.row ver (prs (A ++ M.reverse ++ B)) 0 ex))) →
    Wp E base bar (.loop c58_l0) [(0, .vec id ver 0 n 2), (2, .int .i64 (A.length : Int)), (3, .int .i64 ((A.length : Int) + M.length - 1))] (H0.set id (.row ver (prs (A ++ M ++ B)) 0 ex)) R := by
  intro m
  induction m using Nat.strongRecOn with
  | _ m ih =>
    intro M A B hM hAB hl hn1 h
    rcases M with _ | ⟨x, M1⟩
    · rw [wp_round c58_l0.eq_1]
      have hc : ¬ ((A.length : Int) < (A.length : Int) - 1) := by omega
      simp [go_sem, hc]
      simpa using h _ _
    · rcases List.eq_nil_or_concat M1 with rfl | ⟨M2, y, e⟩
      · rw [wp_round c58_l0.eq_1]
        simp [go_sem]
        simpa using h _ _
      · rw [List.concat_eq_append] at e
        subst e
        have hM2 : M2.length + 2 = m := by simp at hM; omega
        have hlen : (A ++ x :: (M2 ++ [y]) ++ B).length = n := by simp at hl ⊢; omega
        obtain ⟨i, hi⟩ : ∃ i, i = A.length := ⟨_, rfl⟩
        obtain ⟨j, hj⟩ : ∃ j, j = A.length + M2.length + 1 := ⟨_, rfl⟩
        have hij : i < j := by omega
        have hjn : j < n := by simp at hl; omega
        have hin : i < n := by omega
        have eA : A ++ x :: (M2 ++ [y]) ++ B = A ++ x :: (M2 ++ y :: B) := by simp
        have hx : (A ++ x :: (M2 ++ [y]) ++ B)[i]'(by omega) = x := by
          simp only [eA]
          rw [List.getElem_append_right (by omega)]; simp [hi]
        have hy : (A ++ x :: (M2 ++ [y]) ++ B)[j]'(by omega) = y := by
          simp only [eA]
          rw [List.getElem_append_right (by omega)]
          simp only [show j - A.length = M2.length + 1 by omega, List.getElem_cons_succ]
          rw [List.getElem_append_right (Nat.le_refl _)]; simp
        have hset : ((A ++ x :: (M2 ++ [y]) ++ B).set i y).set j x = (A ++ [y]) ++ M2 ++ (x :: B) := by
          rw [eA, List.set_append_right _ _ (by omega), List.set_append_right _ _ (by omega)]
          simp only [show i - A.length = 0 by omega, show j - A.length = M2.length + 1 by omega, List.set_cons_zero, List.set_cons_succ]
          rw [List.set_append_right _ _ (Nat.le_refl _)]; simp
        have hr1 := prs_part (L := A ++ x :: (M2 ++ [y]) ++ B) (i := i) (by omega)
        have hr2 := prs_part (L := A ++ x :: (M2 ++ [y]) ++ B) (i := j) (by omega)
        rw [hx] at hr1
        rw [hy] at hr2
        have hs1 := prs_set (L := A ++ x :: (M2 ++ [y]) ++ B) (i := i) (p := y) (by omega)
        have hs2 := prs_set (L := (A ++ x :: (M2 ++ [y]) ++ B).set i y) (i := j) (p := x) (by rw [List.length_set]; omega)
        rw [hset] at hs2
        have hih := ih M2.length (by omega) M2 (A ++ [y]) (x :: B) rfl (by simp; omega) (by simp at hl ⊢; omega) hn1 (fun a b => by
          have := h a b
          have e2 : A ++ (x :: (M2 ++ [y])).reverse ++ B = A ++ [y] ++ M2.reverse ++ x :: B := by simp
          rw [e2] at this; exact this)
        rw [← hs2, ← hs1] at hih
        have hpl := prs_length (l := A ++ x :: (M2 ++ [y]) ++ B)
        rw [hlen] at hpl
        have hg : (H0.set id (.row ver (prs (A ++ x :: (M2 ++ [y]) ++ B)) 0 ex))[id]? = some (.row ver (prs (A ++ x :: (M2 ++ [y]) ++ B)) 0 ex) := List.getElem?_set_self hid
        have hset2 : ∀ b c : Blk, (H0.set id b).set id c = H0.set id c := fun b c => by rw [List.set_set]
        have ej : (A.length : Int) + ((x :: (M2 ++ [y])).length : Int) - 1 = (j : Int) := by simp; omega
        have ei : (A.length : Int) = (i : Int) := by omega
        rw [ej, ei]
        have ei' : ((A ++ [y]).length : Int) = ((i + 1 : Nat) : Int) := by simp; omega
        have ej' : ((A ++ [y]).length : Int) + (M2.length : Int) - 1 = ((j - 1 : Nat) : Int) := by simp; omega
        rw [ej', ei'] at hih
        clear hx hy hset hs2 hs1 eA hlen ej ei ei' ej' h ih
        generalize A ++ x :: (M2 ++ [y]) ++ B = L at *
        have hA1 : aload (H0.set id (.row ver (prs L) 0 ex)) ⟨true, 2⟩ (.ptr id ver (i * 2)) = some (.agg (zc x)) := by rw [aload_ptr hg, Nat.mul_comm]; exact hr1
        have hA2 : aload (H0.set id (.row ver (prs L) 0 ex)) ⟨true, 2⟩ (.ptr id ver (j * 2)) = some (.agg (zc y)) := by rw [aload_ptr hg, Nat.mul_comm]; exact hr2
        have c1 : i * 2 + 2 ≤ (prs L).length := by omega
        have c2 : j * 2 + 2 ≤ (prs L).length := by omega
        rw [Nat.mul_comm 2 i, Nat.mul_comm 2 j] at hih
        have w1 := i64s (i := i) (by omega)
        have w2 : IntKind.i64.wrap ((j : Int) - 1) = ((j - 1 : Nat) : Int) := by rw [i64_bd ⟨by omega, by omega⟩]; omega
        rw [wp_round c58_l0.eq_1]
        simp [go_sem, hij, hin, hjn, hA1, hA2]
        rw [storeWp_ptr (size := 2) hg rfl rfl (by omega) (by omega) hb (.inr (zc_tops _)), hset2]
        have hg2 : (H0.set id (.row ver (setCells (prs L) (i * 2) (zc y)) 0 ex))[id]? = some (.row ver (setCells (prs L) (i * 2) (zc y)) 0 ex) := List.getElem?_set_self hid
        have hcl : (AV.agg (zc y)).cells = zc y := rfl
        have hcx : (AV.agg (zc x)).cells = zc x := rfl
        rw [hcl]
        simp [go_sem, hin, hjn]
        rw [storeWp_ptr (size := 2) hg2 rfl rfl (by omega) (by rw [setCells_length]; omega) hb (.inr (zc_tops _)), hset2, hcx]
        simp [go_sem, w1, w2]
        exact hih
theorem k58 {id ver n : Nat} {ex : Bool} {L : List ZZ} (h : H[id]? = some (.row ver (prs L) 0 ex)) (hl : L.length = n) (h1 : 1 ≤ n) (hn : n < 1000) (hb : bar ≤ id)
    (k : Q (.tup []) (H.set id (.row ver (prs L.reverse) 0 ex))) : WpCall E false base bar 58 [.vec id ver 0 n 2] H Q := by
  have hid := (List.getElem?_eq_some_iff.1 h).1
  rw [call58]
  have hw : IntKind.i64.wrap ((n : Int) - 1) = (n : Int) - 1 := i64_bd ⟨by omega, by omega⟩
  simp [go_sem, WpFun, c58, hw]
  have := fun (R : PQ) hR => l58 (base := H.length) (bar := bar) (ver := ver) (n := n) (ex := ex) (H0 := H) hid hb hn (R := R) L.length L [] [] rfl rfl (by simp; omega) h1 hR
  simp only [List.nil_append, List.append_nil, List.length_nil] at this
  rw [set_same h, hl] at this
  have e0 : (((0 : Nat) : Int) + (n : Int) - 1) = (n : Int) - 1 := by omega
  rw [e0] at this
  refine this _ fun a b => ?_
  simp [go_sem]
  rw [List.take_of_length_le (by simp)]
  exact k
theorem wpcall_news {f : FuncId} {af : AFun} {args : List AV} {v : AV} {news : List Blk} (hf : E.funs f = some af) (hz : (if af.raw then some (args, H) else frzAll bar H args) = some (args, H))
    (hk : E.known f args H = some { v := v, news := news }) (h : Q v (H ++ news)) : WpCall E false base bar f args H Q := by
  refine ⟨0, v, H ++ news, ?_, h⟩
  unfold callWith
  simp only [hf, hz, hk, List.all_nil, Bool.not_false, Bool.true_or, Bool.and_self, if_true, applyUps]
theorem k94 {v : AV} (hz : frzAll bar H [v] = some ([v], H)) (ht : v.isTup = false) (h : Q (.fn 115 [] [.ptr H.length 0 0]) (H ++ [.row 0 v.cells 0 true])) : WpCall E false base bar 94 [v] H Q := by
  rw [call94, hz]
  simp [go_sem, WpFun, c94]
  exact ⟨ht, h⟩
theorem ptsOf_prA : ∀ {l : List ZZ}, ptsOf (prA l) = some l
  | [] => rfl
  | p :: l => by
    show ptsOf (.agg [.int .i64 p.1, .int .i64 p.2] :: prA l) = _
    rw [ptsOf, ptsOf_prA]
theorem flat_ptA : ∀ {l : List ZZ}, l.flatMap Go.Ab.ptA = prs l := rfl
theorem seqX_prA {n : Nat} {ex : Bool} {l : List ZZ} (hl : l ≠ []) (hl2 : l.length ≤ 1000000) : seqX n (.lst 2 ex (prA l)) = some { v := .vec n 0 0 l.length 2, news := [.row 0 (prs l) 0 false] } := by
  cases l with
  | nil => exact absurd rfl hl
  | cons p r =>
    unfold seqX
    simp only [ptsOf_prA]
    rw [if_pos (by simpa using hl2)]
    rfl
theorem k131 {pid : Nat} {ex : Bool} {l : List ZZ} (hl : l ≠ []) (hl2 : l.length ≤ 1000000) (hp : H[pid]? = some (.row 0 [.lst 2 ex (prA l)] 0 true)) (h : Q (.vec H.length 0 0 l.length 2) (H ++ [.row 0 (prs l) 0 false])) : WpCall E false base bar 131 [.nils, .fn 115 [] [.ptr pid 0 0]] H Q :=
  wpcall_news (af := c131) rfl rfl (by
    rw [show E.known = knowE from rfl]
    unfold knowE
    have h1 : knownT [weTop] 131 [.nils, .fn 115 [] [.ptr pid 0 0]] H = none := rfl
    rw [h1]
    simp only
    unfold lib
    rw [if_pos rfl]
    unfold seqK
    simp only [if_true, hp]
    exact seqX_prA hl hl2) h
theorem k114 {pid : Nat} {ex : Bool} {l : List ZZ} (hl : l ≠ []) (hl2 : l.length ≤ 1000000) (hp : H[pid]? = some (.row 0 [.lst 2 ex (prA l)] 0 true)) (h : Q (.vec H.length 0 0 l.length 2) (H ++ [.row 0 (prs l) 0 false])) : WpCall E false base bar 114 [.fn 115 [] [.ptr pid 0 0]] H Q := by
  rw [call114]
  simp [go_sem, WpFun, c114]
  refine k131 hl hl2 hp ?_
  simp [go_sem]
  exact h
theorem k93 {pid : Nat} {ex : Bool} {l : List ZZ} (hl : l ≠ []) (hl2 : l.length ≤ 12) (hb : bar ≤ H.length) (hp : H[pid]? = some (.row 0 [.lst 2 ex (prA l)] 0 true))
    (h : ∀ S : List ZZ, S.Perm l → srt S → Q (.vec H.length 0 0 l.length 2) (H ++ [.row 0 (prs S) 0 false])) : WpCall E false base bar 93 [.fn 115 [] [.ptr pid 0 0], .fn 95 [] []] H Q := by
  rw [call93]
  simp [go_sem, WpFun, c93]
  refine k114 hl (by omega) hp ?_
  simp [go_sem]
  have hg : (H ++ [Blk.row 0 (prs l) 0 false])[H.length]? = some (.row 0 (prs l) 0 false) := by simp
  have h1 : 1 ≤ l.length := by
    cases l with
    | nil => exact absurd rfl hl
    | cons a r => simp
  refine k53 hg rfl h1 hl2 hb fun S hS hsS => ?_
  simp [go_sem]
  exact h S hS hsS
end Go.Proofs.YtihdlpeghlhnoaaGreatDoor.Code
end
end

