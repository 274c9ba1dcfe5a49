/-
  Parts of the proofs about this chapter, joined: contracts of functions and plain laws.
-/
import Derived.Test.YtoipleipokpnaaaWya
import Derived.KernelRfl
set_option linter.all false
section
namespace Go.Proofs.Ytoipleipokpnaaa.Code
/-! leaves are taken off round by round: what is left last is the middle -/
def mx : Nat → (Nat → Nat) → Nat
  | 0, _ => 0
  | n + 1, F => max (mx n F) (F n)
theorem le_mx {F : Nat → Nat} {x : Nat} : ∀ {n : Nat}, x < n → F x ≤ mx n F
  | 0, h => by omega
  | n + 1, h => by
    simp only [mx]
    by_cases e : x = n
    · subst e; omega
    · have := le_mx (F := F) (x := x) (n := n) (by omega); omega
theorem mx_le {F : Nat → Nat} {m : Nat} : ∀ {n : Nat}, (∀ x, x < n → F x ≤ m) → mx n F ≤ m
  | 0, _ => Nat.zero_le _
  | n + 1, h => by
    simp only [mx]
    have := mx_le (F := F) (m := m) (n := n) fun x hx => h x (by omega)
    have := h n (by omega)
    omega
theorem mx_get {F : Nat → Nat} : ∀ {n : Nat}, mx n F = 0 ∨ ∃ x, x < n ∧ F x = mx n F
  | 0 => .inl rfl
  | n + 1 => by
    simp only [mx]
    rcases Nat.le_total (mx n F) (F n) with h | h
    · rw [Nat.max_eq_right h]; exact .inr ⟨n, by omega, rfl⟩
    · rw [Nat.max_eq_left h]
      rcases mx_get (F := F) (n := n) with e | ⟨x, h1, h2⟩
      · exact .inl e
      · exact .inr ⟨x, by omega, h2⟩
def ecc (n : Nat) (S : Nat → Bool) (D : Nat → Nat → Nat) (x : Nat) : Nat := mx n fun y => if S y then D x y else 0
def rs (f : Nat → Nat → Bool) (S : Nat → Bool) (a b : Nat) : Bool := f a b && S a && S b
theorem rs_iff {f : Nat → Nat → Bool} {S : Nat → Bool} {a b : Nat} : rs f S a b = true ↔ f a b = true ∧ S a = true ∧ S b = true := by
  simp [rs, and_assoc]
abbrev TS (f : Nat → Nat → Bool) (S : Nat → Bool) (D : Nat → Nat → Nat) : Prop := TM (fun x => S x = true) (rs f S) D
def LfS (f : Nat → Nat → Bool) (S : Nat → Bool) (x : Nat) : Prop := ∀ a b, rs f S x a = true → rs f S x b = true → a = b
def Off (f : Nat → Nat → Bool) (S S' : Nat → Bool) : Prop := ∀ x, S' x = true ↔ S x = true ∧ ¬ LfS f S x
section
variable {n : Nat} {f : Nat → Nat → Bool} {S S' : Nat → Bool} {D : Nat → Nat → Nat}
theorem ecc_le (hS : ∀ x, S x = true → x < n) {x y : Nat} (hy : S y = true) : D x y ≤ ecc n S D x := by
  have := le_mx (F := fun y => if S y then D x y else 0) (hS y hy)
  simp only [hy, if_true] at this
  exact this
theorem ecc_get (h : TS f S D) {x : Nat} (hx : S x = true) : ∃ y, S y = true ∧ D x y = ecc n S D x := by
  rcases mx_get (n := n) (F := fun y => if S y then D x y else 0) with e | ⟨y, _, e⟩
  · exact ⟨x, hx, by rw [h.zero hx]; exact e.symm⟩
  · by_cases hy : S y = true
    · simp only [hy, if_true] at e
      exact ⟨y, hy, e⟩
    · simp only [hy] at e
      exact ⟨x, hx, by rw [h.zero hx]; exact e⟩
/-- a knot between two is no leaf -/
theorem TS.mid (h : TS f S D) {x y b : Nat} (hx : S x = true) (hb : rs f S y b = true) (hd : D x b + 1 = D x y) (hne : b ≠ x) : ¬ LfS f S b := fun hl => by
  have hbS := (rs_iff.1 hb).2.2
  obtain ⟨c, c1, c2, _⟩ := h.par hx hbS (fun e => hne e.symm)
  have := hl c y c1 (h.symF hb)
  subst this
  omega
theorem TS.nonleaf (h : TS f S D) {x : Nat} (hx : S x = true) (hn : ¬ LfS f S x) : ∃ a b, a ≠ b ∧ rs f S x a = true ∧ rs f S x b = true := by
  apply Classical.byContradiction
  intro hc
  exact hn fun a b ha hb => Classical.byContradiction fun e => hc ⟨a, b, e, ha, hb⟩
/-- from a knot that is no leaf a way goes on -/
theorem TS.on (h : TS f S D) {x y : Nat} (hx : S x = true) (hy : S y = true) (hn : ¬ LfS f S y) : ∃ z, rs f S y z = true ∧ D x z = D x y + 1 := by
  obtain ⟨a, b, hab, ha, hb⟩ := h.nonleaf hy hn
  rcases h.step hx ha with e | e
  · exact ⟨a, ha, e⟩
  · rcases h.step hx hb with e2 | e2
    · exact ⟨b, hb, e2⟩
    · by_cases hxy : x = y
      · subst hxy; rw [h.zero hx] at e; omega
      · obtain ⟨p, _, _, p3⟩ := h.par hx hy hxy
        exact absurd ((p3 a ha e.symm).trans (p3 b hb e2.symm).symm) hab
theorem TS.round (h : TS f S D) (ho : Off f S S') : TS f S' D := by
  refine ⟨fun {a b} h1 => ?_, fun {a b} h1 => ?_, fun {x} hx => h.zero ((ho x).1 hx).1, fun {x y} hx hy e => h.eq ((ho x).1 hx).1 ((ho y).1 hy).1 e, fun {x y} hx hy => h.sym ((ho x).1 hx).1 ((ho y).1 hy).1, fun {x a b} hx h1 => ?_, fun {x y} hx hy hxy => ?_⟩
  · obtain ⟨h1, h2, h3⟩ := rs_iff.1 h1
    have := h.symF (rs_iff.2 ⟨h1, ((ho _).1 h2).1, ((ho _).1 h3).1⟩)
    exact rs_iff.2 ⟨(rs_iff.1 this).1, h3, h2⟩
  · obtain ⟨h1, h2, h3⟩ := rs_iff.1 h1
    have := h.inV (rs_iff.2 ⟨h1, ((ho _).1 h2).1, ((ho _).1 h3).1⟩)
    exact ⟨h2, h3, this.2.2⟩
  · obtain ⟨h1, h2, h3⟩ := rs_iff.1 h1
    exact h.step ((ho _).1 hx).1 (rs_iff.2 ⟨h1, ((ho _).1 h2).1, ((ho _).1 h3).1⟩)
  · obtain ⟨b, b1, b2, b3⟩ := h.par ((ho _).1 hx).1 ((ho _).1 hy).1 hxy
    obtain ⟨q1, q2, q3⟩ := rs_iff.1 b1
    refine ⟨b, rs_iff.2 ⟨q1, hy, ?_⟩, b2, fun c c1 c2 => ?_⟩
    · by_cases e : b = x
      · subst e; exact hx
      · exact (ho _).2 ⟨q3, h.mid ((ho _).1 hx).1 b1 b2 e⟩
    · obtain ⟨r1, r2, r3⟩ := rs_iff.1 c1
      exact b3 c (rs_iff.2 ⟨r1, ((ho _).1 r2).1, ((ho _).1 r3).1⟩) c2
theorem TS.ecc_suc (h : TS f S D) (hS : ∀ x, S x = true → x < n) (ho : Off f S S') {x : Nat} (hx : S' x = true) : ecc n S D x = ecc n S' D x + 1 := by
  have hS' : ∀ x, S' x = true → x < n := fun x hx => hS x ((ho x).1 hx).1
  obtain ⟨x1, x2⟩ := (ho x).1 hx
  apply Nat.le_antisymm
  · obtain ⟨z, z1, z2⟩ := ecc_get (n := n) h x1
    by_cases e : x = z
    · subst e; rw [h.zero x1] at z2; omega
    · obtain ⟨b, b1, b2, _⟩ := h.par x1 z1 e
      have hb : S' b = true := by
        by_cases e : b = x
        · subst e; exact hx
        · exact (ho _).2 ⟨(rs_iff.1 b1).2.2, h.mid x1 b1 b2 e⟩
      have := ecc_le (n := n) (D := D) hS' (x := x) hb
      omega
  · obtain ⟨y, y1, y2⟩ := ecc_get (n := n) (h.round ho) hx
    obtain ⟨z, z1, z2⟩ := h.on x1 ((ho y).1 y1).1 ((ho y).1 y1).2
    have := ecc_le (n := n) (D := D) hS (x := x) (rs_iff.1 z1).2.2
    omega
/-- a leaf's way begins with its only tie -/
theorem TS.leafD (h : TS f S D) {x b : Nat} (hl : LfS f S x) (hb : rs f S x b = true) {y : Nat} (hy : S y = true) (hne : y ≠ x) : D x y = D b y + 1 := by
  have hx := (rs_iff.1 hb).2.1
  have hbS := (rs_iff.1 hb).2.2
  obtain ⟨c, c1, c2, _⟩ := h.par hy hx hne
  have := hl c b c1 hb
  subst this
  rw [h.sym hx hy, h.sym hbS hy]; omega
theorem TS.leaf_far (h : TS f S D) (hS : ∀ x, S x = true → x < n) (ho : Off f S S') {v x : Nat} (hv : S' v = true) (hx : S x = true) (hl : LfS f S x) : ∃ b, S b = true ∧ ecc n S D b < ecc n S D x := by
  obtain ⟨v1, v2⟩ := (ho v).1 hv
  have hvx : v ≠ x := fun e => v2 (e ▸ hl)
  obtain ⟨b, b1, b2, _⟩ := h.par v1 hx hvx
  have hb := (rs_iff.1 b1).2.2
  refine ⟨b, hb, ?_⟩
  obtain ⟨y, y1, y2⟩ := ecc_get (n := n) h hb
  by_cases e : y = x
  · subst e
    have e1 : D b y = 1 := by rw [h.sym hb hx]; exact h.adj b1
    by_cases e2 : v = b
    · subst e2
      obtain ⟨p, q, hpq, hp, hq⟩ := h.nonleaf v1 v2
      have : ∃ z, z ≠ y ∧ rs f S v z = true := by
        by_cases e3 : p = y
        · exact ⟨q, fun e => hpq (e3.trans e.symm), hq⟩
        · exact ⟨p, e3, hp⟩
      obtain ⟨z, z1, z2⟩ := this
      have hz := (rs_iff.1 z2).2.2
      have e4 := h.leafD hl b1 hz z1
      have := ecc_le (n := n) (D := D) hS (x := y) hz
      rw [h.adj z2] at e4
      omega
    · have e4 := h.leafD hl b1 v1 hvx
      have : D b v ≠ 0 := fun e => e2 (h.eq hb v1 e).symm
      have := ecc_le (n := n) (D := D) hS (x := y) v1
      omega
  · have e4 := h.leafD hl b1 y1 e
    have := ecc_le (n := n) (D := D) hS (x := x) y1
    omega
def IsCen (n : Nat) (S : Nat → Bool) (D : Nat → Nat → Nat) (x : Nat) : Prop := S x = true ∧ ∀ y, S y = true → ecc n S D x ≤ ecc n S D y
theorem TS.cen_round (h : TS f S D) (hS : ∀ x, S x = true → x < n) (ho : Off f S S') {v : Nat} (hv : S' v = true) {x : Nat} : IsCen n S D x ↔ IsCen n S' D x := by
  constructor
  · rintro ⟨x1, x2⟩
    have hx' : S' x = true := by
      refine (ho x).2 ⟨x1, fun hl => ?_⟩
      obtain ⟨b, b1, b2⟩ := h.leaf_far hS ho hv x1 hl
      have := x2 b b1; omega
    refine ⟨hx', fun y hy => ?_⟩
    have := x2 y ((ho y).1 hy).1
    rw [h.ecc_suc hS ho hx', h.ecc_suc hS ho hy] at this
    omega
  · rintro ⟨x1, x2⟩
    refine ⟨((ho x).1 x1).1, fun y hy => ?_⟩
    obtain ⟨m, hm⟩ : ∃ m, ecc n S D y = m := ⟨_, rfl⟩
    induction m using Nat.strongRecOn generalizing y with
    | ind m ih =>
      by_cases hl : LfS f S y
      · obtain ⟨b, b1, b2⟩ := h.leaf_far hS ho hv hy hl
        have := ih _ (by omega) b b1 rfl
        omega
      · have hy' : S' y = true := (ho y).2 ⟨hy, hl⟩
        have := x2 y hy'
        rw [h.ecc_suc hS ho x1, h.ecc_suc hS ho hy']
        omega
theorem TS.near (h : TS f S D) (hall : ∀ x, S x = true → LfS f S x) {x y : Nat} (hx : S x = true) (hy : S y = true) : D x y ≤ 1 := by
  by_cases e : x = y
  · subst e; rw [h.zero hx]; omega
  · obtain ⟨b, b1, b2, _⟩ := h.par hx hy e
    by_cases e2 : b = x
    · subst e2; rw [h.zero hx] at b2; omega
    · exact absurd (hall b (rs_iff.1 b1).2.2) (h.mid hx b1 b2 e2)
theorem TS.cen_all (h : TS f S D) (hS : ∀ x, S x = true → x < n) (hall : ∀ x, S x = true → LfS f S x) {x : Nat} (hx : S x = true) : IsCen n S D x := by
  refine ⟨hx, fun y hy => ?_⟩
  obtain ⟨z, z1, z2⟩ := ecc_get (n := n) h hx
  have h1 := h.near hall hx z1
  by_cases e : x = y
  · subst e; omega
  · have := ecc_le (n := n) (D := D) hS (x := y) hx
    have : D y x ≠ 0 := fun e' => e (h.eq hy hx e').symm
    omega
/-- there is a leaf -/
theorem TS.has_leaf (h : TS f S D) (hS : ∀ x, S x = true → x < n) {x : Nat} (hx : S x = true) {y : Nat} (hy : S y = true) (hf : D x y = ecc n S D x) : LfS f S y := by
  apply Classical.byContradiction
  intro hl
  obtain ⟨z, z1, z2⟩ := h.on hx hy hl
  have := ecc_le (n := n) (D := D) hS (x := x) (rs_iff.1 z1).2.2
  omega
end
end Go.Proofs.Ytoipleipokpnaaa.Code
end
section
namespace Go.Proofs.Ytoipleipokpnaaa.Code
open Go Go.Ab
/-! the distances of all knots by Floyd and Warshall -/
abbrev Mat := Nat → Nat → Nat
def up2 (M : Mat) (a b v : Nat) : Mat := fun x y => if x = a ∧ y = b then v else M x y
def fwS (k a : Nat) (M : Mat) (b : Nat) : Mat := up2 M a b (min (M a b) (M a k + M k b))
def fwA (n k : Nat) (M : Mat) (a : Nat) : Mat := (List.range n).foldl (fwS k a) M
def fwK (n : Nat) (M : Mat) (k : Nat) : Mat := (List.range n).foldl (fwA n k) M
def Mids (n m : Nat) (D : Mat) (a b : Nat) : Prop := ∀ z, z < n → z ≠ a → z ≠ b → D a z + D z b = D a b → z < m
structure FJ (n m : Nat) (D M : Mat) : Prop where
  ge : ∀ a b, a < n → b < n → D a b ≤ M a b
  eq : ∀ a b, a < n → b < n → Mids n m D a b → M a b = D a b
section
variable {n : Nat} {f : Nat → Nat → Bool} {D M : Mat}
theorem FJ.step {m a b : Nat} (hT : TM (fun x => x < n) f D) (hm : m < n) (ha : a < n) (hb : b < n) (h : FJ n m D M) : FJ n m D (fwS m a M b) := by
  have t := hT.tri ha hm (D m b) hb rfl
  have h1 := h.ge a m ha hm
  have h2 := h.ge m b hm hb
  have h3 := h.ge a b ha hb
  refine ⟨fun x y hx hy => ?_, fun x y hx hy hM => ?_⟩
  · unfold fwS up2
    split
    · rename_i e; obtain ⟨rfl, rfl⟩ := e; omega
    · exact h.ge x y hx hy
  · have := h.eq x y hx hy hM
    unfold fwS up2
    split
    · rename_i e; obtain ⟨rfl, rfl⟩ := e; omega
    · exact this
theorem FJ.hit {m a b : Nat} (hT : TM (fun x => x < n) f D) (hm : m < n) (ha : a < n) (hb : b < n) (h : FJ n m D M) (hM : Mids n (m + 1) D a b) : fwS m a M b a b = D a b := by
  have t := hT.tri ha hm (D m b) hb rfl
  have h1 := h.ge a m ha hm
  have h2 := h.ge m b hm hb
  have h3 := h.ge a b ha hb
  have e0 : fwS m a M b a b = min (M a b) (M a m + M m b) := by unfold fwS up2; rw [if_pos ⟨rfl, rfl⟩]
  rw [e0]
  by_cases hc : m ≠ a ∧ m ≠ b ∧ D a m + D m b = D a b
  · obtain ⟨c1, c2, c3⟩ := hc
    have e1 : M a m = D a m := h.eq a m ha hm fun z hz z1 z2 z3 => by
      have t2 := hT.tri hz hm (D m b) hb rfl
      have t3 := hT.tri ha hz (D z b) hb rfl
      have hzb : z ≠ b := fun e => by
        subst e
        have := hT.sym hb hm
        have : D m z = 0 := by omega
        exact c2 (hT.eq hm hb this)
      have := hM z hz z1 hzb (by omega)
      omega
    have e2 : M m b = D m b := h.eq m b hm hb fun z hz z1 z2 z3 => by
      have t2 := hT.tri ha hm (D m z) hz rfl
      have t3 := hT.tri ha hz (D z b) hb rfl
      have hza : z ≠ a := fun e => by
        subst e
        have := hT.sym hz hm
        have : D z m = 0 := by omega
        exact c1 (hT.eq hz hm this).symm
      have := hM z hz hza z2 (by omega)
      omega
    omega
  · have : M a b = D a b := h.eq a b ha hb fun z hz z1 z2 z3 => by
      have := hM z hz z1 z2 z3
      have : z ≠ m := fun e => by subst e; exact hc ⟨z1, z2, z3⟩
      omega
    omega
theorem fwS_le {m a b x y : Nat} : fwS m a M b x y ≤ M x y := by
  unfold fwS up2
  split
  · rename_i e; obtain ⟨rfl, rfl⟩ := e; omega
  · exact Nat.le_refl _
theorem FJ.row {m a : Nat} (hT : TM (fun x => x < n) f D) (hm : m < n) (ha : a < n) (G : Nat → Nat → Prop) (hG : ∀ x y, G x y → x < n ∧ y < n ∧ Mids n (m + 1) D x y) :
    ∀ (L : List Nat) (M : Mat), (∀ b ∈ L, b < n) → FJ n m D M → (∀ x y, G x y → M x y = D x y) → FJ n m D (L.foldl (fwS m a) M) ∧ (∀ x y, G x y → L.foldl (fwS m a) M x y = D x y) ∧ ∀ b ∈ L, Mids n (m + 1) D a b → L.foldl (fwS m a) M a b = D a b
  | [], M, _, h, hg => ⟨h, hg, fun b hb => by cases hb⟩
  | b :: L, M, hL, h, hg => by
    have hb := hL b (List.mem_cons_self ..)
    have h' := h.step hT hm ha hb
    have hit := fun hM => h.hit hT hm ha hb hM
    have hg' : ∀ x y, G x y ∨ (x = a ∧ y = b ∧ Mids n (m + 1) D a b) → fwS m a M b x y = D x y := fun x y hxy => by
      rcases hxy with e | ⟨rfl, rfl, e⟩
      · obtain ⟨g1, g2, _⟩ := hG x y e
        have q1 := h'.ge x y g1 g2
        have q2 := fwS_le (m := m) (a := a) (b := b) (M := M) (x := x) (y := y)
        have q3 := hg x y e
        omega
      · exact hit e
    obtain ⟨r1, r2, r3⟩ := FJ.row hT hm ha (fun x y => G x y ∨ (x = a ∧ y = b ∧ Mids n (m + 1) D a b)) (fun x y hxy => by
      rcases hxy with e | ⟨rfl, rfl, e⟩
      · exact hG x y e
      · exact ⟨ha, hb, e⟩) L _ (fun c hc => hL c (List.mem_cons_of_mem _ hc)) h' hg'
    refine ⟨r1, fun x y e => r2 x y (.inl e), fun c hc hM => ?_⟩
    rcases List.mem_cons.1 hc with rfl | hc
    · exact r2 a c (.inr ⟨rfl, rfl, hM⟩)
    · exact r3 c hc hM
theorem FJ.rows {m : Nat} (hT : TM (fun x => x < n) f D) (hm : m < n) (G : Nat → Nat → Prop) (hG : ∀ x y, G x y → x < n ∧ y < n ∧ Mids n (m + 1) D x y) :
    ∀ (L : List Nat) (M : Mat), (∀ b ∈ L, b < n) → FJ n m D M → (∀ x y, G x y → M x y = D x y) → FJ n m D (L.foldl (fwA n m) M) ∧ (∀ x y, G x y → L.foldl (fwA n m) M x y = D x y) ∧ ∀ a ∈ L, ∀ b, b < n → Mids n (m + 1) D a b → L.foldl (fwA n m) M a b = D a b
  | [], M, _, h, hg => ⟨h, hg, fun b hb => by cases hb⟩
  | a :: L, M, hL, h, hg => by
    have ha := hL a (List.mem_cons_self ..)
    obtain ⟨p1, p2, p3⟩ := FJ.row hT hm ha G hG (List.range n) M (fun b hb => List.mem_range.1 hb) h hg
    obtain ⟨r1, r2, r3⟩ := FJ.rows hT hm (fun x y => G x y ∨ (x = a ∧ y < n ∧ Mids n (m + 1) D a y)) (fun x y hxy => by
      rcases hxy with e | ⟨rfl, e1, e⟩
      · exact hG x y e
      · exact ⟨ha, e1, e⟩) L (fwA n m M a) (fun c hc => hL c (List.mem_cons_of_mem _ hc)) p1 (fun x y hxy => by
      rcases hxy with e | ⟨rfl, e1, e⟩
      · exact p2 x y e
      · exact p3 y (List.mem_range.2 e1) e)
    refine ⟨r1, fun x y e => r2 x y (.inl e), fun c hc b hb hM => ?_⟩
    rcases List.mem_cons.1 hc with rfl | hc
    · exact r2 c b (.inr ⟨rfl, hb, hM⟩)
    · exact r3 c hc b hb hM
theorem FJ.round {m : Nat} (hT : TM (fun x => x < n) f D) (hm : m < n) (h : FJ n m D M) : FJ n (m + 1) D (fwK n M m) := by
  obtain ⟨r1, _, r3⟩ := FJ.rows hT hm (fun _ _ => False) (fun _ _ e => e.elim) (List.range n) M (fun b hb => List.mem_range.1 hb) h (fun _ _ e => e.elim)
  exact ⟨r1.ge, fun a b ha hb hM => r3 a (List.mem_range.2 ha) b hb hM⟩
theorem FJ.all (hT : TM (fun x => x < n) f D) (h : FJ n 0 D M) : ∀ m, m ≤ n → FJ n m D ((List.range m).foldl (fwK n) M)
  | 0, _ => h
  | m + 1, hm => by
    rw [List.range_succ, List.foldl_append]
    exact FJ.round hT (by omega) (FJ.all hT h m (by omega))
end
/-! what is below 100 can be reached -/
def FR (n : Nat) (f : Nat → Nat → Bool) (M : Mat) : Prop := ∀ a b, M a b < 100 → Rch f a b
theorem FR.step {n k a b : Nat} {f : Nat → Nat → Bool} {M : Mat} (h : FR n f M) : FR n f (fwS k a M b) := fun x y e => by
  unfold fwS up2 at e
  split at e
  · rename_i e'; obtain ⟨rfl, rfl⟩ := e'
    rcases Nat.lt_or_ge (M x y) 100 with h1 | h1
    · exact h x y h1
    · exact Rch.trans (h x k (by omega)) (h k y (by omega))
  · exact h x y e
theorem FR.foldl {n : Nat} {f : Nat → Nat → Bool} {g : Mat → Nat → Mat} (hg : ∀ M c, FR n f M → FR n f (g M c)) : ∀ (L : List Nat) (M : Mat), FR n f M → FR n f (L.foldl g M)
  | [], _, h => h
  | c :: L, M, h => FR.foldl hg L _ (hg M c h)
end Go.Proofs.Ytoipleipokpnaaa.Code
end
section
namespace Go.Proofs.Ytoipleipokpnaaa.Code
open Go Go.Ab
end Go.Proofs.Ytoipleipokpnaaa.Code
end
section
namespace Go.Proofs.Ytoipleipokpnaaa.Code
open Go Go.Ab
theorem Inv.gone {n : Nat} {l : List ZZ} {w : Nat → Nat} {g : Nat → Bool} {left : Nat} (h : Inv n l w g left) {x : Nat} (hg : g x = true) : (bitsN (w x)).length = 0 := by
  rw [List.length_eq_zero_iff]
  apply List.eq_nil_iff_forall_not_mem.2
  intro y hy
  rw [mem_bitsN (h.lt x), h.bit, hg] at hy
  simp at hy
end Go.Proofs.Ytoipleipokpnaaa.Code
end
section
namespace Go.Proofs.Ytoipleipokpnaaa.Code
open Go Go.Ab Go.RowKit Go.ChangeShapes Go.WideShapes
variable {H : Type} {enc : TypeId × Value → H} {P : Program} {W W' : World} {base : Nat} {spare : Nat → Bool} {held : Bool}
end Go.Proofs.Ytoipleipokpnaaa.Code
end
section
namespace Go.Proofs.Ytoipleipokpnaaa.Code
open Go Go.Ab
variable {pure : Bool} {base bar : Nat} {H : Heap} {Q : AV → Heap → Prop} {K : AV → Heap → List Nat → Prop}
end Go.Proofs.Ytoipleipokpnaaa.Code
end
section
namespace Go.Proofs.Ytoipleipokpnaaa.Code
open Go Go.Ab
variable {pure : Bool} {base bar : Nat} {H : Heap} {Q : AV → Heap → Prop} {K : AV → Heap → List Nat → Prop}
end Go.Proofs.Ytoipleipokpnaaa.Code
end
section
namespace Go.Proofs.Ytoipleipokpnaaa.Code
open Go Go.Ab
variable {pure : Bool} {base bar : Nat} {H : Heap} {Q : AV → Heap → Prop} {K : AV → Heap → List Nat → Prop}
end Go.Proofs.Ytoipleipokpnaaa.Code
end
section
namespace Go.Proofs.Ytoipleipokpnaaa.Code
open Go Go.Ab
end Go.Proofs.Ytoipleipokpnaaa.Code
end
section
namespace Go.Proofs.Ytoipleipokpnaaa.Code
open Go Go.Ab
variable {pure : Bool} {base bar : Nat} {H : Heap} {Q : AV → Heap → Prop} {K : AV → Heap → List Nat → Prop}
/-! Reach: ring by ring -/
structure Bal (n : Nat) (D : Nat → Nat → Nat) (k r all : Nat) : Prop where
  lt : all < 512
  mem : ∀ x, all.testBit x = true ↔ x < n ∧ D k x ≤ r
theorem Bal.start {n k : Nat} {f : Nat → Nat → Bool} {D : Nat → Nat → Nat} (hT : TM (fun x => x < n) f D) (hn : n ≤ 9) (hk : k < n) : Bal n D k 0 (pw k) :=
  ⟨pw9 (by omega), fun x => by
    rw [testBit_pw, decide_eq_true_iff]
    constructor
    · rintro rfl; exact ⟨hk, by rw [hT.zero hk]; omega⟩
    · rintro ⟨h1, h2⟩; exact hT.eq hk h1 (by omega)⟩
theorem Bal.step {n k r all : Nat} {l : List ZZ} {w : Nat → Nat} {D : Nat → Nat → Nat} (hT : TM (fun x => x < n) (tieB l) D) (hw : Wd n l w) (hk : k < n) (h : Bal n D k r all) : Bal n D k (r + 1) (nextF w (bitsN all) all) :=
  ⟨nextF_lt hw.lt h.lt, fun x => by
    rw [nextF_bit, h.mem]
    constructor
    · rintro (⟨h1, h2⟩ | ⟨a, h1, h2⟩)
      · exact ⟨h1, by omega⟩
      · rw [mem_bitsN h.lt, h.mem] at h1
        rw [hw.bit] at h2
        have := hT.step hk h2
        exact ⟨(hT.inV h2).2.1, by omega⟩
    · rintro ⟨h1, h2⟩
      by_cases e : D k x ≤ r
      · exact .inl ⟨h1, e⟩
      · right
        have hne : k ≠ x := fun e' => by subst e'; rw [hT.zero hk] at e; omega
        obtain ⟨b, b1, b2, _⟩ := hT.par hk h1 hne
        refine ⟨b, (mem_bitsN h.lt).2 ((h.mem b).2 ⟨(hT.inV b1).2.1, by omega⟩), ?_⟩
        rw [hw.bit]; exact hT.symF b1⟩
def rchF (n : Nat) (D : Nat → Nat → Nat) (k : Nat) : Nat := mx n (D k)
theorem Bal.full {n k r all : Nat} {D : Nat → Nat → Nat} (h : Bal n D k r all) : all = pw n - 1 ↔ rchF n D k ≤ r := by
  rw [full_iff fun x hx => ((h.mem x).1 hx).1]
  constructor
  · intro h1; exact mx_le fun x hx => ((h.mem x).1 (h1 x hx)).2
  · intro h1 x hx; exact (h.mem x).2 ⟨hx, Nat.le_trans (le_mx hx) h1⟩
theorem l131a {v1 v5 v12 v13 v7 lv : AV} {n : Nat} {w : Nat → Nat} {L : List Nat} (h : RW v1 n w H) (hn : n ≤ 9) (hw : ∀ i, w i < 512) (hl : isL lv L) (hL : ∀ a ∈ L, a < n) (hlen : L.length ≤ 9) {R : PQ} :
    ∀ (k i : Nat), i + k = L.length → ∀ s, s < 512 →
    R (.exit 4) [(1, v1), (5, v5), (12, v12), (13, v13), (7, v7), (8, .int .u16 (nextF w (L.drop i) s : Nat)), (27, lv), (28, .int .i64 (L.length : Nat)), (29, .int .i64 (L.length : Nat)), (30, .bool false)] H →
    Wp E base bar (.loop c131_l0) [(1, v1), (5, v5), (12, v12), (13, v13), (7, v7), (8, .int .u16 (s : Nat)), (27, lv), (28, .int .i64 (L.length : Nat)), (29, .int .i64 (i : Nat))] H R := by
  intro k
  induction k with
  | zero =>
    intro i hi s hs k
    obtain rfl : i = L.length := by omega
    rw [List.drop_length] at k
    rw [wp_round c131_l0.eq_1]
    simp [go_sem]
    exact k
  | succ k ih =>
    intro i hi s hs k
    have hlt : i < L.length := by omega
    have ha := hL _ (List.getElem_mem hlt)
    obtain ⟨p, p1, p2⟩ := h.ix ha
    have e1 := or_u16 hs (hw L[i])
    rw [List.drop_eq_getElem_cons hlt] at k
    rw [wp_round c131_l0.eq_1]
    simp [go_sem, hlt, hl.ix hlt, p1, p2, e1, i64_suc (show i < 1000000 by omega)]
    exact ih (i + 1) (by omega) _ (bor9 hs (hw _)) k
theorem l131b {v5 v13 : AV} {n k0 : Nat} {ex : Bool} {l : List ZZ} {w : Nat → Nat} {D : Nat → Nat → Nat} (hT : TM (fun x => x < n) (tieB l) D) (hw : Wd n l w) (hn : n ≤ 9) (hk : k0 < n) (hb : bar ≤ H.length) {R : PQ} :
    ∀ (m r : Nat), r + m = rchF n D k0 → ∀ all, Bal n D k0 r all → rchF n D k0 < 1000 →
    (∀ v, R (.exit 2) [(1, .lst 1 ex (wc n w)), (5, v5), (12, .int .i64 (n : Nat)), (13, v13), (7, .int .i64 (rchF n D k0 : Nat)), (8, v), (23, .bool false)] H) →
    Wp E base bar (.loop c131_l1) [(1, .lst 1 ex (wc n w)), (5, v5), (12, .int .i64 (n : Nat)), (13, v13), (7, .int .i64 (r : Nat)), (8, .int .u16 (all : Nat))] H R := by
  have e1 := shl_u16 (show n < 10 by omega)
  have e2 : IntKind.u16.wrap (((pw n : Nat) : Int) - 1) = ((pw n - 1 : Nat) : Int) := by
    have : pw n ≤ 512 := by
      have := Nat.pow_le_pow_right (n := 2) (by decide) hn
      unfold pw; omega
    have : 0 < pw n := by unfold pw; exact Nat.pow_pos (by decide)
    rw [Go.IntWalk.u16_in _ (by omega)]; omega
  intro m
  induction m with
  | zero =>
    intro r hr all hB h9 h
    obtain rfl : r = rchF n D k0 := by omega
    have hfull := hB.full.2 (Nat.le_refl _)
    rw [wp_round c131_l1.eq_1]
    simp [go_sem, wc_len, e1, e2, hfull]
    rw [← hfull]
    exact h _
  | succ m ih =>
    intro r hr all hB h9 h
    have hnf : ¬ all = pw n - 1 := fun e => by have := hB.full.1 e; omega
    have hnf' : ¬ (all : Int) = ((pw n - 1 : Nat) : Int) := by omega
    have hout : isL (outL 1 (nats (bitsN all))) (bitsN all) := isL.out
    have hL : ∀ a ∈ bitsN all, a < n := fun a ha => ((hB.mem a).1 ((mem_bitsN hB.lt).1 ha)).1
    have hnext := ih (r + 1) (by omega) _ (hB.step hT hw hk) h9 h
    have la := fun {R : PQ} hR => l131a (R := R) (base := base) (bar := bar) (H := H) (v1 := .lst 1 ex (wc n w)) (v5 := v5) (v12 := .int .i64 (n : Nat)) (v13 := v13) (v7 := .int .i64 (r : Nat)) RW.lst hn hw.lt hout hL bitsN_len (bitsN all).length 0 (by omega) all hB.lt hR
    rw [List.drop_zero] at la
    generalize pw n - 1 = P at *
    rw [wp_round c131_l1.eq_1]
    simp [go_sem, wc_len, e1, e2, hnf, hnf']
    refine k58 hB.lt hb ?_
    simp [go_sem, hout.len]
    refine la ?_
    simp [go_sem, i64_suc (show r < 1000000 by omega)]
    exact hnext
def rchL (n : Nat) (D : Nat → Nat → Nat) : List Nat := (List.range n).map (rchF n D)
theorem l131c {n : Nat} {ex : Bool} {l : List ZZ} {w : Nat → Nat} {D : Nat → Nat → Nat} {H0 : Heap} (hT : TM (fun x => x < n) (tieB l) D) (hw : Wd n l w) (hD : ∀ x y, x < n → y < n → D x y < n) (hn : n ≤ 9) (hb : bar ≤ H0.length) (hbase : base ≤ H0.length) {R : PQ} : ∀ (k i : Nat), i + k = n → ∀ (v : AV) (H : Heap), Grow 1 (nats ((List.range i).map (rchF n D))) H0 v H →
    (∀ v' H', Grow 1 (nats (rchL n D)) H0 v' H' → R (.exit 0) [(1, .lst 1 ex (wc n w)), (5, v'), (12, .int .i64 (n : Nat)), (13, .int .i64 (n : Nat)), (14, .bool false)] H') →
    Wp E base bar (.loop c131_l2) [(1, .lst 1 ex (wc n w)), (5, v), (12, .int .i64 (n : Nat)), (13, .int .i64 (i : Nat))] H R := by
  intro k
  induction k with
  | zero =>
    intro i hi v H gr h
    obtain rfl : i = n := by omega
    rw [wp_round c131_l2.eq_1]
    simp [go_sem]
    exact h v H gr
  | succ k ih =>
    intro i hi v H gr h
    have hlt : i < n := by omega
    have gl := gr.len
    have hnext := fun v H gr => ih (i + 1) (by omega) v H gr h
    rw [List.range_succ, List.map_append, List.map_cons, List.map_nil] at hnext
    have hr : rchF n D i ≤ n := mx_le fun x hx => by have := hD i x hlt hx; omega
    have e1 := shl_u16 (show i < 10 by omega)
    have lb := fun {R : PQ} {v5 v13 : AV} {base bar : Nat} hb hR => l131b (R := R) (base := base) (bar := bar) (H := H) (ex := ex) (v5 := v5) (v13 := v13) hT hw hn hlt hb (rchF n D i) 0 (by omega) _ (Bal.start hT hn hlt) (by omega) hR
    rw [wp_round c131_l2.eq_1]
    simp [go_sem, hlt, e1]
    refine lb (by omega) fun v8 => ?_
    simp [go_sem, aop, fillA, setCells, AV.cells, chunks]
    refine gr.nat hb hbase (by simp; omega) fun v' H' tc gr' => ?_
    simp [go_sem, i64_suc (show i < 1000000 by omega)]
    exact hnext v' H' gr'
theorem k131 {n : Nat} {ex : Bool} {l : List ZZ} {w : Nat → Nat} {D : Nat → Nat → Nat} (hT : TM (fun x => x < n) (tieB l) D) (hw : Wd n l w) (hD : ∀ x y, x < n → y < n → D x y < n) (hn : n ≤ 9) (hbar : bar ≤ H.length)
    (h : ∀ u, isL u (rchL n D) → Q (.ifc 28 u) H) : WpCall E pure base bar 131 [.agg [], .lst 1 ex (wc n w)] H Q := by
  rw [call131]
  have e0 : frzAll bar H [.agg [], .lst 1 ex (wc n w)] = some ([.agg [], .lst 1 ex (wc n w)], H) := rfl
  rw [e0]
  have hb' : (if pure = true then H.length else bar) ≤ H.length := bar_if hbar
  simp [go_sem, WpFun, c131, aload, AV.isTup, AV.cells, wc_len]
  refine l131c (H0 := H ++ [.row 0 [] 0 true]) hT hw hD hn (by rw [List.length_append]; omega) (by simp) n 0 (by omega) .nils _ (by simpa [nats] using Grow.nil) fun v' H' gr => ?_
  obtain ⟨H2, f1, f2, f3, f4⟩ := gr.frz (d := 5) (bar := if pure = true then H.length else bar) (by decide) (Nat.one_dvd _) nats_plain (by rw [List.length_append]; omega)
  have hu : isL (outL 1 (nats (rchL n D))) (rchL n D) := isL.out
  have hk := h _ hu
  have e3 : H2.take H.length = H := by
    have := congrArg (List.take H.length) f4
    rw [List.take_take] at this
    simp at this
    exact this
  simp [go_sem, aop, Opd.evo, (Grow.one gr).1, f1, ifc_frz hu, ifc_top hu, e3]
  exact hk
end Go.Proofs.Ytoipleipokpnaaa.Code
end
section
namespace Go.Proofs.Ytoipleipokpnaaa.Code
open Go Go.Ab
variable {pure : Bool} {base bar : Nat} {H : Heap} {Q : AV → Heap → Prop} {K : AV → Heap → List Nat → Prop}
/-- distances of a tree, if it is one -/
def TrD (n : Int) (l : List ZZ) (D : Nat → Nat → Nat) : Prop := errT n l = 0 → ∀ m : Nat, n = m → TM (fun x => x < m) (tieB l) D ∧ ∀ x y, x < m → y < m → D x y < m
theorem wd_ex {n : Nat} {l : List ZZ} (hn : n ≤ 9) (he : errL n [] l = 0) : ∃ w, Wd n l w := by
  obtain ⟨w', k1, _⟩ := wd_sum hn (r := l) Wd.nil he (by simp [bitsN_zero, Sm_zero])
  rw [List.nil_append] at k1
  exact ⟨w', k1⟩
theorem trD_ex {n : Int} {l : List ZZ} : ∃ D, TrD n l D := by
  by_cases h : errT n l = 0
  · obtain ⟨m, rfl, h1, h9, hv, hE, hlen, hc⟩ := errT_ok h
    obtain ⟨w, hw⟩ := wd_ex h9 hE
    obtain ⟨D, d1, d2⟩ := tree_tm h9 h1 hw hE hlen hc
    refine ⟨D, fun _ m' e => ?_⟩
    obtain rfl : m = m' := by omega
    exact ⟨d1, d2⟩
  · exact ⟨fun _ _ => 0, fun h' => absurd h' h⟩
theorem k131v {id ver n fz : Nat} {l : List ZZ} {w : Nat → Nat} {D : Nat → Nat → Nat} {ex : Bool} (hid : H[id]? = some (.row ver (wc n w) fz ex)) (hib : bar ≤ id) (hn : n ≤ 9) (hT : TM (fun x => x < n) (tieB l) D) (hw : Wd n l w) (hD : ∀ x y, x < n → y < n → D x y < n)
    (h : ∀ u b, isL u (rchL n D) → Q (.ifc 28 u) (H.set id b)) : WpCall E pure base bar 131 [.agg [], .vec id ver 0 n 1] H Q := by
  have hlt := (List.getElem?_eq_some_iff.1 hid).1
  obtain ⟨b, f1⟩ := wood_frz (d := 5) hid hib
  have k := k131 (pure := pure) (base := base) (bar := bar) (H := H.set id b) (Q := Q) (ex := false) hT hw hD hn (by simp; omega) fun u hu => h u b hu
  have e1 : frzAll bar H [.agg [], .vec id ver 0 n 1] = some ([.agg [], .lst 1 false (wc n w)], H.set id b) := by
    have : frz 8 bar H (.agg []) = some (.agg [], H) := rfl
    simp [frzAll, frz.frzs, frzsW, f1, this]
  have e2 : frzAll bar (H.set id b) [.agg [], .lst 1 false (wc n w)] = some ([.agg [], .lst 1 false (wc n w)], H.set id b) := rfl
  rw [call131, e2] at k
  rw [call131, e1]
  exact k
theorem k75r {n : Int} {q : AV} {l : List ZZ} {D : Nat → Nat → Nat} (hD : TrD n l D) (hq : isP q l) (hl : l.length < 1000) (hbar : bar ≤ H.length)
    (h1 : errT n l ≠ 0 → Q (.tup [.nili, .int .i64 (errT n l)]) H)
    (h2 : ∀ (m : Nat) u, n = m → 1 ≤ m → m ≤ 9 → errT n l = 0 → isL u (rchL m D) → Q (.tup [.ifc 28 u, .int .i64 0]) H) : WpCall E pure base bar 75 [.agg [.int .i64 n, q], .ifc 95 (.agg [])] H Q := by
  rw [call75]
  have e0 : frzAll bar H [.agg [.int .i64 n, q], .ifc 95 (.agg [])] = some ([.agg [.int .i64 n, q], .ifc 95 (.agg [])], H) := by simp [frzAll, frz.frzs, frzsW, frz_agg, frz_int, hq.frz, frz_q0]
  rw [e0]
  have hb' : (if pure = true then H.length else bar) ≤ H.length := bar_if hbar
  simp [go_sem, WpFun, c75, hq.isTup, hq.cells, aload, AV.isTup, AV.cells]
  refine k49 hq hl (by simp; omega) (fun G he => ?_) (fun m w hm p1 p2 hw he => ?_)
  · have hh := h1 he
    simp [go_sem, he, frz_nili]
    exact hh
  · have hh := h2 m
    obtain ⟨t1, t2⟩ := hD he m hm
    simp [go_sem, Nat.add_assoc]
    refine k131v (fz := 0) (ex := true) (w := w) (by simp [own_get]) (by omega) p2 t1 hw t2 fun u b hu => ?_
    have hk := hh u hm p1 p2 he hu
    simp [go_sem, ifc_frz hu, ifc_top hu, tops_cons, tops_nil, own_set]
    exact hk
theorem k51r {n : Int} {q : AV} {l : List ZZ} {D : Nat → Nat → Nat} (hD : TrD n l D) (hq : isP q l) (hl : l.length < 1000) (hbar : bar ≤ H.length)
    (h1 : errT n l ≠ 0 → Q (.tup [.nils, .int .i64 (errT n l)]) H)
    (h2 : ∀ (m : Nat) u, n = m → 1 ≤ m → m ≤ 9 → errT n l = 0 → isL u (rchL m D) → Q (.tup [u, .int .i64 0]) H) : WpCall E pure base bar 51 [.agg [.int .i64 n, q], .ifc 95 (.agg [])] H Q := by
  rw [call51]
  have e0 : frzAll bar H [.agg [.int .i64 n, q], .ifc 95 (.agg [])] = some ([.agg [.int .i64 n, q], .ifc 95 (.agg [])], H) := by simp [frzAll, frz.frzs, frzsW, frz_agg, frz_int, hq.frz, frz_q0]
  rw [e0]
  have hb' : (if pure = true then H.length else bar) ≤ H.length := bar_if hbar
  simp [go_sem, WpFun, c51, hq.isTup, hq.cells, aload, AV.isTup, AV.cells]
  refine k75r hD hq hl (by simp; omega) (fun he => ?_) (fun m u hm p1 p2 he hu => ?_)
  · have hh := h1 he
    simp [go_sem, aop, Opd.evo, mres]
    exact hh
  · have hh := h2 m u hm p1 p2 he hu
    simp [go_sem, aop, Opd.evo, mres, hu.frz, hu.top, tops_cons, tops_nil]
    exact hh
theorem k14 {n : Int} {q : AV} {l : List ZZ} {D : Nat → Nat → Nat} (hD : TrD n l D) (hq : isP q l) (hl : l.length < 1000) (hbar : bar ≤ H.length)
    (h1 : errT n l ≠ 0 → Q (.tup [.nils, .int .i64 (errT n l)]) H)
    (h2 : ∀ (m : Nat) u, n = m → 1 ≤ m → m ≤ 9 → errT n l = 0 → isL u (rchL m D) → Q (.tup [u, .int .i64 0]) H) : WpCall E pure base bar 14 [.agg [.int .i64 n, q]] H Q := by
  rw [call14]
  have e0 : frzAll bar H [.agg [.int .i64 n, q]] = some ([.agg [.int .i64 n, q]], H) := by simp [frzAll, frz.frzs, frzsW, frz_agg, frz_int, hq.frz]
  rw [e0]
  have hb' : (if pure = true then H.length else bar) ≤ H.length := bar_if hbar
  simp [go_sem, WpFun, c14, hq.isTup, hq.cells, aload, AV.isTup, AV.cells, aop, Opd.evo, fillA, setCells]
  refine k51r hD hq hl (by simp; omega) (fun he => ?_) (fun m u hm p1 p2 he hu => ?_)
  · have hh := h1 he
    simp [go_sem]
    exact hh
  · have hh := h2 m u hm p1 p2 he hu
    simp [go_sem, hu.frz, hu.top, tops_cons, tops_nil]
    exact hh
end Go.Proofs.Ytoipleipokpnaaa.Code
end
section
namespace Go.Proofs.Ytoipleipokpnaaa.Code
open Go Go.Ab
variable {pure : Bool} {base bar : Nat} {H : Heap} {Q : AV → Heap → Prop} {K : AV → Heap → List Nat → Prop}
/-! rounds: what has at most one tie is taken off -/
/-- lists of sets -/
def msk (ms : List Nat) : List AV := ms.map fun (m : Nat) => .int .u16 (m : Int)
theorem msk_plain {ms : List Nat} : ∀ c ∈ msk ms, Plain c := fun c hc => by
  obtain ⟨x, _, rfl⟩ := List.mem_map.1 hc
  exact Plain.int
theorem msk_len {ms : List Nat} : (msk ms).length = ms.length := by simp [msk]
def isM (v : AV) (ms : List Nat) : Prop := (v = .nils ∧ ms = []) ∨ ∃ ex, v = .lst 1 ex (msk ms)
theorem isM.out {ms : List Nat} : isM (outL 1 (msk ms)) ms := by
  unfold outL
  split
  · rename_i h
    have : ms = [] := by simpa [msk] using h
    subst this; exact .inl ⟨rfl, rfl⟩
  · refine .inr ⟨false, ?_⟩
    rw [Nat.div_one, chunks_one]
theorem isM.len {v : AV} {ms : List Nat} (h : isM v ms) : lenWp (some v) H K = K (.int .i64 (ms.length : Int)) H [] := by
  rcases h with ⟨rfl, rfl⟩ | ⟨ex, rfl⟩
  · rfl
  · rw [lenWp_lst, msk_len]
theorem isM.frz {v : AV} {ms : List Nat} (h : isM v ms) {d : Nat} : Go.Ab.frz (d + 1) bar H v = some (v, H) := by
  rcases h with ⟨rfl, rfl⟩ | ⟨ex, rfl⟩ <;> rfl
theorem isM.top {v : AV} {ms : List Nat} (h : isM v ms) : v.top = 0 := by
  rcases h with ⟨rfl, rfl⟩ | ⟨ex, rfl⟩
  · rfl
  · rw [top_lst]; exact tops_zero fun x hx => by
      simp only [msk, List.mem_map] at hx
      obtain ⟨a, _, rfl⟩ := hx; rfl
theorem isM.ix {v : AV} {ms : List Nat} (h : isM v ms) {k : IntKind} {i : Nat} (hi : i < ms.length) : ixaSWp 1 (some v) (some (.int k (i : Int))) H K = K (.fp (.int .u16 ((ms[i] : Nat) : Int))) H [] := by
  rcases h with ⟨rfl, rfl⟩ | ⟨ex, rfl⟩
  · simp at hi
  · rw [ixaSWp_lst]
    simp only [Int.toNat_natCast]
    rw [show (msk ms)[i]? = some (.int .u16 ((ms[i] : Nat) : Int)) by simp [msk, List.getElem?_eq_getElem hi]]
    simp [valWp_some]
theorem isM.isTup {v : AV} {ms : List Nat} (h : isM v ms) : v.isTup = false := by
  rcases h with ⟨rfl, rfl⟩ | ⟨ex, rfl⟩ <;> rfl
theorem isM.cells {v : AV} {ms : List Nat} (h : isM v ms) : v.cells = [v] := by
  rcases h with ⟨rfl, rfl⟩ | ⟨ex, rfl⟩ <;> rfl
theorem Grow.msk {base bytes : Nat} {ms : List Nat} {H0 : Heap} {v : AV} {ex : Bool} {x : Nat} (g : Grow 1 (msk ms) H0 v H) (hb : bar ≤ H0.length) (hbase : base ≤ H0.length)
    (hlen : (ms.length + 1) * bytes ≤ 140737488355328)
    (h : ∀ v' H' tc, Grow 1 (Code.msk (ms ++ [x])) H0 v' H' → K v' H' tc) : appWp base bar 1 bytes (some v) (some (.lst 1 ex [.int .u16 (x : Int)])) H K := by
  refine g.app (by omega) (Nat.one_dvd _) (fun c hc => ?_) (Nat.one_dvd _) hb hbase ?_ fun v' H' tc g' => h v' H' tc ?_
  · simp [AV.cells] at hc; subst hc; exact Plain.int
  · simpa [msk_len, AV.cells] using hlen
  · simpa [Code.msk, AV.cells] using g'
/-- the lowest bit taken away -/
def lowS (s : Nat) : Nat := if s = 0 then 0 else band s (s - 1)
theorem lowS_u16 {s : Nat} (hs : s < 512) : abin .and (.int .u16 (s : Int)) (.int .u16 (IntKind.u16.wrap ((s : Int) - 1))) = some (.int .u16 ((lowS s : Nat) : Int)) := by
  unfold lowS
  by_cases e : s = 0
  · subst e; rfl
  · rw [if_neg e]
    have : IntKind.u16.wrap ((s : Int) - 1) = ((s - 1 : Nat) : Int) := by rw [Go.IntWalk.u16_in _ (by omega)]; omega
    rw [this, and_u16 hs (by omega)]
theorem lowS_bits : ∀ s, s < 512 → (lowS s = 0 ↔ (bitsN s).length ≤ 1) := by decide +kernel
def offS (w : Nat → Nat) (left k : Nat) : Bool := decide (lowS (band (w k) left) = 0)
def offL (w : Nat → Nat) (left : Nat) (L : List Nat) (s : Nat) : Nat := L.foldl (fun o k => if offS w left k then bor o (pw k) else o) s
theorem offL_lt {w : Nat → Nat} {left : Nat} : ∀ {L : List Nat} {s : Nat}, (∀ a ∈ L, a < 9) → s < 512 → offL w left L s < 512
  | [], _, _, h => h
  | a :: L, s, hL, h => by
    have ha := hL a (List.mem_cons_self ..)
    have e : offL w left (a :: L) s = offL w left L (if offS w left a then bor s (pw a) else s) := rfl
    rw [e]
    refine offL_lt (fun b hb => hL b (List.mem_cons_of_mem _ hb)) ?_
    split
    · exact bor9 h (pw9 ha)
    · exact h
theorem offL_bit {w : Nat → Nat} {left x : Nat} : ∀ {L : List Nat} {s : Nat}, (offL w left L s).testBit x = true ↔ s.testBit x = true ∨ (x ∈ L ∧ offS w left x = true)
  | [], s => by simp [offL]
  | a :: L, s => by
    have e : offL w left (a :: L) s = offL w left L (if offS w left a then bor s (pw a) else s) := rfl
    rw [e, offL_bit]
    cases h : offS w left a with
    | true =>
      rw [if_pos rfl, testBit_bor, Bool.or_eq_true, testBit_pw, decide_eq_true_iff, List.mem_cons]
      constructor
      · rintro ((h1 | rfl) | ⟨h1, h2⟩)
        · exact .inl h1
        · exact .inr ⟨.inl rfl, h⟩
        · exact .inr ⟨.inr h1, h2⟩
      · rintro (h1 | ⟨rfl | h1, h2⟩)
        · exact .inl (.inl h1)
        · exact .inl (.inr rfl)
        · exact .inr ⟨h1, h2⟩
    | false =>
      rw [if_neg (by decide), List.mem_cons]
      constructor
      · rintro (h1 | ⟨h1, h2⟩)
        · exact .inl h1
        · exact .inr ⟨.inr h1, h2⟩
      · rintro (h1 | ⟨rfl | h1, h2⟩)
        · exact .inl h1
        · rw [h] at h2; cases h2
        · exact .inr ⟨h1, h2⟩
def offM (w : Nat → Nat) (left : Nat) : Nat := offL w left (bitsN left) 0
theorem offM_lt {w : Nat → Nat} {left : Nat} : offM w left < 512 := offL_lt (fun a ha => bitsN_lt ha) (by decide)
theorem offM_bit {w : Nat → Nat} {left x : Nat} (hl : left < 512) : (offM w left).testBit x = true ↔ left.testBit x = true ∧ offS w left x = true := by
  unfold offM
  rw [offL_bit, mem_bitsN hl]; simp
def rdsM (w : Nat → Nat) : Nat → Nat → List Nat
  | 0, _ => []
  | t + 1, left => if left = 0 then [] else offM w left :: rdsM w t (bcl left (offM w left))
/-- what is left is a tree -/
structure RS (n : Nat) (l : List ZZ) (D : Nat → Nat → Nat) (left : Nat) : Prop where
  lt : left < 512
  inn : ∀ x, left.testBit x = true → x < n
  tree : TS (tieB l) (fun x => left.testBit x) D
theorem off_leaf {n left x : Nat} {l : List ZZ} {w : Nat → Nat} {D : Nat → Nat → Nat} (hw : Wd n l w) (h : RS n l D left) (hx : left.testBit x = true) : offS w left x = true ↔ LfS (tieB l) (fun x => left.testBit x) x := by
  have hb : band (w x) left < 512 := band9 (hw.lt x)
  have hm : ∀ b, b ∈ bitsN (band (w x) left) ↔ rs (tieB l) (fun x => left.testBit x) x b = true := fun b => by
    rw [mem_bitsN hb, testBit_band, rs_iff, hw.bit, Bool.and_eq_true]
    constructor
    · rintro ⟨h1, h2⟩; exact ⟨h1, hx, h2⟩
    · rintro ⟨h1, _, h2⟩; exact ⟨h1, h2⟩
  have hnd : (bitsN (band (w x) left)).Nodup := (List.nodup_range).filter _
  unfold offS
  rw [decide_eq_true_iff, lowS_bits _ hb]
  constructor
  · intro h1 a b ha hb'
    rw [← hm] at ha hb'
    match hL : bitsN (band (w x) left), h1 with
    | [], _ => rw [hL] at ha; cases ha
    | [c], _ =>
      rw [hL] at ha hb'
      rw [List.mem_singleton.1 ha, List.mem_singleton.1 hb']
  · intro h1
    match hL : bitsN (band (w x) left) with
    | [] => simp
    | [c] => simp
    | c :: d :: r =>
      have hc : c ∈ bitsN (band (w x) left) := by rw [hL]; simp
      have hd : d ∈ bitsN (band (w x) left) := by rw [hL]; simp
      have := h1 c d ((hm c).1 hc) ((hm d).1 hd)
      rw [hL] at hnd
      subst this
      simp at hnd
theorem RS.off {n left : Nat} {l : List ZZ} {w : Nat → Nat} {D : Nat → Nat → Nat} (hw : Wd n l w) (h : RS n l D left) : Off (tieB l) (fun x => left.testBit x) (fun x => (bcl left (offM w left)).testBit x) := fun x => by
  simp only [testBit_bcl h.lt, Bool.and_eq_true, Bool.not_eq_true']
  constructor
  · rintro ⟨h1, h2⟩
    refine ⟨h1, fun hl => ?_⟩
    have := (offM_bit h.lt).2 ⟨h1, (off_leaf hw h h1).2 hl⟩
    rw [h2] at this; cases this
  · rintro ⟨h1, h2⟩
    refine ⟨h1, ?_⟩
    cases e : (offM w left).testBit x with
    | false => rfl
    | true => exact absurd ((off_leaf hw h h1).1 ((offM_bit h.lt).1 e).2) h2
theorem RS.step {n left : Nat} {l : List ZZ} {w : Nat → Nat} {D : Nat → Nat → Nat} (hw : Wd n l w) (h : RS n l D left) : RS n l D (bcl left (offM w left)) :=
  ⟨bcl9 h.lt, fun x hx => h.inn x ((h.off hw x).1 hx).1, h.tree.round (h.off hw)⟩
theorem RS.some {n left : Nat} {l : List ZZ} {w : Nat → Nat} {D : Nat → Nat → Nat} (hw : Wd n l w) (h : RS n l D left) (h0 : left ≠ 0) : offM w left ≠ 0 := fun e => by
  obtain ⟨x, hx⟩ : ∃ x, left.testBit x = true := Nat.exists_testBit_of_ne_zero h0
  obtain ⟨y, y1, y2⟩ := ecc_get (n := n) h.tree hx
  have hl := h.tree.has_leaf h.inn hx y1 y2
  have := (offM_bit h.lt).2 ⟨y1, (off_leaf hw h y1).2 hl⟩
  rw [e] at this; simp at this
theorem bits_lt : ∀ a, a < 512 → ∀ b, b < 512 → b ≠ 0 → band a b = b → (bitsN (bcl a b)).length < (bitsN a).length := by
  intro a ha b hb h0 hab
  obtain ⟨x, hx⟩ : ∃ x, b.testBit x = true := Nat.exists_testBit_of_ne_zero h0
  have hxa : a.testBit x = true := by
    have : (band a b).testBit x = true := by rw [hab]; exact hx
    rw [testBit_band, Bool.and_eq_true] at this
    exact this.1
  have hx9 := bit9 ha hxa
  have hsub : bitsN (bcl a b) = (bitsN a).filter fun i => !b.testBit i := by
    unfold bitsN
    rw [List.filter_filter]
    congr 1; funext i
    rw [testBit_bcl ha, Bool.and_comm]
  rw [hsub]
  refine List.length_filter_lt_length_iff_exists.2 ⟨x, (mem_bitsN ha).2 hxa, by simp [hx]⟩
theorem RS.fuel {n left : Nat} {l : List ZZ} {w : Nat → Nat} {D : Nat → Nat → Nat} (hw : Wd n l w) (h : RS n l D left) (h0 : left ≠ 0) : (bitsN (bcl left (offM w left))).length < (bitsN left).length := by
  refine bits_lt _ h.lt _ offM_lt (h.some hw h0) ?_
  apply Nat.eq_of_testBit_eq
  intro x
  rw [testBit_band]
  cases e : (offM w left).testBit x with
  | false => simp
  | true => rw [((offM_bit h.lt).1 e).1]; rfl
end Go.Proofs.Ytoipleipokpnaaa.Code
end
section
namespace Go.Proofs.Ytoipleipokpnaaa.Code
open Go Go.Ab
variable {pure : Bool} {base bar : Nat} {H : Heap} {Q : AV → Heap → Prop} {K : AV → Heap → List Nat → Prop}
theorem pwm_bit {n x : Nat} : (pw n - 1).testBit x = decide (x < n) := by unfold pw; exact Nat.testBit_two_pow_sub_one ..
theorem pwm_lt {n : Nat} (hn : n ≤ 9) : pw n - 1 < 512 := by
  have : pw n ≤ 512 := by
    have := Nat.pow_le_pow_right (n := 2) (by decide) hn
    unfold pw; omega
  omega
theorem u16_pwm {n : Nat} (hn : n ≤ 9) : IntKind.u16.wrap (((pw n : Nat) : Int) - 1) = ((pw n - 1 : Nat) : Int) := by
  have := pwm_lt hn
  have : 0 < pw n := by unfold pw; exact Nat.pow_pos (by decide)
  rw [Go.IntWalk.u16_in _ (by omega)]; omega
theorem RS.start {n : Nat} {l : List ZZ} {D : Nat → Nat → Nat} (hn : n ≤ 9) (hT : TM (fun x => x < n) (tieB l) D) : RS n l D (pw n - 1) := by
  refine ⟨pwm_lt hn, fun x hx => ?_, hT.congr (fun x => ?_) fun a b => ?_⟩
  · rw [pwm_bit] at hx; simpa using hx
  · simp only [pwm_bit]; simp
  · unfold rs
    simp only [pwm_bit]
    cases e : tieB l a b with
    | false => rfl
    | true =>
      obtain ⟨h1, h2, _⟩ := hT.inV e
      simp [h1, h2]
theorem l57a {v0 v3 lv : AV} {n left : Nat} {w : Nat → Nat} {L : List Nat} (h : RW v0 n w H) (hn : n ≤ 9) (hw : ∀ i, w i < 512) (hleft : left < 512) (hl : isL lv L) (hL : ∀ a ∈ L, a < n) (hlen : L.length ≤ 9) {R : PQ} :
    ∀ (k i : Nat), i + k = L.length → ∀ s, s < 512 →
    R (.exit 2) [(0, v0), (3, v3), (4, .int .u16 (left : Nat)), (5, .int .u16 (offL w left (L.drop i) s : Nat)), (18, lv), (19, .int .i64 (L.length : Nat)), (20, .int .i64 (L.length : Nat)), (21, .bool false)] H →
    Wp E base bar (.loop c57_l0) [(0, v0), (3, v3), (4, .int .u16 (left : Nat)), (5, .int .u16 (s : Nat)), (18, lv), (19, .int .i64 (L.length : Nat)), (20, .int .i64 (i : Nat))] H R := by
  intro k
  induction k with
  | zero =>
    intro i hi s hs k
    obtain rfl : i = L.length := by omega
    rw [List.drop_length] at k
    rw [wp_round c57_l0.eq_1]
    simp [go_sem]
    exact k
  | succ k ih =>
    intro i hi s hs k
    have hlt : i < L.length := by omega
    have ha := hL _ (List.getElem_mem hlt)
    obtain ⟨p, p1, p2⟩ := h.ix ha
    rw [List.drop_eq_getElem_cons hlt] at k
    have hix := fun (H : Heap) (K : AV → Heap → List Nat → Prop) => hl.ix (H := H) (K := K) (k := .i64) hlt
    have hnext := fun s hs => ih (i + 1) (by omega) s hs
    generalize L[i] = a at *
    have hb : band (w a) left < 512 := band9 (hw a)
    have e1 := and_u16 (hw a) hleft
    have e2 := lowS_u16 hb
    have e3 := shl_u16 (show a < 10 by omega)
    have e4 := or_u16 hs (pw9 (show a < 9 by omega))
    have e5 : offL w left (a :: L.drop (i + 1)) s = offL w left (L.drop (i + 1)) (if offS w left a then bor s (pw a) else s) := rfl
    rw [e5] at k
    have eo : offS w left a = decide (lowS (band (w a) left) = 0) := rfl
    rw [eo] at k
    generalize lowS (band (w a) left) = z at *
    rw [wp_round c57_l0.eq_1]
    by_cases c : z = 0
    · subst c
      simp at k
      simp [go_sem, hlt, hix, p1, p2, e1, e2, e3, e4, i64_suc (show i < 1000000 by omega)]
      exact hnext _ (bor9 hs (pw9 (by omega))) k
    · have c' : ¬ (z : Int) = 0 := by omega
      simp [c] at k
      simp [go_sem, hlt, hix, p1, p2, e1, e2, c, c', i64_suc (show i < 1000000 by omega)]
      exact hnext _ hs k
theorem bits_none {s : Nat} (hs : s < 512) (h : (bitsN s).length = 0) : s = 0 := by
  apply Decidable.byContradiction
  intro e
  obtain ⟨x, hx⟩ : ∃ x, s.testBit x = true := Nat.exists_testBit_of_ne_zero e
  have := List.length_pos_of_mem ((mem_bitsN hs).2 hx)
  omega
theorem l57b {n id : Nat} {l : List ZZ} {w : Nat → Nat} {D : Nat → Nat → Nat} {H0 : Heap} (hw : Wd n l w) (hn : n ≤ 9) (hid : H0[id]? = some (.row 0 (wc n w) 0 false)) (hb : bar ≤ H0.length) (hbase : base ≤ H0.length) {R : PQ} :
    ∀ (t left : Nat) (ms : List Nat) (v : AV) (H : Heap), RS n l D left → (bitsN left).length ≤ t → Grow 1 (msk ms) H0 v H → ms.length + t < 1000 →
    (∀ v' H', Grow 1 (msk (ms ++ rdsM w t left)) H0 v' H' → R (.exit 0) [(0, .vec id 0 0 n 1), (3, v'), (4, .int .u16 0), (16, .bool false)] H') →
    Wp E base bar (.loop c57_l1) [(0, .vec id 0 0 n 1), (3, v), (4, .int .u16 (left : Nat))] H R := by
  intro t
  induction t with
  | zero =>
    intro left ms v H hR ht gr hlen h
    obtain rfl := bits_none hR.lt (by omega)
    simp only [rdsM, List.append_nil] at h
    rw [wp_round c57_l1.eq_1]
    simp [go_sem]
    exact h v H gr
  | succ t ih =>
    intro left ms v H hR ht gr hlen h
    by_cases e0 : left = 0
    · subst e0
      simp only [rdsM, if_true, List.append_nil] at h
      rw [wp_round c57_l1.eq_1]
      simp [go_sem]
      exact h v H gr
    · simp only [rdsM, if_neg e0] at h
      have e0' : ¬ (left : Int) = 0 := by omega
      have hf := hR.fuel hw e0
      have hout : isL (outL 1 (nats (bitsN left))) (bitsN left) := isL.out
      have hL : ∀ a ∈ bitsN left, a < n := fun a ha => hR.inn a ((mem_bitsN hR.lt).1 ha)
      have gl := gr.len
      have la := fun {R : PQ} {base bar : Nat} hR' => l57a (R := R) (base := base) (bar := bar) (H := H) (v0 := .vec id 0 0 n 1) (v3 := v) (RW.vec (gr.get hid)) hn hw.lt hR.lt hout hL bitsN_len (bitsN left).length 0 (by omega) 0 (by decide) hR'
      rw [List.drop_zero] at la
      have eo : offL w left (bitsN left) 0 = offM w left := rfl
      rw [eo] at la
      have ea := andNot_u16 hR.lt (offM_lt (w := w) (left := left))
      have hnext := fun v H gr => ih (bcl left (offM w left)) (ms ++ [offM w left]) v H (hR.step hw) (by omega) gr (by simp; omega) (fun v' H' gr' => h v' H' (by simpa using gr'))
      generalize offM w left = o at *
      rw [wp_round c57_l1.eq_1]
      simp [go_sem, e0, e0']
      refine k58 hR.lt (by omega) ?_
      simp [go_sem, hout.len]
      refine la ?_
      simp [go_sem, ea, aop, fillA, setCells, AV.cells, chunks]
      refine Grow.msk gr hb hbase (by omega) fun v' H' tc gr' => ?_
      simp [go_sem, ea]
      exact hnext v' H' gr'
def rdsW (n : Nat) (w : Nat → Nat) : List Nat := rdsM w 9 (pw n - 1)
theorem rdsM_len {w : Nat → Nat} : ∀ {t left : Nat}, (rdsM w t left).length ≤ t
  | 0, _ => Nat.le_refl 0
  | t + 1, left => by
    simp only [rdsM]
    split
    · simp
    · have := rdsM_len (w := w) (t := t) (left := bcl left (offM w left))
      simp; omega
theorem k57 {n : Nat} {ex : Bool} {l : List ZZ} {w : Nat → Nat} {D : Nat → Nat → Nat} (hT : TM (fun x => x < n) (tieB l) D) (hw : Wd n l w) (hn : n ≤ 9) (h1 : 1 ≤ n) (hbar : bar ≤ H.length)
    (h : ∀ u, isM u (rdsW n w) → Q u H) : WpCall E pure base bar 57 [.lst 1 ex (wc n w)] H Q := by
  rw [call57]
  have e0 : frzAll bar H [.lst 1 ex (wc n w)] = some ([.lst 1 ex (wc n w)], H) := rfl
  rw [e0]
  have hb' : (if pure = true then H.length else bar) ≤ H.length := bar_if hbar
  have e1 := shl_u16 (show n < 10 by omega)
  have e2 := u16_pwm hn
  have hRS := RS.start hn hT
  simp [go_sem, WpFun, c57]
  refine k76 h1 hn ?_
  simp [go_sem, e1, e2]
  refine l57b (H0 := H ++ [.row 0 (wc n w) 0 false]) hw hn (by simp) (by simp; omega) (by simp) 9 _ [] .nils _ hRS bitsN_len (by simpa [msk] using Grow.nil) (by simp) fun v' H' gr => ?_
  rw [List.nil_append] at gr
  obtain ⟨H2, f1, f2, f3, f4⟩ := gr.frz (d := 5) (bar := if pure = true then H.length else bar) (by decide) (Nat.one_dvd _) msk_plain (by rw [List.length_append]; omega)
  have hu : isM (outL 1 (msk (rdsW n w))) (rdsW n w) := isM.out
  have hk := h _ hu
  have e3 : H2.take H.length = H := by
    have := congrArg (List.take H.length) f4
    rw [List.take_take] at this
    simp at this
    exact this
  have eR : rdsM w 9 (pw n - 1) = rdsW n w := rfl
  rw [eR] at f1
  simp [go_sem, aop, Opd.evo, (Grow.one gr).1, f1, hu.top, e3]
  exact hk
theorem k57v {id ver n fz : Nat} {ex : Bool} {l : List ZZ} {w : Nat → Nat} {D : Nat → Nat → Nat} (hid : H[id]? = some (.row ver (wc n w) fz ex)) (hib : bar ≤ id) (hT : TM (fun x => x < n) (tieB l) D) (hw : Wd n l w) (hn : n ≤ 9) (h1 : 1 ≤ n)
    (h : ∀ u b, isM u (rdsW n w) → Q u (H.set id b)) : WpCall E pure base bar 57 [.vec id ver 0 n 1] H Q := by
  have hlt := (List.getElem?_eq_some_iff.1 hid).1
  obtain ⟨b, f1⟩ := wood_frz (d := 5) hid hib
  have k := k57 (pure := pure) (base := base) (bar := bar) (H := H.set id b) (Q := Q) (ex := false) hT hw hn h1 (by simp; omega) fun u hu => h u b hu
  have e1 : frzAll bar H [.vec id ver 0 n 1] = some ([.lst 1 false (wc n w)], H.set id b) := by
    simp [frzAll, frz.frzs, frzsW, f1]
  have e2 : frzAll bar (H.set id b) [.lst 1 false (wc n w)] = some ([.lst 1 false (wc n w)], H.set id b) := rfl
  rw [call57, e2] at k
  rw [call57, e1]
  exact k
end Go.Proofs.Ytoipleipokpnaaa.Code
end
section
namespace Go.Proofs.Ytoipleipokpnaaa.Code
open Go Go.Ab
variable {pure : Bool} {base bar : Nat} {H : Heap} {Q : AV → Heap → Prop} {K : AV → Heap → List Nat → Prop}
/-! Middle: what is taken off last -/
def lastM (n : Nat) (w : Nat → Nat) : Nat := (rdsW n w).getLastD 0
theorem rdsM_lt {w : Nat → Nat} : ∀ {t left : Nat}, ∀ m ∈ rdsM w t left, m < 512
  | 0, _, m, h => by cases h
  | t + 1, left, m, h => by
    simp only [rdsM] at h
    split at h
    · cases h
    · rcases List.mem_cons.1 h with rfl | h
      · exact offM_lt
      · exact rdsM_lt m h
theorem lastM_lt {n : Nat} {w : Nat → Nat} : lastM n w < 512 := by
  unfold lastM
  cases h : rdsW n w with
  | nil => decide
  | cons a r =>
    rw [List.getLastD_eq_getLast?, List.getLast?_eq_some_getLast (by simp)]
    simp only [Option.getD_some]
    refine rdsM_lt (w := w) (t := 9) (left := pw n - 1) _ ?_
    have e : rdsM w 9 (pw n - 1) = a :: r := h
    rw [e]; exact List.getLast_mem _
theorem rdsW_pos {n : Nat} {w : Nat → Nat} (h1 : 1 ≤ n) : 1 ≤ (rdsW n w).length := by
  unfold rdsW
  have : pw n - 1 ≠ 0 := by
    have := Nat.pow_le_pow_right (n := 2) (by decide) h1
    unfold pw; omega
  simp [rdsM, this]
theorem frz_ifc {t : TypeId} {v : AV} {d : Nat} : frz (d + 1) bar H (.ifc t v) = some (.ifc t v, H) := rfl
theorem k132 {n : Nat} {ex : Bool} {l : List ZZ} {w : Nat → Nat} {D : Nat → Nat → Nat} (hT : TM (fun x => x < n) (tieB l) D) (hw : Wd n l w) (hn : n ≤ 9) (h1 : 1 ≤ n) (hbar : bar ≤ H.length)
    (h : Q (.ifc 100 (.int .u16 (lastM n w : Nat))) H) : WpCall E pure base bar 132 [.agg [], .lst 1 ex (wc n w)] H Q := by
  rw [call132]
  have e0 : frzAll bar H [.agg [], .lst 1 ex (wc n w)] = some ([.agg [], .lst 1 ex (wc n w)], H) := rfl
  rw [e0]
  have hb' : (if pure = true then H.length else bar) ≤ H.length := bar_if hbar
  simp [go_sem, WpFun, c132, aload, AV.isTup, AV.cells]
  refine k57 hT hw hn h1 (by simp; omega) fun u hu => ?_
  have hp := rdsW_pos (w := w) h1
  have hle : (rdsW n w).length ≤ 9 := rdsM_len
  have hlast : (rdsW n w).length - 1 < (rdsW n w).length := by omega
  have hw1 : IntKind.i64.wrap (((rdsW n w).length : Int) - 1) = (((rdsW n w).length - 1 : Nat) : Int) := by
    rw [Go.IntWalk.i64_in _ (by omega)]; omega
  have hix := fun (H : Heap) (K : AV → Heap → List Nat → Prop) => hu.ix (H := H) (K := K) (k := .i64) hlast
  have eg : (rdsW n w)[(rdsW n w).length - 1] = lastM n w := by
    unfold lastM
    rw [List.getLastD_eq_getLast?, List.getLast?_eq_getElem?, List.getElem?_eq_getElem hlast]; rfl
  rw [eg] at hix
  simp [go_sem, hu.len, hw1, hix, aop, Opd.evo, frz_ifc, AV.top]
  exact h
theorem k132v {id ver n fz : Nat} {l : List ZZ} {w : Nat → Nat} {D : Nat → Nat → Nat} {ex : Bool} (hid : H[id]? = some (.row ver (wc n w) fz ex)) (hib : bar ≤ id) (hn : n ≤ 9) (hT : TM (fun x => x < n) (tieB l) D) (hw : Wd n l w) (hD : ∀ x y, x < n → y < n → D x y < n)
    (h1 : 1 ≤ n) (h : ∀ b, Q (.ifc 100 (.int .u16 (lastM n w : Nat))) (H.set id b)) : WpCall E pure base bar 132 [.agg [], .vec id ver 0 n 1] H Q := by
  have hlt := (List.getElem?_eq_some_iff.1 hid).1
  obtain ⟨b, f1⟩ := wood_frz (d := 5) hid hib
  have k := k132 (pure := pure) (base := base) (bar := bar) (H := H.set id b) (Q := Q) (ex := false) hT hw hn h1 (by simp; omega) (h b)
  have e1 : frzAll bar H [.agg [], .vec id ver 0 n 1] = some ([.agg [], .lst 1 false (wc n w)], H.set id b) := by
    have : frz 8 bar H (.agg []) = some (.agg [], H) := rfl
    simp [frzAll, frz.frzs, frzsW, f1, this]
  have e2 : frzAll bar (H.set id b) [.agg [], .lst 1 false (wc n w)] = some ([.agg [], .lst 1 false (wc n w)], H.set id b) := rfl
  rw [call132, e2] at k
  rw [call132, e1]
  exact k
theorem k75m {n : Int} {q : AV} {l : List ZZ} {D : Nat → Nat → Nat} (hD : TrD n l D) (hq : isP q l) (hl : l.length < 1000) (hbar : bar ≤ H.length)
    (h1 : errT n l ≠ 0 → Q (.tup [.nili, .int .i64 (errT n l)]) H)
    (h2 : ∀ (m : Nat) w, n = m → 1 ≤ m → m ≤ 9 → errT n l = 0 → Wd m l w → Q (.tup [.ifc 100 (.int .u16 (lastM m w : Nat)), .int .i64 0]) H) : WpCall E pure base bar 75 [.agg [.int .i64 n, q], .ifc 97 (.agg [])] H Q := by
  rw [call75]
  have e0 : frzAll bar H [.agg [.int .i64 n, q], .ifc 97 (.agg [])] = some ([.agg [.int .i64 n, q], .ifc 97 (.agg [])], H) := by simp [frzAll, frz.frzs, frzsW, frz_agg, frz_int, hq.frz, frz_q0]
  rw [e0]
  have hb' : (if pure = true then H.length else bar) ≤ H.length := bar_if hbar
  simp [go_sem, WpFun, c75, hq.isTup, hq.cells, aload, AV.isTup, AV.cells]
  refine k49 hq hl (by simp; omega) (fun G he => ?_) (fun m w hm p1 p2 hw he => ?_)
  · have hh := h1 he
    simp [go_sem, he, frz_nili]
    exact hh
  · have hh := h2 m
    obtain ⟨t1, t2⟩ := hD he m hm
    simp [go_sem, Nat.add_assoc]
    refine k132v (fz := 0) (ex := true) (w := w) (by simp [own_get]) (by omega) p2 t1 hw t2 p1 fun b => ?_
    have hk := hh w hm p1 p2 he hw
    simp [go_sem, frz_ifc, AV.top, tops_cons, tops_nil, own_set]
    exact hk
theorem k51m {n : Int} {q : AV} {l : List ZZ} {D : Nat → Nat → Nat} (hD : TrD n l D) (hq : isP q l) (hl : l.length < 1000) (hbar : bar ≤ H.length)
    (h1 : errT n l ≠ 0 → Q (.tup [.nils, .int .i64 (errT n l)]) H)
    (h2 : ∀ (m : Nat) w u, n = m → 1 ≤ m → m ≤ 9 → errT n l = 0 → Wd m l w → isL u (bitsN (lastM m w)) → Q (.tup [u, .int .i64 0]) H) : WpCall E pure base bar 51 [.agg [.int .i64 n, q], .ifc 97 (.agg [])] H Q := by
  rw [call51]
  have e0 : frzAll bar H [.agg [.int .i64 n, q], .ifc 97 (.agg [])] = some ([.agg [.int .i64 n, q], .ifc 97 (.agg [])], H) := by simp [frzAll, frz.frzs, frzsW, frz_agg, frz_int, hq.frz, frz_q0]
  rw [e0]
  have hb' : (if pure = true then H.length else bar) ≤ H.length := bar_if hbar
  simp [go_sem, WpFun, c51, hq.isTup, hq.cells, aload, AV.isTup, AV.cells]
  refine k75m hD hq hl (by simp; omega) (fun he => ?_) (fun m w hm p1 p2 he hw => ?_)
  · have hh := h1 he
    simp [go_sem, aop, Opd.evo, mres]
    exact hh
  · have hu : isL (outL 1 (nats (bitsN (lastM m w)))) (bitsN (lastM m w)) := isL.out
    have hh := h2 m w _ hm p1 p2 he hw hu
    simp [go_sem, aop, Opd.evo, mres]
    refine k58 lastM_lt (by simp; omega) ?_
    simp [go_sem, hu.frz, hu.top, tops_cons, tops_nil]
    exact hh
theorem k16 {n : Int} {q : AV} {l : List ZZ} {D : Nat → Nat → Nat} (hD : TrD n l D) (hq : isP q l) (hl : l.length < 1000) (hbar : bar ≤ H.length)
    (h1 : errT n l ≠ 0 → Q (.tup [.nils, .int .i64 (errT n l)]) H)
    (h2 : ∀ (m : Nat) w u, n = m → 1 ≤ m → m ≤ 9 → errT n l = 0 → Wd m l w → isL u (bitsN (lastM m w)) → Q (.tup [u, .int .i64 0]) H) : WpCall E pure base bar 16 [.agg [.int .i64 n, q]] H Q := by
  rw [call16]
  have e0 : frzAll bar H [.agg [.int .i64 n, q]] = some ([.agg [.int .i64 n, q]], H) := by simp [frzAll, frz.frzs, frzsW, frz_agg, frz_int, hq.frz]
  rw [e0]
  have hb' : (if pure = true then H.length else bar) ≤ H.length := bar_if hbar
  simp [go_sem, WpFun, c16, hq.isTup, hq.cells, aload, AV.isTup, AV.cells, aop, Opd.evo, fillA, setCells]
  refine k51m hD hq hl (by simp; omega) (fun he => ?_) (fun m w u hm p1 p2 he hw hu => ?_)
  · have hh := h1 he
    simp [go_sem]
    exact hh
  · have hh := h2 m w u hm p1 p2 he hw hu
    simp [go_sem, hu.frz, hu.top, tops_cons, tops_nil]
    exact hh
end Go.Proofs.Ytoipleipokpnaaa.Code
end
section
namespace Go.Proofs.Ytoipleipokpnaaa.Code
open Go Go.Ab
variable {pure : Bool} {base bar : Nat} {H : Heap} {Q : AV → Heap → Prop} {K : AV → Heap → List Nat → Prop}
/-! lists of lists -/
def LL : List AV → List (List Nat) → Prop
  | [], [] => True
  | u :: us, l :: ls => isL u l ∧ LL us ls
  | _, _ => False
theorem LL.len : ∀ {us : List AV} {ls : List (List Nat)}, LL us ls → us.length = ls.length
  | [], [], _ => rfl
  | u :: us, l :: ls, h => by simp [LL.len h.2]
  | [], _ :: _, h => h.elim
  | _ :: _, [], h => h.elim
theorem LL.get : ∀ {us : List AV} {ls : List (List Nat)} {i : Nat} (_ : LL us ls) (h1 : i < us.length) (h2 : i < ls.length), isL us[i] ls[i]
  | u :: us, l :: ls, 0, h, _, _ => h.1
  | u :: us, l :: ls, i + 1, h, h1, h2 => LL.get (us := us) (ls := ls) (i := i) h.2 (by simpa using h1) (by simpa using h2)
  | [], _, _, _, h1, _ => by simp at h1
  | _ :: _, [], _, h, _, _ => h.elim
theorem LL.snoc : ∀ {us : List AV} {ls : List (List Nat)} {u : AV} {l : List Nat}, LL us ls → isL u l → LL (us ++ [u]) (ls ++ [l])
  | [], [], _, _, _, h => ⟨h, trivial⟩
  | u :: us, l :: ls, _, _, h, h' => ⟨h.1, LL.snoc h.2 h'⟩
  | [], _ :: _, _, _, h, _ => h.elim
  | _ :: _, [], _, _, h, _ => h.elim
theorem LL.all {P : AV → Prop} (hP : ∀ u l, isL u l → P u) : ∀ {us : List AV} {ls : List (List Nat)}, LL us ls → ∀ c ∈ us, P c
  | [], _, _, c, hc => by cases hc
  | u :: us, l :: ls, h, c, hc => by
    rcases List.mem_cons.1 hc with rfl | hc
    · exact hP _ _ h.1
    · exact LL.all hP h.2 c hc
  | _ :: _, [], h, _, _ => h.elim
def isLL (v : AV) (ls : List (List Nat)) : Prop := (v = .nils ∧ ls = []) ∨ ∃ ex us, v = .lst 1 ex us ∧ LL us ls
theorem isLL.len {v : AV} {ls : List (List Nat)} (h : isLL v ls) : lenWp (some v) H K = K (.int .i64 (ls.length : Int)) H [] := by
  rcases h with ⟨rfl, rfl⟩ | ⟨ex, us, rfl, hu⟩
  · rfl
  · rw [lenWp_lst, hu.len]
theorem isLL.frz {v : AV} {ls : List (List Nat)} (h : isLL v ls) {d : Nat} : Go.Ab.frz (d + 1) bar H v = some (v, H) := by
  rcases h with ⟨rfl, rfl⟩ | ⟨ex, us, rfl, hu⟩ <;> rfl
theorem isLL.top {v : AV} {ls : List (List Nat)} (h : isLL v ls) : v.top = 0 := by
  rcases h with ⟨rfl, rfl⟩ | ⟨ex, us, rfl, hu⟩
  · rfl
  · rw [top_lst]; exact tops_zero fun x hx => LL.all (P := fun c => c.top = 0) (fun u l h => h.top) hu x hx
theorem isLL.isTup {v : AV} {ls : List (List Nat)} (h : isLL v ls) : v.isTup = false := by
  rcases h with ⟨rfl, rfl⟩ | ⟨ex, us, rfl, hu⟩ <;> rfl
theorem isLL.cells {v : AV} {ls : List (List Nat)} (h : isLL v ls) : v.cells = [v] := by
  rcases h with ⟨rfl, rfl⟩ | ⟨ex, us, rfl, hu⟩ <;> rfl
theorem isLL.ix {v : AV} {ls : List (List Nat)} (h : isLL v ls) {i : Nat} (hi : i < ls.length) : ∃ u, isL u ls[i] ∧ ∀ {H : Heap} {K : AV → Heap → List Nat → Prop} {k : IntKind}, ixaSWp 1 (some v) (some (.int k (i : Int))) H K = K (.fp u) H [] := by
  rcases h with ⟨rfl, rfl⟩ | ⟨ex, us, rfl, hu⟩
  · simp at hi
  · have hl : i < us.length := by rw [hu.len]; exact hi
    refine ⟨us[i], hu.get hl hi, fun {H K k} => ?_⟩
    rw [ixaSWp_lst]
    simp only [Int.toNat_natCast]
    rw [List.getElem?_eq_getElem hl]
    simp [valWp_some]
theorem isLL.outG {us : List AV} {ls : List (List Nat)} (h : LL us ls) : isLL (outL 1 us) ls := by
  unfold outL
  split
  · rename_i e; subst e
    cases ls with
    | nil => exact .inl ⟨rfl, rfl⟩
    | cons _ _ => exact h.elim
  · exact .inr ⟨false, us, by rw [Nat.div_one, chunks_one], h⟩
theorem Grow.lls {base bytes : Nat} {us : List AV} {H0 : Heap} {v : AV} {ex : Bool} {u : AV} {l : List Nat} (hu : isL u l) (g : Grow 1 us H0 v H) (hb : bar ≤ H0.length) (hbase : base ≤ H0.length)
    (hlen : (us.length + 1) * bytes ≤ 140737488355328)
    (h : ∀ v' H' tc, Grow 1 (us ++ [u]) H0 v' H' → K v' H' tc) : appWp base bar 1 bytes (some v) (some (.lst 1 ex [u])) H K := by
  have e : [u].flatMap AV.cells = [u] := by simp [hu.cells]
  refine g.app (by omega) (Nat.one_dvd _) (fun c hc => ?_) (Nat.one_dvd _) hb hbase ?_ fun v' H' tc g' => h v' H' tc ?_
  · rw [e, List.mem_singleton] at hc; subst hc; exact hu.plain
  · simpa [hu.cells] using hlen
  · rw [e] at g'; exact g'
theorem l19_l {mv : AV} {ms : List Nat} {H0 : Heap} (hm : isM mv ms) (hlt : ∀ m ∈ ms, m < 512) (hlen : ms.length < 1000) (hb : bar ≤ H0.length) (hbase : base ≤ H0.length) {R : PQ} : ∀ (k i : Nat), i + k = ms.length → ∀ (us : List AV) (v : AV) (H : Heap), LL us ((ms.take i).map bitsN) → Grow 1 us H0 v H →
    (∀ us' v' H', LL us' (ms.map bitsN) → Grow 1 us' H0 v' H' → R (.exit 0) [(6, v'), (18, mv), (19, .int .i64 (ms.length : Nat)), (20, .int .i64 (ms.length : Nat)), (21, .bool false)] H') →
    Wp E base bar (.loop c19_l0) [(6, v), (18, mv), (19, .int .i64 (ms.length : Nat)), (20, .int .i64 (i : Nat))] H R := by
  intro k
  induction k with
  | zero =>
    intro i hi us v H hL gr h
    obtain rfl : i = ms.length := by omega
    rw [List.take_length] at hL
    rw [wp_round c19_l0.eq_1]
    simp [go_sem]
    exact h us v H hL gr
  | succ k ih =>
    intro i hi us v H hL gr h
    have hltm : i < ms.length := by omega
    have gl := gr.len
    have hix := fun (H : Heap) (K : AV → Heap → List Nat → Prop) => hm.ix (H := H) (K := K) (k := .i64) hltm
    have h5 := hlt _ (List.getElem_mem hltm)
    have hul := hL.len
    rw [List.length_map, List.length_take] at hul
    have htk : (ms.take (i + 1)).map bitsN = (ms.take i).map bitsN ++ [bitsN ms[i]] := by
      rw [List.take_add_one, List.getElem?_eq_getElem hltm, List.map_append]; rfl
    have hu : isL (outL 1 (nats (bitsN ms[i]))) (bitsN ms[i]) := isL.out
    have hnext := fun us v H hL gr => ih (i + 1) (by omega) us v H hL gr h
    rw [htk] at hnext
    have hsn := hL.snoc hu
    generalize ms[i] = m at *
    rw [wp_round c19_l0.eq_1]
    simp [go_sem, hltm, hix]
    refine k58 h5 (by omega) ?_
    generalize outL 1 (nats (bitsN m)) = u at *
    simp [go_sem, aop, fillA, setCells, chunks, hu.frz, hu.isTup, hu.noVec, hu.cells, AV.noVec.noVecs]
    refine Grow.lls hu gr hb hbase (by omega) fun v' H' tc gr' => ?_
    simp [go_sem, i64_suc (show i < 1000000 by omega)]
    exact hnext _ v' H' hsn gr'
theorem LL.plain {us : List AV} {ls : List (List Nat)} (h : LL us ls) : ∀ c ∈ us, Plain c := LL.all (P := Plain) (fun _ _ h => h.plain) h
/-- Rounds -/
theorem k19 {n : Int} {q : AV} {l : List ZZ} {D : Nat → Nat → Nat} (hD : TrD n l D) (hq : isP q l) (hl : l.length < 1000) (hbar : bar ≤ H.length)
    (h1 : errT n l ≠ 0 → Q (.tup [.nils, .int .i64 (errT n l)]) H)
    (h2 : ∀ (m : Nat) w u, n = m → 1 ≤ m → m ≤ 9 → errT n l = 0 → Wd m l w → isLL u ((rdsW m w).map bitsN) → Q (.tup [u, .int .i64 0]) H) : WpCall E pure base bar 19 [.agg [.int .i64 n, q]] H Q := by
  rw [call19]
  have e0 : frzAll bar H [.agg [.int .i64 n, q]] = some ([.agg [.int .i64 n, q]], H) := by simp [frzAll, frz.frzs, frzsW, frz_agg, frz_int, hq.frz]
  rw [e0]
  have hb' : (if pure = true then H.length else bar) ≤ H.length := bar_if hbar
  simp [go_sem, WpFun, c19, hq.isTup, hq.cells, aload, AV.isTup, AV.cells]
  refine k49 hq hl (by simp; omega) (fun G he => ?_) (fun m w hm p1 p2 hw he => ?_)
  · have hh := h1 he
    simp [go_sem, he]
    exact hh
  · have hh := h2 m
    obtain ⟨t1, t2⟩ := hD he m hm
    simp [go_sem, Nat.add_assoc]
    refine k57v (fz := 0) (ex := true) (w := w) (by simp [own_get]) (by omega) t1 hw p2 p1 fun u b hu => ?_
    have hle : (rdsW m w).length ≤ 9 := rdsM_len
    simp [go_sem, hu.len, own_set]
    refine l19_l hu (fun x hx => rdsM_lt x hx) (by omega) ?_ ?_ (rdsW m w).length 0 (by omega) [] .nils _ (by simp [LL]) (by exact Grow.nil) fun us v H2 hL gr => ?_
    · simp; omega
    · simp
    · obtain ⟨H3, f1, f2, f3, f4⟩ := gr.frz (d := 5) (bar := if pure = true then H.length else bar) (by decide) (Nat.one_dvd _) hL.plain (by simp; omega)
      have hu : isLL (outL 1 us) ((rdsW m w).map bitsN) := .outG hL
      have hk := hh w _ hm p1 p2 he hw hu
      have e3 : H3.take H.length = H := by
        have := congrArg (List.take H.length) f4
        rw [List.take_take] at this
        simp at this
        exact this
      simp [go_sem, f1, (Grow.one gr).1, hu.top, tops_cons, tops_nil, e3, frz_int]
      exact hk
end Go.Proofs.Ytoipleipokpnaaa.Code
end
section
namespace Go.Proofs.Ytoipleipokpnaaa.Code
open Go Go.Ab
variable {pure : Bool} {base bar : Nat} {H : Heap} {Q : AV → Heap → Prop} {K : AV → Heap → List Nat → Prop}
/-! Way: from knot to knot -/
/-- the next knot on the way -/
def nxtF (n : Nat) (l : List ZZ) (D : Nat → Nat → Nat) (at0 to : Nat) : Nat := ((List.range n).find? fun b => tieB l at0 b && decide (D to b + 1 = D to at0)).getD 0
def wayF (n : Nat) (l : List ZZ) (D : Nat → Nat → Nat) (to : Nat) : Nat → Nat → List Nat
  | 0, a => [a]
  | t + 1, a => a :: wayF n l D to t (nxtF n l D a to)
theorem nxtF_ok {n a to : Nat} {l : List ZZ} {D : Nat → Nat → Nat} (hT : TM (fun x => x < n) (tieB l) D) (ha : a < n) (hto : to < n) (hne : a ≠ to) :
    tieB l a (nxtF n l D a to) = true ∧ D to (nxtF n l D a to) + 1 = D to a ∧ ∀ b, tieB l a b = true → D to b + 1 = D to a → b = nxtF n l D a to := by
  obtain ⟨p, p1, p2, p3⟩ := hT.par hto ha (fun e => hne e.symm)
  have hp := (hT.inV p1).2.1
  cases hf : (List.range n).find? fun b => tieB l a b && decide (D to b + 1 = D to a) with
  | none =>
    have := List.find?_eq_none.1 hf p (List.mem_range.2 hp)
    simp [p1, p2] at this
  | some b =>
    have hb := List.find?_some hf
    simp only [Bool.and_eq_true, decide_eq_true_eq] at hb
    have e : nxtF n l D a to = b := by unfold nxtF; rw [hf]; rfl
    rw [e]
    exact ⟨hb.1, hb.2, fun c c1 c2 => (p3 c c1 c2).trans (p3 b hb.1 hb.2).symm⟩
theorem wayF_len {n to : Nat} {l : List ZZ} {D : Nat → Nat → Nat} : ∀ {t a : Nat}, (wayF n l D to t a).length = t + 1
  | 0, _ => rfl
  | t + 1, a => by simp [wayF, wayF_len]
/-- where the walk came from -/
def From (l : List ZZ) (D : Nat → Nat → Nat) (fr a : Nat) (before : Int) : Prop := (before = -1 ∧ a = fr) ∨ ∃ b : Nat, before = b ∧ tieB l a b = true ∧ D fr b + 1 = D fr a
/-- the answer of the walk -/
def wayV (n : Nat) (l : List ZZ) (D : Nat → Nat → Nat) (fr to a : Nat) (u : AV) : Prop := if D fr a + D a to = D fr to then ∃ ex, u = .lst 1 ex (nats (wayF n l D to (D to a) a)) else u = .nils
/-- what the walk needs of the heap -/
structure WalkH (n fr to : Nat) (w : Nat → Nat) (p2 p3 p4 : Nat) (H : Heap) : Prop where
  q : H[p2]? = some (.row 0 [.int .i64 (fr : Nat), .int .i64 (to : Nat)] 0 true)
  wd : ∃ ex, H[p3]? = some (.row 0 [.lst 1 ex (wc n w)] 0 true)
  me : H[p4]? = some (.row 0 [.fn 130 [] [.ptr p2 0 0, .ptr p3 0 0, .ptr p4 0 0]] 0 true)
theorem WalkH.top {n fr to : Nat} {w : Nat → Nat} {p2 p3 p4 : Nat} (h : WalkH n fr to w p2 p3 p4 H) : p4 < H.length := (List.getElem?_eq_some_iff.1 h.me).1
theorem app_two {a bytes : Nat} {ex : Bool} {path : List Nat} (hne : path ≠ []) (hlen : (path.length + 1) * bytes ≤ 140737488355328)
    (h : ∀ v H' tc, Grow 1 (nats (a :: path)) H v H' → K v H' tc) : appWp base bar 1 bytes (some (.lst 1 true [.int .i64 (a : Int)])) (some (.lst 1 ex (nats path))) H K := by
  have e : asrc H 1 (.lst 1 ex (nats path)) = some (nats path) := by rw [asrc_lst, flat_nats]
  have hz : frzsW (frz 8 bar) H (nats path) = some (nats path, H) := plains (d := 6) nats_plain
  have hl2 : (nats path).length = path.length := nats_len
  have hne2 : ¬ nats path = [] := fun e' => hne (by simpa [nats] using e')
  simp [appWp, e, go_sem, aappend, hz, hl2, AV.cells, hne2, show (1 + path.length) * bytes ≤ 140737488355328 by rw [Nat.add_comm]; exact hlen]
  refine h _ _ _ (.inr ⟨0, 0, by simp [nats], by omega, ?_, by simp [nats]⟩)
  simp [nats]; omega
theorem wayF_ne {n to t a : Nat} {l : List ZZ} {D : Nat → Nat → Nat} : wayF n l D to t a ≠ [] := fun e => by
  have := wayF_len (n := n) (l := l) (D := D) (to := to) (t := t) (a := a)
  rw [e] at this; simp at this
theorem l130 {n fr to a p2 p3 p4 : Nat} {before : Int} {lv : AV} {L : List Nat} {l : List ZZ} {D : Nat → Nat → Nat} (hL : isL lv L) (hlen : L.length ≤ 9) (h4 : p4 < H.length)
    (hme : H[p4]? = some (.row 0 [.fn 130 [] [.ptr p2 0 0, .ptr p3 0 0, .ptr p4 0 0]] 0 true)) (hb : bar ≤ H.length) (hDb : ∀ b ∈ L, D to b ≤ 9)
    (hcall : ∀ b ∈ L, (b : Int) ≠ before → ∀ {base bar : Nat} {Q : AV → Heap → Prop}, bar ≤ H.length → (∀ u, wayV n l D fr to b u → Q u H) → WpCall E false base bar 130 [.int .i64 (b : Nat), .int .i64 (a : Nat), .ptr p2 0 0, .ptr p3 0 0, .ptr p4 0 0] H Q) {R : PQ}
    (hsome : ∀ b ∈ L, (b : Int) ≠ before → D fr b + D b to = D fr to → ∀ v H', Grow 1 (nats (a :: wayF n l D to (D to b) b)) H v H' → R .ret [(7, v)] H')
    (hnone : (∀ b ∈ L, (b : Int) ≠ before → D fr b + D b to ≠ D fr to) → R (.exit 0) [(0, .int .i64 (a : Nat)), (1, .int .i64 before), (4, .ptr p4 0 0), (21, lv), (22, .int .i64 (L.length : Nat)), (23, .int .i64 (L.length : Nat)), (24, .bool false)] H) :
    ∀ (k i : Nat), i + k = L.length → (∀ b ∈ L.take i, (b : Int) ≠ before → D fr b + D b to ≠ D fr to) →
    Wp E base bar (.loop c130_l0) [(0, .int .i64 (a : Nat)), (1, .int .i64 before), (4, .ptr p4 0 0), (21, lv), (22, .int .i64 (L.length : Nat)), (23, .int .i64 (i : Nat))] H R := by
  intro k
  induction k with
  | zero =>
    intro i hi ht
    obtain rfl : i = L.length := by omega
    rw [List.take_length] at ht
    rw [wp_round c130_l0.eq_1]
    simp [go_sem]
    exact hnone ht
  | succ k ih =>
    intro i hi ht
    have hlt : i < L.length := by omega
    have hnext := ih (i + 1) (by omega)
    have htk : L.take (i + 1) = L.take i ++ [L[i]] := by rw [List.take_add_one, List.getElem?_eq_getElem hlt]; rfl
    rw [htk] at hnext
    have hmem := List.getElem_mem hlt
    have hix := fun (H : Heap) (K : AV → Heap → List Nat → Prop) => hL.ix (H := H) (K := K) (k := .i64) hlt
    have hc := hcall _ hmem
    have hs := hsome _ hmem
    have hd := hDb _ hmem
    generalize L[i] = b at *
    have hlt4 := hL.top
    have h41 : p4 + 1 ≤ H.length := h4
    have hnx : ((b : Int) ≠ before → D fr b + D b to ≠ D fr to) → Wp E base bar (.loop c130_l0) [(0, .int .i64 (a : Nat)), (1, .int .i64 before), (4, .ptr p4 0 0), (21, lv), (22, .int .i64 (L.length : Nat)), (23, .int .i64 ((i + 1 : Nat) : Int))] H R := fun hb2 => hnext fun x hx => by
      rcases List.mem_append.1 hx with hx | hx
      · exact ht x hx
      · rw [List.mem_singleton.1 hx]; exact hb2
    rw [wp_round c130_l0.eq_1]
    by_cases c1 : (b : Int) = before
    · have hh := hnx (fun h => absurd c1 h)
      simp [go_sem, hlt, hix, c1, ftop, AV.top, hlt4, h41, List.take_length, i64_suc (show i < 1000000 by omega)]
      exact hh
    · simp [go_sem, hlt, hix, c1, aload, hme]
      refine hc c1 (by omega) fun u hu => ?_
      unfold wayV at hu
      by_cases c2 : D fr b + D b to = D fr to
      · rw [if_pos c2] at hu
        obtain ⟨ex, rfl⟩ := hu
        have eq_ln : ∀ {l : List AV} {H : Heap} {K : AV → Heap → List Nat → Prop}, eqWp true .nilS (some (.lst 1 ex l)) (some .nils) H K = K (.bool true) H [] := (rfl)
        simp [go_sem, eq_ln, aop, fillA, setCells, AV.cells, chunks]
        refine app_two wayF_ne (by rw [wayF_len]; omega) fun v H' tc g => ?_
        simp [go_sem]
        exact hs c1 c2 v H' g
      · rw [if_neg c2] at hu
        subst hu
        have eq_nn : ∀ {H : Heap} {K : AV → Heap → List Nat → Prop}, eqWp true .nilS (some .nils) (some .nils) H K = K (.bool false) H [] := (rfl)
        have hh := hnx (fun _ => c2)
        simp [go_sem, eq_nn, ftop, AV.top, hlt4, h41, List.take_length, i64_suc (show i < 1000000 by omega)]
        exact hh
theorem k130 {n fr to p2 p3 p4 : Nat} {l : List ZZ} {w : Nat → Nat} {D : Nat → Nat → Nat} (hT : TM (fun x => x < n) (tieB l) D) (hw : Wd n l w) (hD : ∀ x y, x < n → y < n → D x y < n) (hn : n ≤ 9) (hfr : fr < n) (hto : to < n) :
    ∀ (m a : Nat) (before : Int), a < n → n ≤ D fr a + m → From l D fr a before → ∀ {pure : Bool} {base bar : Nat} {H : Heap} {Q : AV → Heap → Prop}, bar ≤ H.length → WalkH n fr to w p2 p3 p4 H → (∀ u, wayV n l D fr to a u → Q u H) →
    WpCall E pure base bar 130 [.int .i64 (a : Nat), .int .i64 before, .ptr p2 0 0, .ptr p3 0 0, .ptr p4 0 0] H Q
  | 0, a, before, ha, hm, hf, _, _, _, _, _, _, _, _ => by have := hD fr a hfr ha; omega
  | m + 1, a, before, ha, hm, hf, pure, base, bar, H, Q, hbar, hH, h => by
    rw [call130]
    have e0 : frzAll bar H [.int .i64 (a : Nat), .int .i64 before, .ptr p2 0 0, .ptr p3 0 0, .ptr p4 0 0] = some ([.int .i64 (a : Nat), .int .i64 before, .ptr p2 0 0, .ptr p3 0 0, .ptr p4 0 0], H) := rfl
    rw [e0]
    have hb' : (if pure = true then H.length else bar) ≤ H.length := bar_if hbar
    obtain ⟨ex, hwd⟩ := hH.wd
    by_cases e : a = to
    · subst e
      have hh := h (.lst 1 true [.int .i64 (a : Nat)]) (by
        unfold wayV
        rw [hT.zero ha, if_pos (by omega)]
        exact ⟨true, rfl⟩)
      simp [go_sem, WpFun, c130, hH.q, aload, Ab.part, aop, fillA, setCells, chunks, AV.cells, AV.noVec, AV.noVec.noVecs, Opd.ev, AV.top, tops_cons, tops_nil]
      exact hh
    · have e' : ¬ (a : Int) = (to : Int) := by omega
      have hL : isL (outL 1 (nats (bitsN (w a)))) (bitsN (w a)) := isL.out
      have hmemT : ∀ b ∈ bitsN (w a), tieB l a b = true := fun b hb => by
        rw [mem_bitsN (hw.lt a), hw.bit] at hb; exact hb
      have hchild : ∀ b ∈ bitsN (w a), (b : Int) ≠ before → D fr b = D fr a + 1 := fun b hb hne => by
        have ht := hmemT b hb
        rcases hT.step hfr ht with h1 | h1
        · exact h1
        · rcases hf with ⟨_, rfl⟩ | ⟨c, rfl, c1, c2⟩
          · rw [hT.zero ha] at h1; omega
          · have hfa : fr ≠ a := fun e => by subst e; rw [hT.zero hfr] at h1; omega
            obtain ⟨p, _, _, p3⟩ := hT.par hfr ha hfa
            have := p3 b ht h1.symm
            have := p3 c c1 c2
            omega
      obtain ⟨n1, n2, n3⟩ := nxtF_ok hT ha hto e
      have hlr := fun {R : PQ} {base bar : Nat} hb hs hn' => l130 (R := R) (base := base) (bar := bar) (H := H) (n := n) (fr := fr) (to := to) (a := a) (before := before) (l := l) (D := D) hL bitsN_len hH.top hH.me hb (fun b hb => by
          have := hD to b hto ((hT.inV (hmemT b hb)).2.1); omega) (fun b hb hne {base bar Q} hbar hQ => k130 hT hw hD hn hfr hto m b (a : Int) ((hT.inV (hmemT b hb)).2.1) (by have := hchild b hb hne; omega) (.inr ⟨a, rfl, hT.symF (hmemT b hb), (hchild b hb hne).symm⟩) hbar hH hQ) hs hn' (bitsN (w a)).length 0 (by omega) (by simp)
      simp [go_sem, WpFun, c130, hH.q, aload, Ab.part, e, e', hwd, ha, wc_getE, wc_len, wc_get]
      refine k58 (hw.lt a) (by omega) ?_
      simp [go_sem, hL.len]
      refine hlr (by omega) (fun b hb hne hs v H' g => ?_) (fun hno => ?_)
      · -- the way goes on
        have ht := hmemT b hb
        have hb' := (hT.inV ht).2.1
        have hst := hchild b hb hne
        have hbn : b = nxtF n l D a to := n3 b ht (by
          have h1 := hT.sym hb' hto
          have h2 := hT.sym ha hto
          have h3 := hT.tri hfr ha (D a to) hto rfl
          rcases hT.step hto ht with h4 | h4
          · omega
          · omega)
        obtain ⟨H2, f1, f2, f3, f4⟩ := g.frz (d := 5) (bar := if pure = true then H.length else bar) (by decide) (Nat.one_dvd _) nats_plain (by omega)
        have hs1 := hT.sym hb' hto
        have hs2 := hT.sym ha hto
        have hda : D to a = D to b + 1 := by rw [hbn]; omega
        have hk := h (outL 1 (nats (a :: wayF n l D to (D to b) b))) (by
          unfold wayV
          rw [if_pos (by omega), hda]
          refine ⟨false, ?_⟩
          rw [outL_nats, if_neg (by simp)]
          simp only [wayF, ← hbn])
        have hu : isL (outL 1 (nats (a :: wayF n l D to (D to b) b))) (a :: wayF n l D to (D to b) b) := isL.out
        simp [go_sem, f1, (Grow.one g).1, hu.top, tops_cons, tops_nil, f4]
        exact hk
      · have hk := h .nils (by
          unfold wayV
          rw [if_neg]
          intro hs
          have hb0 := (hT.inV n1).2.1
          have hs1 := hT.sym hb0 hto
          have hs2 := hT.sym ha hto
          have h3 := hT.tri hfr hb0 (D (nxtF n l D a to) to) hto rfl
          have hmem : nxtF n l D a to ∈ bitsN (w a) := by rw [mem_bitsN (hw.lt a), hw.bit]; exact n1
          have hne : ((nxtF n l D a to : Nat) : Int) ≠ before := by
            rcases hf with ⟨rfl, _⟩ | ⟨c, rfl, c1, c2⟩
            · omega
            · intro e3
              have : nxtF n l D a to = c := by omega
              rw [this] at h3 hs1 n2
              omega
          have := hno _ hmem hne
          have := hchild _ hmem hne
          omega)
        simp [go_sem, AV.top, tops_cons, tops_nil]
        exact hk
end Go.Proofs.Ytoipleipokpnaaa.Code
end
section
namespace Go.Proofs.Ytoipleipokpnaaa.Code
open Go Go.Ab
variable {pure : Bool} {base bar : Nat} {H : Heap} {Q : AV → Heap → Prop} {K : AV → Heap → List Nat → Prop}
theorem k129 {fr to n : Nat} {ex : Bool} {l : List ZZ} {w : Nat → Nat} {D : Nat → Nat → Nat} (hT : TM (fun x => x < n) (tieB l) D) (hw : Wd n l w) (hD : ∀ x y, x < n → y < n → D x y < n) (hn : n ≤ 9) (hfr : fr < n) (hto : to < n) (hbar : bar ≤ H.length)
    (h : ∀ u, isL u (wayF n l D to (D to fr) fr) → Q (.ifc 28 u) H) : WpCall E pure base bar 129 [.agg [.int .i64 (fr : Nat), .int .i64 (to : Nat)], .lst 1 ex (wc n w)] H Q := by
  rw [call129]
  have e0 : frzAll bar H [.agg [.int .i64 (fr : Nat), .int .i64 (to : Nat)], .lst 1 ex (wc n w)] = some ([.agg [.int .i64 (fr : Nat), .int .i64 (to : Nat)], .lst 1 ex (wc n w)], H) := rfl
  rw [e0]
  have hb' : (if pure = true then H.length else bar) ≤ H.length := bar_if hbar
  have hb2 : (if pure = true then H.length else bar) ≤ H.length + 2 := by omega
  simp [go_sem, WpFun, c129, aload, AV.isTup, AV.cells, storeWp, astore, hb2, Ab.part, setCells, AV.top]
  refine k130 (fr := fr) (to := to) hT hw hD hn hfr hto n fr (-1) hfr (by omega) (.inl ⟨rfl, rfl⟩) (by simp; omega) ⟨by simp, ⟨ex, by simp⟩, by simp⟩ fun u hu => ?_
  unfold wayV at hu
  rw [hT.zero hfr, if_pos (by omega)] at hu
  obtain ⟨ex', rfl⟩ := hu
  have hu : isL (.lst 1 ex' (nats (wayF n l D to (D to fr) fr))) (wayF n l D to (D to fr) fr) := .lst
  have hk := h _ hu
  simp [go_sem, aop, Opd.evo, ifc_frz hu, ifc_top hu]
  exact hk
theorem k129v {fr to id ver n fz : Nat} {l : List ZZ} {w : Nat → Nat} {D : Nat → Nat → Nat} {ex : Bool} (hid : H[id]? = some (.row ver (wc n w) fz ex)) (hib : bar ≤ id) (hn : n ≤ 9) (hT : TM (fun x => x < n) (tieB l) D) (hw : Wd n l w) (hD : ∀ x y, x < n → y < n → D x y < n)
    (hfr : fr < n) (hto : to < n) (h : ∀ u b, isL u (wayF n l D to (D to fr) fr) → Q (.ifc 28 u) (H.set id b)) : WpCall E pure base bar 129 [.agg [.int .i64 (fr : Nat), .int .i64 (to : Nat)], .vec id ver 0 n 1] H Q := by
  have hlt := (List.getElem?_eq_some_iff.1 hid).1
  obtain ⟨b, f1⟩ := wood_frz (d := 5) hid hib
  have k := k129 (pure := pure) (base := base) (bar := bar) (H := H.set id b) (Q := Q) (ex := false) hT hw hD hn hfr hto (by simp; omega) fun u hu => h u b hu
  have e1 : frzAll bar H [.agg [.int .i64 (fr : Nat), .int .i64 (to : Nat)], .vec id ver 0 n 1] = some ([.agg [.int .i64 (fr : Nat), .int .i64 (to : Nat)], .lst 1 false (wc n w)], H.set id b) := by
    have : frz 8 bar H (.agg [.int .i64 (fr : Nat), .int .i64 (to : Nat)]) = some (.agg [.int .i64 (fr : Nat), .int .i64 (to : Nat)], H) := rfl
    simp [frzAll, frz.frzs, frzsW, f1, this]
  have e2 : frzAll bar (H.set id b) [.agg [.int .i64 (fr : Nat), .int .i64 (to : Nat)], .lst 1 false (wc n w)] = some ([.agg [.int .i64 (fr : Nat), .int .i64 (to : Nat)], .lst 1 false (wc n w)], H.set id b) := rfl
  rw [call129, e2] at k
  rw [call129, e1]
  exact k
theorem k75w {fr to : Nat} {n : Int} {q : AV} {l : List ZZ} {D : Nat → Nat → Nat} (hD : TrD n l D) (hfr : (fr : Int) < n) (hto : (to : Int) < n) (hq : isP q l) (hl : l.length < 1000) (hbar : bar ≤ H.length)
    (h1 : errT n l ≠ 0 → Q (.tup [.nili, .int .i64 (errT n l)]) H)
    (h2 : ∀ (m : Nat) u, n = m → 1 ≤ m → m ≤ 9 → errT n l = 0 → isL u (wayF m l D to (D to fr) fr) → Q (.tup [.ifc 28 u, .int .i64 0]) H) : WpCall E pure base bar 75 [.agg [.int .i64 n, q], .ifc 91 (.agg [.int .i64 (fr : Nat), .int .i64 (to : Nat)])] H Q := by
  rw [call75]
  have e0 : frzAll bar H [.agg [.int .i64 n, q], .ifc 91 (.agg [.int .i64 (fr : Nat), .int .i64 (to : Nat)])] = some ([.agg [.int .i64 n, q], .ifc 91 (.agg [.int .i64 (fr : Nat), .int .i64 (to : Nat)])], H) := by simp [frzAll, frz.frzs, frzsW, frz_agg, frz_int, hq.frz, frz_ifc]
  rw [e0]
  have hb' : (if pure = true then H.length else bar) ≤ H.length := bar_if hbar
  simp [go_sem, WpFun, c75, hq.isTup, hq.cells, aload, AV.isTup, AV.cells]
  refine k49 hq hl (by simp; omega) (fun G he => ?_) (fun m w hm p1 p2 hw he => ?_)
  · have hh := h1 he
    simp [go_sem, he, frz_nili]
    exact hh
  · have hh := h2 m
    obtain ⟨t1, t2⟩ := hD he m hm
    simp [go_sem, Nat.add_assoc]
    refine k129v (fz := 0) (ex := true) (w := w) (by simp [own_get]) (by omega) p2 t1 hw t2 (by omega) (by omega) fun u b hu => ?_
    have hk := hh u hm p1 p2 he hu
    simp [go_sem, ifc_frz hu, ifc_top hu, tops_cons, tops_nil, own_set]
    exact hk
theorem k51w {fr to : Nat} {n : Int} {q : AV} {l : List ZZ} {D : Nat → Nat → Nat} (hD : TrD n l D) (hfr : (fr : Int) < n) (hto : (to : Int) < n) (hq : isP q l) (hl : l.length < 1000) (hbar : bar ≤ H.length)
    (h1 : errT n l ≠ 0 → Q (.tup [.nils, .int .i64 (errT n l)]) H)
    (h2 : ∀ (m : Nat) u, n = m → 1 ≤ m → m ≤ 9 → errT n l = 0 → isL u (wayF m l D to (D to fr) fr) → Q (.tup [u, .int .i64 0]) H) : WpCall E pure base bar 51 [.agg [.int .i64 n, q], .ifc 91 (.agg [.int .i64 (fr : Nat), .int .i64 (to : Nat)])] H Q := by
  rw [call51]
  have e0 : frzAll bar H [.agg [.int .i64 n, q], .ifc 91 (.agg [.int .i64 (fr : Nat), .int .i64 (to : Nat)])] = some ([.agg [.int .i64 n, q], .ifc 91 (.agg [.int .i64 (fr : Nat), .int .i64 (to : Nat)])], H) := by simp [frzAll, frz.frzs, frzsW, frz_agg, frz_int, hq.frz, frz_ifc]
  rw [e0]
  have hb' : (if pure = true then H.length else bar) ≤ H.length := bar_if hbar
  simp [go_sem, WpFun, c51, hq.isTup, hq.cells, aload, AV.isTup, AV.cells]
  refine k75w hD hfr hto hq hl (by simp; omega) (fun he => ?_) (fun m u hm p1 p2 he hu => ?_)
  · have hh := h1 he
    simp [go_sem, aop, Opd.evo, mres]
    exact hh
  · have hh := h2 m u hm p1 p2 he hu
    simp [go_sem, aop, Opd.evo, mres, hu.frz, hu.top, tops_cons, tops_nil]
    exact hh
noncomputable def wyE (n : Int) (l : List ZZ) (a b : Int) : Int := if errT n l ≠ 0 then errT n l else if (0 ≤ a ∧ a ≤ n - 1) ∧ 0 ≤ b ∧ b ≤ n - 1 then 0 else 2
/-- Way -/
theorem k12 {n a b : Int} {q : AV} {l : List ZZ} {D : Nat → Nat → Nat} (hD : TrD n l D) (hq : isP q l) (hl : l.length < 1000) (hbar : bar ≤ H.length)
    (h1 : wyE n l a b ≠ 0 → Q (.tup [.nils, .int .i64 (wyE n l a b)]) H)
    (h2 : ∀ (m fr to : Nat) u, n = m → a = fr → b = to → fr < m → to < m → 1 ≤ m → m ≤ 9 → errT n l = 0 → isL u (wayF m l D to (D to fr) fr) → Q (.tup [u, .int .i64 0]) H) : WpCall E pure base bar 12 [.agg [.int .i64 n, q], .int .i64 a, .int .i64 b] H Q := by
  rw [call12]
  have e0 : frzAll bar H [.agg [.int .i64 n, q], .int .i64 a, .int .i64 b] = some ([.agg [.int .i64 n, q], .int .i64 a, .int .i64 b], H) := by simp [frzAll, frz.frzs, frzsW, frz_agg, frz_int, hq.frz]
  rw [e0]
  have hb' : (if pure = true then H.length else bar) ≤ H.length := bar_if hbar
  simp [go_sem, WpFun, c12, hq.isTup, hq.cells, aload, AV.isTup, AV.cells]
  refine k49 hq hl (by simp; omega) (fun G he => ?_) (fun m w hm p1 p2 hw he => ?_)
  · have hh := h1 (by unfold wyE; rw [if_pos he]; exact he)
    unfold wyE at hh
    rw [if_pos he] at hh
    simp [go_sem, he]
    exact hh
  · have hw1 : IntKind.i64.wrap ((m : Int) - 1) = (m : Int) - 1 := Go.IntWalk.i64_in _ (by omega)
    by_cases c1 : 0 ≤ a ∧ a ≤ n - 1
    · by_cases c2 : 0 ≤ b ∧ b ≤ n - 1
      · obtain ⟨fr, rfl⟩ := Int.eq_ofNat_of_zero_le c1.1
        obtain ⟨to, rfl⟩ := Int.eq_ofNat_of_zero_le c2.1
        have d1 : (fr : Int) ≤ (m : Int) - 1 := by omega
        have d2 : (to : Int) ≤ (m : Int) - 1 := by omega
        have hh := fun u => h2 m fr to u hm rfl rfl (by omega) (by omega) p1 p2 he
        simp [go_sem, Nat.add_assoc, hw1, k50, d1, d2, aload, hq.isTup, hq.cells, AV.isTup, AV.cells, aop, Opd.evo, fillA, setCells]
        refine k51w hD (by omega) (by omega) hq hl (by simp; omega) (fun he' => absurd he he') (fun m' u hm' _ _ _ hu => ?_)
        obtain rfl : m = m' := by omega
        have hk := hh u hu
        simp [go_sem, hu.frz, hu.top, tops_cons, tops_nil]
        exact hk
      · have ee : wyE n l a b = 2 := by unfold wyE; rw [if_neg (by simpa using he), if_neg (fun h => c2 h.2)]
        have hh := h1 (by rw [ee]; decide)
        rw [ee] at hh
        have d1 : (decide (0 ≤ a) && decide (a ≤ (m : Int) - 1)) = true := by simp; omega
        have d2 : (decide (0 ≤ b) && decide (b ≤ (m : Int) - 1)) = false := by simp; omega
        simp [go_sem, Nat.add_assoc, hw1, k50, d1, d2]
        exact hh
    · have ee : wyE n l a b = 2 := by unfold wyE; rw [if_neg (by simpa using he), if_neg (fun h => c1 h.1)]
      have hh := h1 (by rw [ee]; decide)
      rw [ee] at hh
      have d1 : (decide (0 ≤ a) && decide (a ≤ (m : Int) - 1)) = false := by simp; omega
      simp [go_sem, Nat.add_assoc, hw1, k50, d1]
      exact hh
end Go.Proofs.Ytoipleipokpnaaa.Code
end
section
namespace Go.Proofs.Ytoipleipokpnaaa.Code
open Go Go.Ab
variable {pure : Bool} {base bar : Nat} {H : Heap} {Q : AV → Heap → Prop} {K : AV → Heap → List Nat → Prop}
/-! the reference: reach and middle -/
theorem dc_congr {n : Nat} {D D' : Nat → Int} (h : ∀ x, x < n → D x = D' x) : dc n D = dc n D' := by
  unfold dc
  exact List.map_congr_left fun x hx => by rw [h x (List.mem_range.1 hx)]
def ofN (F : Nat → Nat) : Nat → Int := fun x => ((F x : Nat) : Int)
theorem max_cast {m d : Nat} : (if m < d then (d : Int) else (m : Int)) = ((max m d : Nat) : Int) := by split <;> omega
theorem min_cast {m d : Nat} : (if d < m then (d : Int) else (m : Int)) = ((min m d : Nat) : Int) := by split <;> omega
theorem l55a {n : Nat} {F : Nat → Nat} {v1 v3 v4 : AV} {ex : Bool} (hn : n ≤ 9) {R : PQ} : ∀ (k i : Nat), i + k = n →
    R (.exit 2) [(1, v1), (3, v3), (4, v4), (5, .int .i64 (mx n F : Nat)), (6, .lst 1 ex (dc n (ofN F))), (7, .int .i64 (n : Nat)), (20, .bool false)] H →
    Wp E base bar (.loop c55_l0) [(1, v1), (3, v3), (4, v4), (5, .int .i64 (mx i F : Nat)), (6, .lst 1 ex (dc n (ofN F))), (7, .int .i64 (i : Nat))] H R := by
  intro k
  induction k with
  | zero =>
    intro i hi h
    obtain rfl : i = n := by omega
    rw [wp_round c55_l0.eq_1]
    simp [go_sem, dc_len]
    exact h
  | succ k ih =>
    intro i hi h
    have hlt : i < n := by omega
    have hnext := ih (i + 1) (by omega) h
    simp only [mx] at hnext
    have ho : ofN F i = ((F i : Nat) : Int) := rfl
    generalize mx i F = m at *
    rw [wp_round c55_l0.eq_1]
    simp [go_sem, dc_len, hlt, dc_get, dc_getE, aload, aop, Opd.ev, ho, max_cast, i64_suc (show i < 1000000 by omega)]
    exact hnext
theorem l55b {n p : Nat} {q : AV} {l : List ZZ} {D : Nat → Nat → Nat} {H0 : Heap} (hT : TM (fun x => x < n) (tieB l) D) (hq : isP q l) (hl : l.length < 1000) (hn : n ≤ 9) (h1 : 1 ≤ n) (hv : ∀ p ∈ l, okP n p) (hc : Conn n l)
    (hp : H0[p]? = some (.row 0 [.int .i64 (n : Nat), q] 0 true)) (hb : bar ≤ H0.length) (hbase : base ≤ H0.length) {R : PQ} : ∀ (k i : Nat), i + k = n → ∀ (v : AV) (H : Heap), Grow 1 (nats ((List.range i).map (rchF n D))) H0 v H →
    (∀ v' H', Grow 1 (nats (rchL n D)) H0 v' H' → R (.exit 0) [(1, .ptr p 0 0), (3, v'), (4, .int .i64 (n : Nat)), (11, .bool false)] H') →
    Wp E base bar (.loop c55_l1) [(1, .ptr p 0 0), (3, v), (4, .int .i64 (i : Nat))] H R := by
  intro k
  induction k with
  | zero =>
    intro i hi v H gr h
    obtain rfl : i = n := by omega
    have hg := gr.get hp
    rw [wp_round c55_l1.eq_1]
    simp [go_sem, aload, hg, Ab.part]
    exact h v H gr
  | succ k ih =>
    intro i hi v H gr h
    have hlt : i < n := by omega
    have gl := gr.len
    have hg := gr.get hp
    have hnext := fun v H gr => ih (i + 1) (by omega) v H gr h
    rw [List.range_succ, List.map_append, List.map_cons, List.map_nil] at hnext
    have ed : dc n (distF n l i) = dc n (ofN (D i)) := dc_congr fun x hx => distF_tm hT hlt hv hc x hx
    have lb := fun {R : PQ} {v1 v3 v4 : AV} {base bar : Nat} hR => l55a (R := R) (base := base) (bar := bar) (H := H) (ex := false) (v1 := v1) (v3 := v3) (v4 := v4) (F := D i) hn n 0 (by omega) hR
    simp only [mx] at lb
    rw [wp_round c55_l1.eq_1]
    simp [go_sem, hlt, aload, hg, Ab.part]
    refine k53 hq hl hn h1 hlt hv (by omega) ?_
    rw [ed]
    simp [go_sem]
    refine lb ?_
    have er : mx n (D i) = rchF n D i := rfl
    rw [er]
    simp [go_sem, aop, fillA, setCells, AV.cells, chunks]
    refine gr.nat hb hbase (by simp; omega) fun v' H' tc gr' => ?_
    simp [go_sem, i64_suc (show i < 1000000 by omega)]
    exact hnext v' H' gr'
theorem k55 {n : Nat} {q : AV} {l : List ZZ} {D : Nat → Nat → Nat} (hT : TM (fun x => x < n) (tieB l) D) (hq : isP q l) (hl : l.length < 1000) (hn : n ≤ 9) (h1 : 1 ≤ n) (hv : ∀ p ∈ l, okP n p) (hc : Conn n l) (hbar : bar ≤ H.length)
    (h : ∀ u, isL u (rchL n D) → Q u H) : WpCall E pure base bar 55 [.agg [.int .i64 (n : Nat), q]] H Q := by
  rw [call55]
  have e0 : frzAll bar H [.agg [.int .i64 (n : Nat), q]] = some ([.agg [.int .i64 (n : Nat), q]], H) := by simp [frzAll, frz.frzs, frzsW, frz_agg, frz_int, hq.frz]
  rw [e0]
  have hb' : (if pure = true then H.length else bar) ≤ H.length := bar_if hbar
  simp [go_sem, WpFun, c55, hq.isTup, hq.cells, aload, AV.isTup, AV.cells]
  refine l55b (p := H.length) (H0 := H ++ [.row 0 [.int .i64 (n : Nat), q] 0 true]) hT hq hl hn h1 hv hc (by simp) (by simp; omega) (by simp) n 0 (by omega) .nils _ (by simpa [nats] using Grow.nil) fun v' H' gr => ?_
  obtain ⟨H2, f1, f2, f3, f4⟩ := gr.frz (d := 5) (bar := if pure = true then H.length else bar) (by decide) (Nat.one_dvd _) nats_plain (by rw [List.length_append]; omega)
  have hu : isL (outL 1 (nats (rchL n D))) (rchL n D) := isL.out
  have hk := h _ hu
  have e3 : H2.take H.length = H := by
    have := congrArg (List.take H.length) f4
    rw [List.take_take] at this
    simp at this
    exact this
  simp [go_sem, (Grow.one gr).1, f1, hu.top, tops_cons, tops_nil, e3]
  exact hk
theorem k15 {n : Int} {q : AV} {l : List ZZ} {D : Nat → Nat → Nat} (hD : TrD n l D) (hq : isP q l) (hl : l.length < 1000) (hbar : bar ≤ H.length)
    (h1 : errT n l ≠ 0 → Q (.tup [.nils, .int .i64 (errT n l)]) H)
    (h2 : ∀ (m : Nat) u, n = m → 1 ≤ m → m ≤ 9 → errT n l = 0 → isL u (rchL m D) → Q (.tup [u, .int .i64 0]) H) : WpCall E pure base bar 15 [.agg [.int .i64 n, q]] H Q := by
  rw [call15]
  have e0 : frzAll bar H [.agg [.int .i64 n, q]] = some ([.agg [.int .i64 n, q]], H) := by simp [frzAll, frz.frzs, frzsW, frz_agg, frz_int, hq.frz]
  rw [e0]
  have hb' : (if pure = true then H.length else bar) ≤ H.length := bar_if hbar
  simp [go_sem, WpFun, c15, hq.isTup, hq.cells, aload, AV.isTup, AV.cells]
  refine k28 hq hl (by simp; omega) ?_
  by_cases he : errT n l = 0
  · obtain ⟨m, rfl, p1, p2, hv, hE, hlen, hc⟩ := errT_ok he
    obtain ⟨t1, t2⟩ := hD he m rfl
    have hh := h2 m
    simp [go_sem, he, aload]
    refine k55 t1 hq hl p2 p1 hv hc (by simp; omega) fun u hu => ?_
    have hk := hh u rfl p1 p2 he hu
    simp [go_sem, hu.frz, hu.top, tops_cons, tops_nil]
    exact hk
  · have hh := h1 he
    simp [go_sem, he]
    exact hh
end Go.Proofs.Ytoipleipokpnaaa.Code
end
section
namespace Go.Proofs.Ytoipleipokpnaaa.Code
open Go Go.Ab
variable {pure : Bool} {base bar : Nat} {H : Heap} {Q : AV → Heap → Prop} {K : AV → Heap → List Nat → Prop}
/-! the reference: the middle -/
def mnF (m0 : Nat) (F : Nat → Nat) : Nat → Nat
  | 0 => m0
  | n + 1 => min (mnF m0 F n) (F n)
theorem mnF_le {m0 : Nat} {F : Nat → Nat} : ∀ {n x : Nat}, x < n → mnF m0 F n ≤ F x
  | 0, _, h => by omega
  | n + 1, x, h => by
    simp only [mnF]
    by_cases e : x = n
    · subst e; omega
    · have := mnF_le (m0 := m0) (F := F) (n := n) (x := x) (by omega); omega
theorem mnF_get {m0 : Nat} {F : Nat → Nat} : ∀ {n : Nat}, mnF m0 F n = m0 ∨ ∃ x, x < n ∧ mnF m0 F n = F x
  | 0 => .inl rfl
  | n + 1 => by
    simp only [mnF]
    rcases Nat.le_total (mnF m0 F n) (F n) with h | h
    · rw [Nat.min_eq_left h]
      rcases mnF_get (m0 := m0) (F := F) (n := n) with e | ⟨x, h1, h2⟩
      · exact .inl e
      · exact .inr ⟨x, by omega, h2⟩
    · rw [Nat.min_eq_right h]; exact .inr ⟨n, by omega, rfl⟩
theorem rch_get {n : Nat} {D : Nat → Nat → Nat} {i : Nat} (h : i < (rchL n D).length) : (rchL n D)[i] = rchF n D i := by simp [rchL]
theorem rchL_len {n : Nat} {D : Nat → Nat → Nat} : (rchL n D).length = n := by simp [rchL]
theorem l56a {n p : Nat} {q u : AV} {D : Nat → Nat → Nat} (hu : isL u (rchL n D)) (hp : H[p]? = some (.row 0 [.int .i64 (n : Nat), q] 0 true)) (hn : n ≤ 9) {R : PQ} : ∀ (k i : Nat), i + k = n →
    R (.exit 0) [(1, .ptr p 0 0), (3, u), (4, .int .i64 (mnF n (rchF n D) n : Nat)), (5, .int .i64 (n : Nat)), (15, .bool false)] H →
    Wp E base bar (.loop c56_l0) [(1, .ptr p 0 0), (3, u), (4, .int .i64 (mnF n (rchF n D) i : Nat)), (5, .int .i64 (i : Nat))] H R := by
  intro k
  induction k with
  | zero =>
    intro i hi h
    obtain rfl : i = n := by omega
    rw [wp_round c56_l0.eq_1]
    simp [go_sem, aload, hp, Ab.part]
    exact h
  | succ k ih =>
    intro i hi h
    have hlt : i < n := by omega
    have hnext := ih (i + 1) (by omega) h
    simp only [mnF] at hnext
    have hix := fun (H : Heap) (K : AV → Heap → List Nat → Prop) => hu.ix (H := H) (K := K) (k := .i64) (i := i) (by rw [rchL_len]; exact hlt)
    simp only [rch_get] at hix
    generalize mnF n (rchF n D) i = m at *
    rw [wp_round c56_l0.eq_1]
    simp [go_sem, hlt, hix, aload, hp, Ab.part, aop, Opd.ev, min_cast, i64_suc (show i < 1000000 by omega)]
    exact hnext
def midF (n : Nat) (D : Nat → Nat → Nat) : Nat → List Nat := fun i => (List.range i).filter fun k => decide (rchF n D k = mnF n (rchF n D) n)
theorem l56b {n p : Nat} {q u : AV} {D : Nat → Nat → Nat} {H0 : Heap} (hu : isL u (rchL n D)) (hp : H0[p]? = some (.row 0 [.int .i64 (n : Nat), q] 0 true)) (hn : n ≤ 9) (hb : bar ≤ H0.length) (hbase : base ≤ H0.length) {R : PQ} : ∀ (k i : Nat), i + k = n → ∀ (v : AV) (H : Heap), Grow 1 (nats (midF n D i)) H0 v H →
    (∀ v' H', Grow 1 (nats (midF n D n)) H0 v' H' → R (.exit 2) [(1, .ptr p 0 0), (3, u), (4, .int .i64 (mnF n (rchF n D) n : Nat)), (6, v'), (7, .int .i64 (n : Nat)), (27, .bool false)] H') →
    Wp E base bar (.loop c56_l1) [(1, .ptr p 0 0), (3, u), (4, .int .i64 (mnF n (rchF n D) n : Nat)), (6, v), (7, .int .i64 (i : Nat))] H R := by
  intro k
  induction k with
  | zero =>
    intro i hi v H gr h
    obtain rfl : i = n := by omega
    have hg := gr.get hp
    rw [wp_round c56_l1.eq_1]
    simp [go_sem, aload, hg, Ab.part]
    exact h v H gr
  | succ k ih =>
    intro i hi v H gr h
    have hlt : i < n := by omega
    have hg := gr.get hp
    have gl := gr.len
    have hnext := fun v H gr => ih (i + 1) (by omega) v H gr h
    have hmid : midF n D (i + 1) = midF n D i ++ if rchF n D i = mnF n (rchF n D) n then [i] else [] := by
      unfold midF
      rw [List.range_succ, List.filter_append]
      congr 1
      by_cases e : rchF n D i = mnF n (rchF n D) n <;> simp [e]
    rw [hmid] at hnext
    have hix := fun (H : Heap) (K : AV → Heap → List Nat → Prop) => hu.ix (H := H) (K := K) (k := .i64) (i := i) (by rw [rchL_len]; exact hlt)
    simp only [rch_get] at hix
    have hlen : (midF n D i).length ≤ i := by
      have := List.length_filter_le (fun k => decide (rchF n D k = mnF n (rchF n D) n)) (List.range i)
      rw [List.length_range] at this; exact this
    generalize mnF n (rchF n D) n = m at *
    generalize rchF n D i = r at *
    rw [wp_round c56_l1.eq_1]
    by_cases c : r = m
    · subst c
      rw [if_pos rfl] at hnext
      simp [go_sem, hlt, hix, aload, hg, Ab.part, aop, fillA, setCells, AV.cells, chunks]
      refine gr.nat hb hbase (by omega) fun v' H' tc gr' => ?_
      simp [go_sem, i64_suc (show i < 1000000 by omega)]
      exact hnext v' H' gr'
    · have c' : ¬ (r : Int) = (m : Int) := by omega
      rw [if_neg c, List.append_nil] at hnext
      simp [go_sem, hlt, hix, aload, hg, Ab.part, c, c', i64_suc (show i < 1000000 by omega)]
      exact hnext v H gr
theorem k56 {n : Nat} {q : AV} {l : List ZZ} {D : Nat → Nat → Nat} (hT : TM (fun x => x < n) (tieB l) D) (hq : isP q l) (hl : l.length < 1000) (hn : n ≤ 9) (h1 : 1 ≤ n) (hv : ∀ p ∈ l, okP n p) (hc : Conn n l) (hbar : bar ≤ H.length)
    (h : ∀ u, isL u (midF n D n) → Q u H) : WpCall E pure base bar 56 [.agg [.int .i64 (n : Nat), q]] H Q := by
  rw [call56]
  have e0 : frzAll bar H [.agg [.int .i64 (n : Nat), q]] = some ([.agg [.int .i64 (n : Nat), q]], H) := by simp [frzAll, frz.frzs, frzsW, frz_agg, frz_int, hq.frz]
  rw [e0]
  have hb' : (if pure = true then H.length else bar) ≤ H.length := bar_if hbar
  simp [go_sem, WpFun, c56, hq.isTup, hq.cells, aload, AV.isTup, AV.cells]
  refine k55 hT hq hl hn h1 hv hc (by simp; omega) fun u hu => ?_
  simp [go_sem, aload, Ab.part]
  refine l56a (p := H.length) (q := q) hu (by simp) hn n 0 (by omega) ?_
  simp [go_sem]
  refine l56b (p := H.length) (q := q) (H0 := H ++ [.row 0 [.int .i64 (n : Nat), q] 0 true]) hu (by simp) hn (by simp; omega) (by simp) n 0 (by omega) .nils _ (by simpa [nats, midF] using Grow.nil) fun v' H' gr => ?_
  obtain ⟨H2, f1, f2, f3, f4⟩ := gr.frz (d := 5) (bar := if pure = true then H.length else bar) (by decide) (Nat.one_dvd _) nats_plain (by rw [List.length_append]; omega)
  have hu : isL (outL 1 (nats (midF n D n))) (midF n D n) := isL.out
  have hk := h _ hu
  have e3 : H2.take H.length = H := by
    have := congrArg (List.take H.length) f4
    rw [List.take_take] at this
    simp at this
    exact this
  simp [go_sem, (Grow.one gr).1, f1, hu.top, tops_cons, tops_nil, e3]
  exact hk
theorem k17 {n : Int} {q : AV} {l : List ZZ} {D : Nat → Nat → Nat} (hD : TrD n l D) (hq : isP q l) (hl : l.length < 1000) (hbar : bar ≤ H.length)
    (h1 : errT n l ≠ 0 → Q (.tup [.nils, .int .i64 (errT n l)]) H)
    (h2 : ∀ (m : Nat) u, n = m → 1 ≤ m → m ≤ 9 → errT n l = 0 → isL u (midF m D m) → Q (.tup [u, .int .i64 0]) H) : WpCall E pure base bar 17 [.agg [.int .i64 n, q]] H Q := by
  rw [call17]
  have e0 : frzAll bar H [.agg [.int .i64 n, q]] = some ([.agg [.int .i64 n, q]], H) := by simp [frzAll, frz.frzs, frzsW, frz_agg, frz_int, hq.frz]
  rw [e0]
  have hb' : (if pure = true then H.length else bar) ≤ H.length := bar_if hbar
  simp [go_sem, WpFun, c17, hq.isTup, hq.cells, aload, AV.isTup, AV.cells]
  refine k28 hq hl (by simp; omega) ?_
  by_cases he : errT n l = 0
  · obtain ⟨m, rfl, p1, p2, hv, hE, hlen, hc⟩ := errT_ok he
    obtain ⟨t1, t2⟩ := hD he m rfl
    have hh := h2 m
    simp [go_sem, he, aload]
    refine k56 t1 hq hl p2 p1 hv hc (by simp; omega) fun u hu => ?_
    have hk := hh u rfl p1 p2 he hu
    simp [go_sem, hu.frz, hu.top, tops_cons, tops_nil]
    exact hk
  · have hh := h1 he
    simp [go_sem, he]
    exact hh
/-- the middle is what is taken off last -/
theorem last_cen {n : Nat} {l : List ZZ} {w : Nat → Nat} {D : Nat → Nat → Nat} (hw : Wd n l w) : ∀ (t left : Nat), RS n l D left → left ≠ 0 → (bitsN left).length ≤ t →
    ∀ x, ((rdsM w t left).getLastD 0).testBit x = true ↔ IsCen n (fun x => left.testBit x) D x
  | 0, left, h, h0, ht, x => absurd (bits_none h.lt (by omega)) h0
  | t + 1, left, h, h0, ht, x => by
    have hf := h.fuel hw h0
    have e : rdsM w (t + 1) left = offM w left :: rdsM w t (bcl left (offM w left)) := by simp [rdsM, h0]
    rw [e]
    by_cases e2 : bcl left (offM w left) = 0
    · have e3 : rdsM w t (bcl left (offM w left)) = [] := by
        rw [e2]
        cases t with
        | zero => rfl
        | succ t => simp [rdsM]
      rw [e3]
      have hall : ∀ y, left.testBit y = true → LfS (tieB l) (fun x => left.testBit x) y := fun y hy => by
        apply Classical.byContradiction
        intro hl
        have := (h.off hw y).2 ⟨hy, hl⟩
        rw [e2] at this; simp at this
      show (offM w left).testBit x = true ↔ _
      rw [offM_bit h.lt]
      constructor
      · rintro ⟨h1, _⟩; exact h.tree.cen_all h.inn hall h1
      · rintro ⟨h1, _⟩; exact ⟨h1, (off_leaf hw h h1).2 (hall x h1)⟩
    · obtain ⟨v, hv⟩ : ∃ v, (bcl left (offM w left)).testBit v = true := Nat.exists_testBit_of_ne_zero e2
      have ih := last_cen hw t _ (h.step hw) e2 (by omega) x
      have hne : rdsM w t (bcl left (offM w left)) ≠ [] := by
        cases t with
        | zero => exact absurd (bits_none (h.step hw).lt (by omega)) e2
        | succ t => simp [rdsM, e2]
      have eg : (offM w left :: rdsM w t (bcl left (offM w left))).getLastD 0 = (rdsM w t (bcl left (offM w left))).getLastD 0 := by
        cases hL : rdsM w t (bcl left (offM w left)) with
        | nil => exact absurd hL hne
        | cons a r => simp [List.getLastD]
      rw [eg, ih]
      exact (h.tree.cen_round h.inn (h.off hw) hv).symm
theorem ecc_all {n left x : Nat} {D : Nat → Nat → Nat} (h : ∀ y, left.testBit y = true ↔ y < n) : ecc n (fun x => left.testBit x) D x = rchF n D x := by
  unfold ecc rchF
  have : ∀ m, m ≤ n → mx m (fun y => if left.testBit y = true then D x y else 0) = mx m (D x) := fun m hm => by
    induction m with
    | zero => rfl
    | succ m ih =>
      simp only [mx]
      rw [ih (by omega), if_pos ((h m).2 (by omega))]
  exact this n (Nat.le_refl n)
theorem mid_same {n : Nat} {l : List ZZ} {w : Nat → Nat} {D : Nat → Nat → Nat} (hn : n ≤ 9) (h1 : 1 ≤ n) (hT : TM (fun x => x < n) (tieB l) D) (hw : Wd n l w) (hD : ∀ x y, x < n → y < n → D x y < n) : bitsN (lastM n w) = midF n D n := by
  have hR := RS.start hn hT
  have h0 : pw n - 1 ≠ 0 := by
    have := Nat.pow_le_pow_right (n := 2) (by decide) h1
    unfold pw; omega
  have hb : ∀ y, (pw n - 1).testBit y = true ↔ y < n := fun y => by rw [pwm_bit]; simp
  have hc := last_cen hw 9 _ hR h0 bitsN_len
  have hc' : ∀ x, (lastM n w).testBit x = true ↔ x < n ∧ ∀ y, y < n → rchF n D x ≤ rchF n D y := fun x => by
    have := hc x
    unfold IsCen at this
    simp only [ecc_all hb, hb] at this
    exact this
  have hle : ∀ x, x < n → rchF n D x < n := fun x hx => by
    have : rchF n D x ≤ n - 1 := mx_le fun y hy => by have := hD x y hx hy; omega
    omega
  have hmin : ∀ x, x < n → (rchF n D x = mnF n (rchF n D) n ↔ ∀ y, y < n → rchF n D x ≤ rchF n D y) := fun x hx => by
    constructor
    · intro e y hy; rw [e]; exact mnF_le hy
    · intro h
      have h2 := mnF_le (m0 := n) (F := rchF n D) hx
      rcases mnF_get (m0 := n) (F := rchF n D) (n := n) with e | ⟨y, hy, e⟩
      · have := hle x hx; omega
      · have := h y hy; omega
  have e9 : List.range 9 = List.range n ++ List.range' n (9 - n) := by
    rw [List.range_eq_range', List.range_eq_range']
    have := List.range'_append (s := 0) (m := n) (n := 9 - n) (step := 1)
    rw [← show n + (9 - n) = 9 by omega, ← this]; simp
  unfold bitsN midF
  rw [e9, List.filter_append]
  have e1 : (List.range' n (9 - n)).filter (lastM n w).testBit = [] := by
    rw [List.filter_eq_nil_iff]
    intro x hx hbx
    have := (hc' x).1 hbx
    have := (List.mem_range'_1.1 hx).1
    omega
  rw [e1, List.append_nil]
  refine List.filter_congr fun x hx => ?_
  have hx := List.mem_range.1 hx
  rw [Bool.eq_iff_iff, decide_eq_true_iff, hc', hmin x hx]
  exact ⟨fun h => h.2, fun h => ⟨hx, h⟩⟩
end Go.Proofs.Ytoipleipokpnaaa.Code
end
section
namespace Go.Proofs.Ytoipleipokpnaaa.Code
open Go Go.Ab
variable {pure : Bool} {base bar : Nat} {H : Heap} {Q : AV → Heap → Prop} {K : AV → Heap → List Nat → Prop}
/-! the reference: the way -/
theorem l13a {n a to p b0 : Nat} {q v10 : AV} {l : List ZZ} {D : Nat → Nat → Nat} (hT : TM (fun x => x < n) (tieB l) D) (hq : isP q l) (hl : l.length < 1000) (ha : a < n) (hto : to < n) (hne : a ≠ to) (hn : n ≤ 9) (hb0 : b0 = nxtF n l D a to)
    (hp : H[p]? = some (.row 0 [.int .i64 (n : Nat), q] 0 true)) (hb : bar ≤ H.length) {R : PQ} : ∀ (k i : Nat), i + k = b0 →
    (R (.exit 2) [(1, .int .i64 (a : Nat)), (2, .int .i64 (to : Nat)), (3, .ptr p 0 0), (9, .lst 1 false (dc n (ofN (D to)))), (10, v10), (11, .int .i64 (b0 : Nat)), (59, .bool false)] H) →
    Wp E base bar (.loop c13_l0) [(1, .int .i64 (a : Nat)), (2, .int .i64 (to : Nat)), (3, .ptr p 0 0), (9, .lst 1 false (dc n (ofN (D to)))), (10, v10), (11, .int .i64 (i : Nat))] H R := by
  obtain ⟨n1, n2, n3⟩ := nxtF_ok hT ha hto hne
  rw [← hb0] at n1 n2 n3
  have hbn := (hT.inV n1).2.1
  intro k
  induction k with
  | zero =>
    intro i hi h
    obtain rfl : i = b0 := by omega
    have ht : tieZ l (a : Int) (i : Int) = true := n1
    have hlt : ¬ D to a < D to i := by omega
    have ho : ∀ x, ofN (D to) x = ((D to x : Nat) : Int) := fun _ => rfl
    rw [wp_round c13_l0.eq_1]
    simp [go_sem, aload, hp, Ab.part]
    refine k54 hq hl ?_
    rw [ht]
    simp [go_sem, aload, dc_get, dc_getE, dc_len, ho, hbn, ha, hlt]
    exact h
  | succ k ih =>
    intro i hi h
    have hi2 : i < b0 := by omega
    have hlt : i < n := by omega
    have hnext := ih (i + 1) (by omega) h
    have ho : ∀ x, ofN (D to) x = ((D to x : Nat) : Int) := fun _ => rfl
    have htie : tieZ l (a : Int) (i : Int) = tieB l a i := rfl
    rw [wp_round c13_l0.eq_1]
    simp [go_sem, aload, hp, Ab.part]
    refine k54 hq hl ?_
    rw [htie]
    cases ht : tieB l a i with
    | false =>
      simp [go_sem, i64_suc (show i < 1000000 by omega)]
      exact hnext
    | true =>
      have hgt : D to a < D to i := by
        rcases hT.step hto ht with e | e
        · omega
        · have := n3 i ht e.symm; omega
      simp [go_sem, aload, dc_get, dc_getE, dc_len, ho, hlt, ha, hgt, i64_suc (show i < 1000000 by omega)]
      exact hnext
/-- a list that grows from a literal of one number -/
def OA (a : Nat) (H0 : Heap) (l : List Nat) (v : AV) (H : Heap) : Prop := (l = [a] ∧ v = .lst 1 true [.int .i64 (a : Int)] ∧ H = H0) ∨ Grow 1 (nats l) H0 v H
theorem OA.add {a : Nat} {H0 : Heap} {x : Nat} {l : List Nat} {v : AV} {ex : Bool} (g : OA a H0 l v H) (hb : bar ≤ H0.length) (hbase : base ≤ H0.length) (hlen : l.length < 1000)
    (h : ∀ v' H' tc, OA a H0 (l ++ [x]) v' H' → K v' H' tc) : appWp base bar 1 8 (some v) (some (.lst 1 ex [.int .i64 (x : Int)])) H K := by
  rcases g with ⟨rfl, rfl, rfl⟩ | g
  · exact app_two (path := [x]) (by simp) (by simp) fun v' H' tc g' => h v' H' tc (.inr g')
  · exact g.nat hb hbase (by omega) fun v' H' tc g' => h v' H' tc (.inr g')
theorem OA.get {a : Nat} {H0 : Heap} {l : List Nat} {v : AV} {i : Nat} {b : Blk} (g : OA a H0 l v H) (h : H0[i]? = some b) : H[i]? = some b := by
  rcases g with ⟨rfl, rfl, rfl⟩ | g
  · exact h
  · exact g.get h
theorem OA.len {a : Nat} {H0 : Heap} {l : List Nat} {v : AV} (g : OA a H0 l v H) : H0.length ≤ H.length := by
  rcases g with ⟨rfl, rfl, rfl⟩ | g
  · exact Nat.le_refl _
  · exact g.len
theorem OA.frz {a : Nat} {H0 : Heap} {l : List Nat} {v : AV} {d : Nat} (g : OA a H0 l v H) (hb : bar ≤ H0.length) : ∃ u H', Go.Ab.frz (d + 3) bar H v = some (u, H') ∧ isL u l ∧ H'.take H0.length = H0 := by
  rcases g with ⟨rfl, rfl, rfl⟩ | g
  · exact ⟨_, _, rfl, .inr ⟨true, rfl⟩, by simp⟩
  · obtain ⟨H', h1, h2, h3, h4⟩ := g.frz (d := d) (bar := bar) (by omega) (Nat.one_dvd _) nats_plain hb
    exact ⟨_, _, h1, isL.out, h4⟩
theorem OA.one {a : Nat} {H0 : Heap} {l : List Nat} {v : AV} (g : OA a H0 l v H) : v.isTup = false := by
  rcases g with ⟨rfl, rfl, rfl⟩ | g
  · rfl
  · exact (Grow.one g).1
theorem l13b {n a0 to p : Nat} {q : AV} {l : List ZZ} {D : Nat → Nat → Nat} {H0 : Heap} (hT : TM (fun x => x < n) (tieB l) D) (hD : ∀ x y, x < n → y < n → D x y < n) (hq : isP q l) (hl : l.length < 1000) (hto : to < n) (hn : n ≤ 9)
    (hp : H0[p]? = some (.row 0 [.int .i64 (n : Nat), q] 0 true)) (hb : bar ≤ H0.length) (hbase : base ≤ H0.length) {R : PQ} : ∀ (t a : Nat), a < n → D to a = t → ∀ (pre : List Nat) (v : AV) (H : Heap), pre.length + t < 100 → OA a0 H0 (pre ++ [a]) v H →
    (∀ v' H' b, OA a0 H0 (pre ++ wayF n l D to t a) v' H' → R (.exit 0) [(1, .int .i64 (to : Nat)), (2, .int .i64 (to : Nat)), (3, .ptr p 0 0), (9, .lst 1 false (dc n (ofN (D to)))), (10, v'), (42, b)] H') →
    Wp E base bar (.loop c13_l1) [(1, .int .i64 (a : Nat)), (2, .int .i64 (to : Nat)), (3, .ptr p 0 0), (9, .lst 1 false (dc n (ofN (D to)))), (10, v)] H R := by
  intro t
  induction t with
  | zero =>
    intro a ha hd pre v H hlen g h
    obtain rfl := hT.eq hto ha hd
    rw [wp_round c13_l1.eq_1]
    simp [go_sem]
    exact h v H _ g
  | succ t ih =>
    intro a ha hd pre v H hlen g h
    have hne : a ≠ to := fun e => by subst e; rw [hT.zero ha] at hd; omega
    have hne' : ¬ (a : Int) = (to : Int) := by omega
    obtain ⟨n1, n2, n3⟩ := nxtF_ok hT ha hto hne
    have hbn := (hT.inV n1).2.1
    have gl := g.len
    have la := fun {R : PQ} {base bar : Nat} {v10 : AV} hb hR => l13a (R := R) (base := base) (bar := bar) (H := H) (v10 := v10) hT hq hl ha hto hne hn rfl (g.get hp) hb (nxtF n l D a to) 0 (by omega) hR
    have hnext := fun v H g => ih (nxtF n l D a to) hbn (by omega) (pre ++ [a]) v H (by simp; omega) g (fun v' H' b g' => h v' H' b (by simpa [wayF] using g'))
    generalize nxtF n l D a to = b at *
    rw [wp_round c13_l1.eq_1]
    simp [go_sem, hne, hne']
    refine la (by omega) ?_
    simp [go_sem, aop, fillA, setCells, AV.cells, chunks]
    refine OA.add g hb hbase (by simp; omega) fun v' H' tc g' => ?_
    simp [go_sem]
    exact hnext v' H' g'
theorem k13 {n a b : Int} {q : AV} {l : List ZZ} {D : Nat → Nat → Nat} (hD : TrD n l D) (hq : isP q l) (hl : l.length < 1000) (hbar : bar ≤ H.length)
    (h1 : wyE n l a b ≠ 0 → Q (.tup [.nils, .int .i64 (wyE n l a b)]) H)
    (h2 : ∀ (m fr to : Nat) u, n = m → a = fr → b = to → fr < m → to < m → 1 ≤ m → m ≤ 9 → errT n l = 0 → isL u (wayF m l D to (D to fr) fr) → Q (.tup [u, .int .i64 0]) H) : WpCall E pure base bar 13 [.agg [.int .i64 n, q], .int .i64 a, .int .i64 b] H Q := by
  rw [call13]
  have e0 : frzAll bar H [.agg [.int .i64 n, q], .int .i64 a, .int .i64 b] = some ([.agg [.int .i64 n, q], .int .i64 a, .int .i64 b], H) := by simp [frzAll, frz.frzs, frzsW, frz_agg, frz_int, hq.frz]
  rw [e0]
  have hb' : (if pure = true then H.length else bar) ≤ H.length := bar_if hbar
  simp [go_sem, WpFun, c13, hq.isTup, hq.cells, aload, AV.isTup, AV.cells]
  refine k28 hq hl (by simp; omega) ?_
  by_cases he : errT n l = 0
  · obtain ⟨m, rfl, p1, p2, hv, hE, hlen, hc⟩ := errT_ok he
    obtain ⟨t1, t2⟩ := hD he m rfl
    have hw1 : IntKind.i64.wrap ((m : Int) - 1) = (m : Int) - 1 := Go.IntWalk.i64_in _ (by omega)
    by_cases c1 : 0 ≤ a ∧ a ≤ (m : Int) - 1
    · by_cases c2 : 0 ≤ b ∧ b ≤ (m : Int) - 1
      · obtain ⟨fr, rfl⟩ := Int.eq_ofNat_of_zero_le c1.1
        obtain ⟨to, rfl⟩ := Int.eq_ofNat_of_zero_le c2.1
        have d1 : (fr : Int) ≤ (m : Int) - 1 := by omega
        have d2 : (to : Int) ≤ (m : Int) - 1 := by omega
        have hfr : fr < m := by omega
        have hto : to < m := by omega
        have hh := fun u => h2 m fr to u rfl rfl rfl hfr hto p1 p2 he
        have ed : dc m (distF m l to) = dc m (ofN (D to)) := dc_congr fun x hx => distF_tm t1 hto hv hc x hx
        have hbd := t2 to fr hto hfr
        simp [go_sem, he, aload, Ab.part, hw1, k52, d1, d2]
        refine k53 hq hl p2 p1 hto hv (by simp; omega) ?_
        rw [ed]
        simp [go_sem, aop, fillA, setCells, AV.cells, chunks]
        refine l13b (a0 := fr) (p := H.length) (q := q) (H0 := H ++ [.row 0 [.int .i64 (m : Nat), q] 0 true]) t1 t2 hq hl hto p2 (by simp) (by simp; omega) (by simp) (D to fr) fr hfr rfl [] _ _ (by simp; omega) (.inl ⟨rfl, rfl, rfl⟩) fun v' H' bb g => ?_
        rw [List.nil_append] at g
        obtain ⟨u, H2, f1, f2, f3⟩ := g.frz (d := 5) (bar := if pure = true then H.length else bar) (by simp; omega)
        have hk := hh u f2
        have e3 : H2.take H.length = H := by
          have := congrArg (List.take H.length) f3
          rw [List.take_take] at this
          simp at this
          exact this
        simp [go_sem, g.one, f1, f2.top, tops_cons, tops_nil, e3, frz_int]
        exact hk
      · have ee : wyE m l a b = 2 := by unfold wyE; rw [if_neg (by simpa using he), if_neg (fun h => c2 h.2)]
        have hh := h1 (by rw [ee]; decide)
        rw [ee] at hh
        have d1 : (decide (0 ≤ a) && decide (a ≤ (m : Int) - 1)) = true := by simp; omega
        have d2 : (decide (0 ≤ b) && decide (b ≤ (m : Int) - 1)) = false := by simp; omega
        simp [go_sem, he, aload, Ab.part, hw1, k52, d1, d2]
        exact hh
    · have ee : wyE m l a b = 2 := by unfold wyE; rw [if_neg (by simpa using he), if_neg (fun h => c1 h.1)]
      have hh := h1 (by rw [ee]; decide)
      rw [ee] at hh
      have d1 : (decide (0 ≤ a) && decide (a ≤ (m : Int) - 1)) = false := by simp; omega
      simp [go_sem, he, aload, Ab.part, hw1, k52, d1]
      exact hh
  · have ee : wyE n l a b = errT n l := by unfold wyE; rw [if_pos he]
    have hh := h1 (by rw [ee]; exact he)
    rw [ee] at hh
    simp [go_sem, he]
    exact hh
end Go.Proofs.Ytoipleipokpnaaa.Code
end
section
namespace Go.Proofs.Ytoipleipokpnaaa.Code
open Go Go.Ab
variable {pure : Bool} {base bar : Nat} {H : Heap} {Q : AV → Heap → Prop} {K : AV → Heap → List Nat → Prop}
/-! the reference: rounds -/
theorem bitsN_range {n s : Nat} (hn : n ≤ 9) (h : ∀ x, s.testBit x = true → x < n) : bitsN s = (List.range n).filter s.testBit := by
  have e9 : List.range 9 = List.range n ++ List.range' n (9 - n) := by
    rw [List.range_eq_range', List.range_eq_range']
    have := List.range'_append (s := 0) (m := n) (n := 9 - n) (step := 1)
    rw [← show n + (9 - n) = 9 by omega, ← this]; simp
  unfold bitsN
  rw [e9, List.filter_append]
  have e1 : (List.range' n (9 - n)).filter s.testBit = [] := by
    rw [List.filter_eq_nil_iff]
    intro x hx hbx
    have := h x hbx
    have := (List.mem_range'_1.1 hx).1
    omega
  rw [e1, List.append_nil]
/-- what is gone is what the set lacks -/
def Lft (n : Nat) (g : Nat → Bool) (left : Nat) : Prop := ∀ x, x < n → left.testBit x = !g x
theorem oth_left {n left k : Nat} {l : List ZZ} {w : Nat → Nat} {g : Nat → Bool} (hn : n ≤ 9) (hw : Wd n l w) (hg : Lft n g left) : othF n l k g = bitsN (band (w k) left) := by
  rw [bitsN_range (n := n) hn fun x hx => by
    rw [testBit_band, Bool.and_eq_true, hw.bit] at hx
    exact (tieB_lt hw.val hx.1).2.1]
  unfold othF
  refine List.filter_congr fun b hb => ?_
  have hb := List.mem_range.1 hb
  rw [testBit_band, hw.bit, hg b hb]
  cases ht : tieB l k b with
  | false => simp
  | true =>
    have := (tieB_lt hw.val ht).2.2
    simp [show b ≠ k from fun e => this e.symm]
def offB (n : Nat) (l : List ZZ) (g : Nat → Bool) (k : Nat) : Bool := !g k && decide ((othF n l k g).length ≤ 1)
theorem offB_left {n left : Nat} {l : List ZZ} {w : Nat → Nat} {g : Nat → Bool} {D : Nat → Nat → Nat} (hn : n ≤ 9) (hw : Wd n l w) (hR : RS n l D left) (hg : Lft n g left) : (List.range n).filter (offB n l g) = bitsN (offM w left) := by
  rw [bitsN_range (n := n) hn fun x hx => hR.inn x ((offM_bit hR.lt).1 hx).1]
  refine List.filter_congr fun b hb => ?_
  have hb := List.mem_range.1 hb
  have hb9 : band (w b) left < 512 := band9 (hw.lt b)
  rw [Bool.eq_iff_iff, offM_bit hR.lt]
  unfold offB offS
  rw [oth_left hn hw hg, hg b hb, Bool.and_eq_true, decide_eq_true_iff, decide_eq_true_iff, lowS_bits _ hb9]
theorem l20a {n p left : Nat} {q v5 v7 : AV} {l : List ZZ} {w : Nat → Nat} {g : Nat → Bool} {H0 : Heap} (hq : isP q l) (hl : l.length < 1000) (hn : n ≤ 9) (hp : H0[p]? = some (.row 0 [.int .i64 (n : Nat), q] 0 true)) (hgo : H0[p + 1]? = some (.row 0 (gc n g) 0 true)) (hb : bar ≤ H0.length) (hbase : base ≤ H0.length) {R : PQ} :
    ∀ (k i : Nat), i + k = n → ∀ (v : AV) (H : Heap), Grow 1 (nats ((List.range i).filter (offB n l g))) H0 v H →
    (∀ v' H', Grow 1 (nats ((List.range n).filter (offB n l g))) H0 v' H' → R (.exit 2) [(1, .ptr p 0 0), (5, v5), (6, .vec (p + 1) 0 0 n 1), (7, v7), (8, v'), (9, .int .i64 (n : Nat)), (26, .bool false)] H') →
    Wp E base bar (.loop c20_l0) [(1, .ptr p 0 0), (5, v5), (6, .vec (p + 1) 0 0 n 1), (7, v7), (8, v), (9, .int .i64 (i : Nat))] H R := by
  intro k
  induction k with
  | zero =>
    intro i hi v H gr h
    obtain rfl : i = n := by omega
    have hg := gr.get hp
    rw [wp_round c20_l0.eq_1]
    simp [go_sem, aload, hg, Ab.part]
    exact h v H gr
  | succ k ih =>
    intro i hi v H gr h
    have hlt : i < n := by omega
    have hg := gr.get hp
    have hg2 := gr.get hgo
    have gl := gr.len
    have hnext := fun v H gr => ih (i + 1) (by omega) v H gr h
    have hmid : (List.range (i + 1)).filter (offB n l g) = (List.range i).filter (offB n l g) ++ if offB n l g i then [i] else [] := by
      rw [List.range_succ, List.filter_append]
      congr 1
      cases e : offB n l g i <;> simp [e]
    rw [hmid] at hnext
    have hlen : ((List.range i).filter (offB n l g)).length ≤ i := by
      have := List.length_filter_le (offB n l g) (List.range i)
      rw [List.length_range] at this; exact this
    have hou : isL (outL 1 (nats (othF n l i g))) (othF n l i g) := isL.out
    have ob : offB n l g i = (!g i && decide ((othF n l i g).length ≤ 1)) := rfl
    have hk := fun {pure : Bool} {base bar : Nat} {Q : AV → Heap → Prop} hb' hQ => k59 (pure := pure) (base := base) (bar := bar) (Q := Q) (H := H) (k := i) hq hl hn hg2 hb' hQ
    have hw2 : ∀ {H : Heap} {K : AV → Heap → List Nat → Prop}, lenWp (some (outL 1 (nats (othF n l i g)))) H K = K (.int .i64 ((othF n l i g).length : Int)) H [] := fun {H K} => hou.len
    rw [wp_round c20_l0.eq_1]
    cases hgi : g i with
    | true =>
      rw [hgi] at ob
      simp only [ob, Bool.not_true, Bool.false_and, Bool.false_eq_true, if_false, List.append_nil] at hnext
      simp [go_sem, aload, hg, hg2, Ab.part, hlt, gc_len, gc_getE, hgi, i64_suc (show i < 1000000 by omega)]
      exact hnext v H gr
    | false =>
      rw [hgi] at ob
      simp [go_sem, aload, hg, hg2, Ab.part, hlt, gc_len, gc_getE, hgi]
      refine hk (by omega) ?_
      by_cases c : (othF n l i g).length ≤ 1
      · have c' : ((othF n l i g).length : Int) ≤ 1 := by omega
        have ob1 : offB n l g i = true := by rw [ob]; simp [c]
        rw [ob1, if_pos rfl] at hnext
        simp [go_sem, hw2, c, c', aop, fillA, setCells, AV.cells, chunks]
        refine gr.nat hb hbase (by omega) fun v' H' tc gr' => ?_
        simp [go_sem, i64_suc (show i < 1000000 by omega)]
        exact hnext v' H' gr'
      · have c' : ¬ ((othF n l i g).length : Int) ≤ 1 := by omega
        have ob1 : offB n l g i = false := by rw [ob]; simp [c]
        rw [ob1, if_neg (by decide), List.append_nil] at hnext
        simp [go_sem, hw2, c, c', i64_suc (show i < 1000000 by omega)]
        exact hnext v H gr
def goL (g : Nat → Bool) (L : List Nat) : Nat → Bool := L.foldl (fun g k => updB g k true) g
theorem goL_get : ∀ {L : List Nat} {g : Nat → Bool} {x : Nat}, goL g L x = (g x || L.contains x)
  | [], g, x => by simp [goL]
  | a :: L, g, x => by
    have e : goL g (a :: L) = goL (updB g a true) L := rfl
    rw [e, goL_get]
    unfold updB
    by_cases h : x = a
    · subst h; simp
    · simp [h]
theorem Grow.vlen {L : List Nat} {H0 : Heap} {v : AV} (g : Grow 1 (nats L) H0 v H) {H' : Heap} : lenWp (some v) H' K = K (.int .i64 (L.length : Int)) H' [] := by
  rcases g with ⟨h1, rfl, rfl⟩ | ⟨ver, fz, h1, h2, rfl, rfl⟩
  · have : L = [] := by simpa [nats] using h1
    subst this; rfl
  · rw [nats_len, Nat.div_one]; rfl
theorem Grow.vix {L : List Nat} {H0 : Heap} {v : AV} (g : Grow 1 (nats L) H0 v H) {i : Nat} (hi : i < L.length) : ∃ p, (∀ {H' : Heap} {k : IntKind} {K : AV → Heap → List Nat → Prop}, ixaSWp 1 (some v) (some (.int k (i : Int))) H' K = K p H' []) ∧ ∀ {s : Nat}, aload H ⟨false, s⟩ p = some (.int .i64 ((L[i] : Nat) : Int)) := by
  rcases g with ⟨h1, rfl, rfl⟩ | ⟨ver, fz, h1, h2, rfl, rfl⟩
  · have : L = [] := by simpa [nats] using h1
    subst this; simp at hi
  · refine ⟨.ptr H0.length ver i, fun {H' k K} => by simp [go_sem, nats_len, hi], fun {s} => ?_⟩
    rw [aload_ptr (show (H0 ++ [Blk.row ver (nats L) fz false])[H0.length]? = some (.row ver (nats L) fz false) by simp), part_one]
    simp [nats, hi]
theorem l20b {n p : Nat} {v5 v7 : AV} {L : List Nat} {H0 : Heap} {v : AV} (hn : n ≤ 9) (hL : ∀ a ∈ L, a < n) (hlen : L.length < 100) (hp1 : p + 1 < H0.length) (hb : bar ≤ p + 1) (hbase : base ≤ p + 1) {R : PQ} :
    ∀ (k i : Nat), i + k = L.length → ∀ (g : Nat → Bool) (H : Heap), Grow 1 (nats L) (H0.set (p + 1) (.row 0 (gc n g) 0 true)) v H →
    (∀ H', Grow 1 (nats L) (H0.set (p + 1) (.row 0 (gc n (goL g (L.drop i))) 0 true)) v H' → R (.exit 4) [(1, .ptr p 0 0), (5, v5), (6, .vec (p + 1) 0 0 n 1), (7, v7), (8, v), (10, .int .i64 (L.length : Nat)), (49, .bool false)] H') →
    Wp E base bar (.loop c20_l1) [(1, .ptr p 0 0), (5, v5), (6, .vec (p + 1) 0 0 n 1), (7, v7), (8, v), (10, .int .i64 (i : Nat))] H R := by
  intro k
  induction k with
  | zero =>
    intro i hi g H gr h
    obtain rfl : i = L.length := by omega
    rw [List.drop_length] at h
    have hl := fun (H' : Heap) (K : AV → Heap → List Nat → Prop) => Grow.vlen gr (H' := H') (K := K)
    rw [wp_round c20_l1.eq_1]
    simp [go_sem, hl]
    exact h H gr
  | succ k ih =>
    intro i hi g H gr h
    have hlt : i < L.length := by omega
    have hl := fun (H' : Heap) (K : AV → Heap → List Nat → Prop) => Grow.vlen gr (H' := H') (K := K)
    obtain ⟨pp, p1, p2⟩ := Grow.vix gr hlt
    rw [List.drop_eq_getElem_cons hlt] at h
    have ha := hL _ (List.getElem_mem hlt)
    have hgo : H[p + 1]? = some (.row 0 (gc n g) 0 true) := gr.get (by rw [List.getElem?_set_self hp1])
    have gr2 := gr.set (i := p + 1) (b := .row 0 (gc n (updB g L[i] true)) 0 true) (by simpa using hp1)
    rw [List.set_set] at gr2
    have hnext := ih (i + 1) (by omega) _ _ gr2 h
    generalize L[i] = a at *
    rw [wp_round c20_l1.eq_1]
    simp [go_sem, hl, hlt, p1, p2, ha, storeWp, astore, hgo, gc_len, gc_set, AV.isTup, AV.cells, hb, hbase, show a + 1 ≤ n from ha, i64_suc (show i < 1000000 by omega)]
    exact hnext
end Go.Proofs.Ytoipleipokpnaaa.Code
end
section
namespace Go.Proofs.Ytoipleipokpnaaa.Code
open Go Go.Ab
variable {pure : Bool} {base bar : Nat} {H : Heap} {Q : AV → Heap → Prop} {K : AV → Heap → List Nat → Prop}
/-- the heap of the reference's rounds -/
structure RH (n p : Nat) (q : AV) (g : Nat → Bool) (Hb : Heap) (us : List AV) (v : AV) (H : Heap) : Prop where
  base : Hb.length = p
  low : ∀ j, j < p → H[j]? = Hb[j]?
  tr : H[p]? = some (.row 0 [.int .i64 (n : Nat), q] 0 true)
  go : H[p + 1]? = some (.row 0 (gc n g) 0 true)
  own : Own (p + 2) 1 us v H
  len : p + 2 ≤ H.length
theorem filt_two {α : Type} {P : α → Bool} : ∀ {l : List α}, (l.filter fun x => !P x).length + (l.filter P).length = l.length
  | [] => rfl
  | a :: l => by
    have := filt_two (P := P) (l := l)
    rw [List.filter_cons, List.filter_cons]
    cases P a <;> simp <;> omega
theorem bits_two {left o : Nat} (hl : left < 512) (ho : ∀ x, o.testBit x = true → left.testBit x = true) : (bitsN (bcl left o)).length + (bitsN o).length = (bitsN left).length := by
  have e1 : bitsN (bcl left o) = (bitsN left).filter fun i => !o.testBit i := by
    unfold bitsN
    rw [List.filter_filter]
    congr 1; funext i
    rw [testBit_bcl hl, Bool.and_comm]
  have e2 : bitsN o = (bitsN left).filter o.testBit := by
    unfold bitsN
    rw [List.filter_filter]
    congr 1; funext i
    cases h : o.testBit i with
    | false => simp
    | true => rw [ho i h]; rfl
  rw [e1, e2]; exact filt_two
theorem l20c {n p : Nat} {q : AV} {l : List ZZ} {w : Nat → Nat} {D : Nat → Nat → Nat} {Hb : Heap} (hw : Wd n l w) (hq : isP q l) (hl : l.length < 1000) (hn : n ≤ 9) (hb : bar ≤ p) (hbase : base ≤ p) {R : PQ} :
    ∀ (t left : Nat) (g : Nat → Bool) (us : List AV) (ls : List (List Nat)) (v : AV) (H : Heap), RS n l D left → Lft n g left → (bitsN left).length ≤ t → RH n p q g Hb us v H → LL us ls → us.length + t < 100 →
    (∀ g' us' v' H', RH n p q g' Hb us' v' H' → LL us' (ls ++ (rdsM w t left).map bitsN) → R (.exit 0) [(1, .ptr p 0 0), (5, v'), (6, .vec (p + 1) 0 0 n 1), (7, .int .i64 0), (22, .bool false)] H') →
    Wp E base bar (.loop c20_l2) [(1, .ptr p 0 0), (5, v), (6, .vec (p + 1) 0 0 n 1), (7, .int .i64 ((bitsN left).length : Nat))] H R := by
  intro t
  induction t with
  | zero =>
    intro left g us ls v H hR hg ht hh hL hlen h
    have e0 : (bitsN left).length = 0 := by omega
    simp only [rdsM, List.map_nil, List.append_nil] at h
    rw [wp_round c20_l2.eq_1]
    simp [go_sem, e0]
    exact h g us v H hh hL
  | succ t ih =>
    intro left g us ls v H hR hg ht hh hL hlen h
    by_cases e0 : left = 0
    · subst e0
      simp only [rdsM, if_true, List.map_nil, List.append_nil] at h
      have e1 : (bitsN 0).length = 0 := by decide
      rw [wp_round c20_l2.eq_1]
      simp [go_sem, e1]
      exact h g us v H hh hL
    · have hpos : 0 < (bitsN left).length := by
        rcases Nat.eq_zero_or_pos (bitsN left).length with e | e
        · exact absurd (bits_none hR.lt e) e0
        · exact e
      have hpos' : (0 : Int) < ((bitsN left).length : Int) := by omega
      simp only [rdsM, if_neg e0, List.map_cons] at h
      have hf := hR.fuel hw e0
      have hoff := offB_left hn hw hR hg
      have hLn : ∀ a ∈ bitsN (offM w left), a < n := fun a ha => hR.inn a ((offM_bit hR.lt).1 ((mem_bitsN offM_lt).1 ha)).1
      have la := fun {R : PQ} {v7 : AV} hR' => l20a (R := R) (base := base) (bar := bar) (H0 := H) (v5 := v) (v7 := v7) (left := left) (w := w) hq hl hn hh.tr hh.go (by have := hh.len; omega) (by have := hh.len; omega) n 0 (by omega) .nils H (by simpa [nats] using Grow.nil) hR'
      rw [hoff] at la
      have hcnt : (bitsN (bcl left (offM w left))).length + (bitsN (offM w left)).length = (bitsN left).length := by
        exact bits_two hR.lt fun x hx => ((offM_bit hR.lt).1 hx).1
      have hg' : Lft n (goL g (bitsN (offM w left))) (bcl left (offM w left)) := fun x hx => by
        rw [testBit_bcl hR.lt, goL_get, hg x hx]
        have : (bitsN (offM w left)).contains x = (offM w left).testBit x := by
          rw [Bool.eq_iff_iff, List.contains_iff_mem, mem_bitsN offM_lt]
        rw [this]; simp
      rw [wp_round c20_l2.eq_1]
      simp [go_sem, hpos, hpos']
      refine la fun v8 H1 gr => ?_
      have hHl := hh.len
      have hset : H.set (p + 1) (.row 0 (gc n g) 0 true) = H := by
        apply List.ext_getElem?
        intro j
        rw [List.getElem?_set]
        by_cases e : p + 1 = j
        · subst e; rw [if_pos rfl, if_pos (by omega), hh.go]
        · rw [if_neg e]
      have gr0 : Grow 1 (nats (bitsN (offM w left))) (H.set (p + 1) (.row 0 (gc n g) 0 true)) v8 H1 := by rw [hset]; exact gr
      simp [go_sem]
      refine l20b hn hLn (by have := bitsN_len (s := offM w left); omega) (by omega) (by omega) (by omega) (bitsN (offM w left)).length 0 (by omega) g H1 gr0 fun H2 gr2 => ?_
      rw [List.drop_zero] at gr2
      obtain ⟨H3, f1, f2, f3, f4⟩ := gr2.frz (d := 5) (bar := bar) (by decide) (Nat.one_dvd _) nats_plain (by simp; omega)
      have hu : isL (outL 1 (nats (bitsN (offM w left)))) (bitsN (offM w left)) := isL.out
      have hlow3 : ∀ j, j < H.length → H3[j]? = (H.set (p + 1) (.row 0 (gc n (goL g (bitsN (offM w left)))) 0 true))[j]? := fun j hj => by
        rw [← f4, List.getElem?_take, if_pos (by simpa using hj)]
      have hlen3 : H.length ≤ H3.length := by
        have := gr2.len
        simp at this; omega
      have ho3 : Own (p + 2) 1 us v H3 := hh.own.mono fun j hj => by
        obtain ⟨j1, j2⟩ := hh.own.lt hj
        rw [hlow3 j j2, List.getElem?_set_ne (by omega)]
      have hvl := fun (H' : Heap) (K : AV → Heap → List Nat → Prop) => Grow.vlen gr2 (H' := H') (K := K)
      have hgo1 := Grow.one gr2
      have hbl := bitsN_len (s := left)
      have hw7 : IntKind.i64.wrap (((bitsN left).length : Int) - ((bitsN (offM w left)).length : Int)) = (((bitsN (bcl left (offM w left))).length : Nat) : Int) := by
        rw [Go.IntWalk.i64_in _ (by omega)]; omega
      have eu : [outL 1 (nats (bitsN (offM w left)))].flatMap AV.cells = [outL 1 (nats (bitsN (offM w left)))] := by simp [hu.cells]
      have hsn := hL.snoc hu
      have hnext := fun g' us' v' H' a b => ih (bcl left (offM w left)) g' us' (ls ++ [bitsN (offM w left)]) v' H' (hR.step hw) b (by omega) a
      generalize outL 1 (nats (bitsN (offM w left))) = u at *
      have hut := hu.isTup
      have huc := hu.cells
      have hun := hu.noVec
      simp [go_sem, aop, fillA, setCells, chunks, f1, hgo1.1, hut, huc, hun, AV.noVec.noVecs]
      refine Own.app (base := base) ho3 (by omega) (by omega) (Nat.one_dvd _) (fun c hc => by rw [eu, List.mem_singleton] at hc; subst hc; exact hu.plain) (by rw [eu]; simp [AV.noVec.noVecs, hun]) (Nat.one_dvd _) (by omega) (by omega) (by rw [eu]; simp; omega) fun v' H4 tc ho4 hk => ?_
      rw [eu] at ho4
      simp [go_sem, hvl, hw7]
      have hid : ∀ j, j < p + 2 → idOf v ≠ some j := fun j hj e => by
        have := (hh.own.lt e).1; omega
      have hs : ∀ j, j < p + 2 → H4[j]? = (H.set (p + 1) (.row 0 (gc n (goL g (bitsN (offM w left)))) 0 true))[j]? := fun j hj => by
        rw [hk.same j (by omega) (hid j hj), hlow3 j (by omega)]
      refine hnext _ (us ++ [u]) v' H4 ⟨hh.base, fun j hj => ?_, ?_, ?_, ho4, by have := hk.len; omega⟩ hg' hsn (by simp; omega) fun g'' us'' v'' H'' a b => h g'' us'' v'' H'' a (by simpa using b)
      · rw [hs j (by omega), List.getElem?_set_ne (by omega)]; exact hh.low j hj
      · rw [hs p (by omega), List.getElem?_set_ne (by omega)]; exact hh.tr
      · rw [hs (p + 1) (by omega), List.getElem?_set_self (by omega)]
end Go.Proofs.Ytoipleipokpnaaa.Code
end
section
namespace Go.Proofs.Ytoipleipokpnaaa.Code
open Go Go.Ab
variable {pure : Bool} {base bar : Nat} {H : Heap} {Q : AV → Heap → Prop} {K : AV → Heap → List Nat → Prop}
theorem k20 {n : Int} {q : AV} {l : List ZZ} {D : Nat → Nat → Nat} (hD : TrD n l D) (hq : isP q l) (hl : l.length < 1000) (hbar : bar ≤ H.length)
    (h1 : errT n l ≠ 0 → Q (.tup [.nils, .int .i64 (errT n l)]) H)
    (h2 : ∀ (m : Nat) w u, n = m → 1 ≤ m → m ≤ 9 → errT n l = 0 → Wd m l w → isLL u ((rdsW m w).map bitsN) → Q (.tup [u, .int .i64 0]) H) : WpCall E pure base bar 20 [.agg [.int .i64 n, q]] H Q := by
  rw [call20]
  have e0 : frzAll bar H [.agg [.int .i64 n, q]] = some ([.agg [.int .i64 n, q]], H) := by simp [frzAll, frz.frzs, frzsW, frz_agg, frz_int, hq.frz]
  rw [e0]
  have hb' : (if pure = true then H.length else bar) ≤ H.length := bar_if hbar
  simp [go_sem, WpFun, c20, hq.isTup, hq.cells, aload, AV.isTup, AV.cells]
  refine k28 hq hl (by simp; omega) ?_
  by_cases he : errT n l = 0
  · obtain ⟨m, rfl, p1, p2, hv, hE, hlen, hc⟩ := errT_ok he
    obtain ⟨t1, t2⟩ := hD he m rfl
    obtain ⟨w, hw⟩ := wd_ex p2 hE
    have hh := h2 m w
    have hz : List.flatten (List.replicate m [AV.bool false]) = gc m fun _ => false := by
      simp [gc, List.flatten_replicate_singleton, List.map_const']
    have hbd : m ≤ 140737488355328 := by omega
    have hR := RS.start p2 t1
    have hg : Lft m (fun _ => false) (pw m - 1) := fun x hx => by rw [pwm_bit]; simp [hx]
    have ebits : (bitsN (pw m - 1)).length = m := by
      rw [bitsN_range (n := m) p2 fun x hx => by rw [pwm_bit] at hx; simpa using hx]
      rw [List.filter_eq_self.2 fun x hx => by rw [pwm_bit]; simpa using hx]
      simp
    have lc := fun {R : PQ} {base bar : Nat} hb hbase hR' => l20c (R := R) (base := base) (bar := bar) (n := m) (p := H.length) (q := q) (Hb := H) hw hq hl p2 hb hbase 9 (pw m - 1) (fun _ => false) [] [] .nils (H ++ [.row 0 [.int .i64 (m : Nat), q] 0 true, .row 0 (gc m fun _ => false) 0 true]) hR hg bitsN_len ⟨rfl, fun j hj => by rw [List.getElem?_append_left hj], by simp, by simp, .nil, by simp⟩ trivial (by simp) hR'
    rw [ebits] at lc
    simp [go_sem, he, aload, Ab.part, aop, AV.asNat, hz, hbd]
    refine lc hb' (Nat.le_refl _) fun g' us v' H' hh' hL => ?_
    rw [List.nil_append] at hL
    obtain ⟨H2, f1, f2, f3, f4⟩ := hh'.own.frz (d := 5) (bar := if pure = true then H.length else bar) (by decide) (Nat.one_dvd _) hL.plain (by omega)
    have hu : isLL (outL 1 us) ((rdsW m w).map bitsN) := .outG hL
    have hk := hh _ rfl p1 p2 he hw hu
    have hlen := hh'.len
    have e3 : H2.take H.length = H := take_same (by omega) fun j hj => by
      rw [f4 j (fun e => by have := (hh'.own.lt e).1; omega)]
      exact hh'.low j hj
    simp [go_sem, f1, (hh'.own.slot).1, hu.top, tops_cons, tops_nil, e3, frz_int]
    exact hk
  · have hh := h1 he
    simp [go_sem, he]
    exact hh
theorem isL.ld {a : AV} {x : List Nat} (h : isL a x) : aload H ⟨false, 1⟩ (.fp a) = some a := by
  rcases h with ⟨rfl, rfl⟩ | ⟨ex, rfl⟩ <;> rfl
theorem l21 {u v : AV} {ls : List (List Nat)} (hu : isLL u ls) (hv : isLL v ls) (hl : ls.length < 1000) (hin : ∀ l ∈ ls, l.length < 1000) {R : PQ} :
    ∀ (k i : Nat), i + k = ls.length →
    R (.exit 0) [(0, u), (1, v), (5, .int .i64 (ls.length : Nat)), (14, .bool false)] H →
    Wp E base bar (.loop c21_l0) [(0, u), (1, v), (5, .int .i64 (i : Nat))] H R := by
  intro k
  have len1 := fun (H : Heap) (K : AV → Heap → List Nat → Prop) => hu.len (H := H) (K := K)
  induction k with
  | zero =>
    intro i hi h
    obtain rfl : i = ls.length := by omega
    rw [wp_round c21_l0.eq_1]
    simp [go_sem, len1]
    exact h
  | succ k ih =>
    intro i hi h
    have hlt : i < ls.length := by omega
    have hnext := ih (i + 1) (by omega) h
    obtain ⟨a, a1, a2⟩ := hu.ix hlt
    obtain ⟨b, b1, b2⟩ := hv.ix hlt
    have hi2 := hin _ (List.getElem_mem hlt)
    generalize ls[i] = x at *
    have la := fun (H : Heap) => isL.ld (H := H) a1
    have lb := fun (H : Heap) => isL.ld (H := H) b1
    rw [wp_round c21_l0.eq_1]
    simp [go_sem, len1, hlt, a2, b2, la, lb]
    refine k18 a1 b1 hi2 ?_
    simp [go_sem, i64_suc (show i < 1000000 by omega)]
    exact hnext
theorem k21 {u v : AV} {ls : List (List Nat)} (hu : isLL u ls) (hv : isLL v ls) (hl : ls.length < 1000) (hin : ∀ l ∈ ls, l.length < 1000) (h : Q (.bool true) H) : WpCall E pure base bar 21 [u, v] H Q := by
  rw [call21]
  have e0 : frzAll bar H [u, v] = some ([u, v], H) := by simp [frzAll, frz.frzs, frzsW, hu.frz, hv.frz]
  rw [e0]
  have len1 := fun (H : Heap) (K : AV → Heap → List Nat → Prop) => hu.len (H := H) (K := K)
  have len2 := fun (H : Heap) (K : AV → Heap → List Nat → Prop) => hv.len (H := H) (K := K)
  simp [go_sem, WpFun, c21, len1, len2]
  refine l21 hu hv hl hin ls.length 0 (by omega) ?_
  simp [go_sem]
  exact h
theorem way_same {n a b : Int} {q : AV} {l : List ZZ} (hq : isP q l) (hl : l.length < 1000) : ∃ L : List Nat, L.length < 1000 ∧
    (∀ (pure : Bool) (base bar : Nat) (H : Heap) (Q : AV → Heap → Prop), bar ≤ H.length → (∀ v, isL v L → Q (.tup [v, .int .i64 (wyE n l a b)]) H) → WpCall E pure base bar 12 [.agg [.int .i64 n, q], .int .i64 a, .int .i64 b] H Q) ∧
    (∀ (pure : Bool) (base bar : Nat) (H : Heap) (Q : AV → Heap → Prop), bar ≤ H.length → (∀ v, isL v L → Q (.tup [v, .int .i64 (wyE n l a b)]) H) → WpCall E pure base bar 13 [.agg [.int .i64 n, q], .int .i64 a, .int .i64 b] H Q) := by
  obtain ⟨D, hD⟩ := trD_ex (n := n) (l := l)
  by_cases he : wyE n l a b = 0
  · have het : errT n l = 0 := by
      apply Decidable.byContradiction
      intro e
      unfold wyE at he
      rw [if_pos e] at he
      exact e he
    obtain ⟨m, rfl, p1, p2, _⟩ := errT_ok het
    obtain ⟨t1, t2⟩ := hD het m rfl
    have hab : (0 ≤ a ∧ a ≤ (m : Int) - 1) ∧ 0 ≤ b ∧ b ≤ (m : Int) - 1 := by
      apply Classical.byContradiction
      intro e
      unfold wyE at he
      rw [if_neg (by simpa using het), if_neg e] at he
      cases he
    obtain ⟨fr, rfl⟩ := Int.eq_ofNat_of_zero_le hab.1.1
    obtain ⟨to, rfl⟩ := Int.eq_ofNat_of_zero_le hab.2.1
    have hbd := t2 to fr (by omega) (by omega)
    refine ⟨wayF m l D to (D to fr) fr, by rw [wayF_len]; omega, fun pure base bar H Q hb h => ?_, fun pure base bar H Q hb h => ?_⟩
    · refine k12 hD hq hl hb (fun h2 => absurd he h2) fun m' fr' to' u e1 e2 e3 _ _ _ _ _ hu => ?_
      obtain rfl : m = m' := by omega
      obtain rfl : fr = fr' := by omega
      obtain rfl : to = to' := by omega
      rw [he] at h
      exact h u hu
    · refine k13 hD hq hl hb (fun h2 => absurd he h2) fun m' fr' to' u e1 e2 e3 _ _ _ _ _ hu => ?_
      obtain rfl : m = m' := by omega
      obtain rfl : fr = fr' := by omega
      obtain rfl : to = to' := by omega
      rw [he] at h
      exact h u hu
  · refine ⟨[], by simp, fun pure base bar H Q hb h => ?_, fun pure base bar H Q hb h => ?_⟩
    · refine k12 hD hq hl hb (fun _ => h _ isL.nil) fun m' fr' to' u e1 e2 e3 c1 c2 _ _ h3 hu => absurd ?_ he
      unfold wyE; rw [if_neg (by simpa using h3), if_pos (by omega)]
    · refine k13 hD hq hl hb (fun _ => h _ isL.nil) fun m' fr' to' u e1 e2 e3 c1 c2 _ _ h3 hu => absurd ?_ he
      unfold wyE; rw [if_neg (by simpa using h3), if_pos (by omega)]
theorem reach_same {n : Int} {q : AV} {l : List ZZ} (hq : isP q l) (hl : l.length < 1000) : ∃ L : List Nat, L.length < 1000 ∧
    (∀ (pure : Bool) (base bar : Nat) (H : Heap) (Q : AV → Heap → Prop), bar ≤ H.length → (∀ v, isL v L → Q (.tup [v, .int .i64 (errT n l)]) H) → WpCall E pure base bar 14 [.agg [.int .i64 n, q]] H Q) ∧
    (∀ (pure : Bool) (base bar : Nat) (H : Heap) (Q : AV → Heap → Prop), bar ≤ H.length → (∀ v, isL v L → Q (.tup [v, .int .i64 (errT n l)]) H) → WpCall E pure base bar 15 [.agg [.int .i64 n, q]] H Q) := by
  obtain ⟨D, hD⟩ := trD_ex (n := n) (l := l)
  by_cases he : errT n l = 0
  · obtain ⟨m, rfl, p1, p2, _⟩ := errT_ok he
    refine ⟨rchL m D, by rw [rchL_len]; omega, fun pure base bar H Q hb h => ?_, fun pure base bar H Q hb h => ?_⟩
    · refine k14 hD hq hl hb (fun h2 => absurd he h2) fun m' u e1 _ _ _ hu => ?_
      obtain rfl : m = m' := by omega
      rw [he] at h
      exact h u hu
    · refine k15 hD hq hl hb (fun h2 => absurd he h2) fun m' u e1 _ _ _ hu => ?_
      obtain rfl : m = m' := by omega
      rw [he] at h
      exact h u hu
  · refine ⟨[], by simp, fun pure base bar H Q hb h => ?_, fun pure base bar H Q hb h => ?_⟩
    · exact k14 hD hq hl hb (fun _ => h _ isL.nil) fun m' u e1 _ _ h3 hu => absurd h3 he
    · exact k15 hD hq hl hb (fun _ => h _ isL.nil) fun m' u e1 _ _ h3 hu => absurd h3 he
theorem middle_same {n : Int} {q : AV} {l : List ZZ} (hq : isP q l) (hl : l.length < 1000) : ∃ L : List Nat, L.length < 1000 ∧
    (∀ (pure : Bool) (base bar : Nat) (H : Heap) (Q : AV → Heap → Prop), bar ≤ H.length → (∀ v, isL v L → Q (.tup [v, .int .i64 (errT n l)]) H) → WpCall E pure base bar 16 [.agg [.int .i64 n, q]] H Q) ∧
    (∀ (pure : Bool) (base bar : Nat) (H : Heap) (Q : AV → Heap → Prop), bar ≤ H.length → (∀ v, isL v L → Q (.tup [v, .int .i64 (errT n l)]) H) → WpCall E pure base bar 17 [.agg [.int .i64 n, q]] H Q) := by
  obtain ⟨D, hD⟩ := trD_ex (n := n) (l := l)
  by_cases he : errT n l = 0
  · obtain ⟨m, rfl, p1, p2, _⟩ := errT_ok he
    obtain ⟨t1, t2⟩ := hD he m rfl
    have hle : (midF m D m).length ≤ m := by
      have := List.length_filter_le (fun k => decide (rchF m D k = mnF m (rchF m D) m)) (List.range m)
      rw [List.length_range] at this; exact this
    refine ⟨midF m D m, by omega, fun pure base bar H Q hb h => ?_, fun pure base bar H Q hb h => ?_⟩
    · refine k16 hD hq hl hb (fun h2 => absurd he h2) fun m' w u e1 _ _ _ hw hu => ?_
      obtain rfl : m = m' := by omega
      rw [mid_same p2 p1 t1 hw t2] at hu
      rw [he] at h
      exact h u hu
    · refine k17 hD hq hl hb (fun h2 => absurd he h2) fun m' u e1 _ _ _ hu => ?_
      obtain rfl : m = m' := by omega
      rw [he] at h
      exact h u hu
  · refine ⟨[], by simp, fun pure base bar H Q hb h => ?_, fun pure base bar H Q hb h => ?_⟩
    · exact k16 hD hq hl hb (fun _ => h _ isL.nil) fun m' w u e1 _ _ h3 _ hu => absurd h3 he
    · exact k17 hD hq hl hb (fun _ => h _ isL.nil) fun m' u e1 _ _ h3 hu => absurd h3 he
theorem rounds_same {n : Int} {q : AV} {l : List ZZ} (hq : isP q l) (hl : l.length < 1000) : ∃ L : List (List Nat), L.length < 1000 ∧ (∀ x ∈ L, x.length < 1000) ∧
    (∀ (pure : Bool) (base bar : Nat) (H : Heap) (Q : AV → Heap → Prop), bar ≤ H.length → (∀ v, isLL v L → Q (.tup [v, .int .i64 (errT n l)]) H) → WpCall E pure base bar 19 [.agg [.int .i64 n, q]] H Q) ∧
    (∀ (pure : Bool) (base bar : Nat) (H : Heap) (Q : AV → Heap → Prop), bar ≤ H.length → (∀ v, isLL v L → Q (.tup [v, .int .i64 (errT n l)]) H) → WpCall E pure base bar 20 [.agg [.int .i64 n, q]] H Q) := by
  obtain ⟨D, hD⟩ := trD_ex (n := n) (l := l)
  by_cases he : errT n l = 0
  · obtain ⟨m, rfl, p1, p2, hv, hE, _⟩ := errT_ok he
    obtain ⟨w, hw⟩ := wd_ex p2 hE
    have hle : (rdsW m w).length ≤ 9 := rdsM_len
    refine ⟨(rdsW m w).map bitsN, by simp; omega, fun x hx => ?_, fun pure base bar H Q hb h => ?_, fun pure base bar H Q hb h => ?_⟩
    · obtain ⟨s, _, rfl⟩ := List.mem_map.1 hx
      have := bitsN_len (s := s); omega
    · refine k19 hD hq hl hb (fun h2 => absurd he h2) fun m' w' u e1 _ _ _ hw' hu => ?_
      obtain rfl : m = m' := by omega
      obtain rfl := wd_unique hw hw'
      rw [he] at h
      exact h u hu
    · refine k20 hD hq hl hb (fun h2 => absurd he h2) fun m' w' u e1 _ _ _ hw' hu => ?_
      obtain rfl : m = m' := by omega
      obtain rfl := wd_unique hw hw'
      rw [he] at h
      exact h u hu
  · refine ⟨[], by simp, by simp, fun pure base bar H Q hb h => ?_, fun pure base bar H Q hb h => ?_⟩
    · exact k19 hD hq hl hb (fun _ => h _ (.inl ⟨rfl, rfl⟩)) fun m' w u e1 _ _ h3 _ hu => absurd h3 he
    · exact k20 hD hq hl hb (fun _ => h _ (.inl ⟨rfl, rfl⟩)) fun m' w u e1 _ _ h3 _ hu => absurd h3 he
/-- law 3: BranchWays -/
theorem ways_true {n a1 a2 : Int} {q : AV} {l : List ZZ} (hq : isP q l) : ∃ f H', acall E f 3 [.agg [.int .i64 n, q], .int .i64 a1, .int .i64 a2] [] = some (.bool true, H') := by
  have key : WpCall E false 0 0 3 [.agg [.int .i64 n, q], .int .i64 a1, .int .i64 a2] [] (fun v _ => v = .bool true) := by
    rw [call3]
    have e0 : frzAll 0 [] [.agg [.int .i64 n, q], .int .i64 a1, .int .i64 a2] = some ([.agg [.int .i64 n, q], .int .i64 a1, .int .i64 a2], []) := by simp [frzAll, frz.frzs, frzsW, frz_agg, frz_int, hq.frz]
    rw [e0]
    by_cases h1 : 60 < l.length
    · simp [go_sem, WpFun, c3, hq.isTup, hq.cells, aload, AV.isTup, AV.cells, k10 hq, h1, call11]
    · obtain ⟨L1, m1, x1, y1⟩ := way_same (n := n) (a := a1) (b := a2) hq (by omega)
      obtain ⟨L2, m2, x2, y2⟩ := reach_same (n := n) hq (by omega)
      obtain ⟨L3, m3, x3, y3⟩ := middle_same (n := n) hq (by omega)
      obtain ⟨L4, m4, m5, x4, y4⟩ := rounds_same (n := n) hq (by omega)
      simp [go_sem, WpFun, c3, hq.isTup, hq.cells, aload, AV.isTup, AV.cells, k10 hq, h1, storeWp, astore]
      refine x1 _ _ _ _ _ (by simp) fun u1 hu1 => ?_
      simp [go_sem, aload]
      refine y1 _ _ _ _ _ (by simp) fun v1 hv1 => ?_
      simp [go_sem, aload]
      refine x2 _ _ _ _ _ (by simp) fun u2 hu2 => ?_
      simp [go_sem, aload]
      refine y2 _ _ _ _ _ (by simp) fun v2 hv2 => ?_
      simp [go_sem, aload]
      refine x3 _ _ _ _ _ (by simp) fun u3 hu3 => ?_
      simp [go_sem, aload]
      refine y3 _ _ _ _ _ (by simp) fun v3 hv3 => ?_
      simp [go_sem]
      refine k18 hu1 hv1 m1 ?_
      simp [go_sem]
      refine k18 hu2 hv2 m2 ?_
      simp [go_sem]
      refine k18 hu3 hv3 m3 ?_
      simp [go_sem, aload]
      refine x4 _ _ _ _ _ (by simp) fun u4 hu4 => ?_
      simp [go_sem, aload]
      refine y4 _ _ _ _ _ (by simp) fun v4 hv4 => ?_
      simp [go_sem]
      refine k21 hu4 hv4 m4 m5 ?_
      simp [go_sem, call11]
  obtain ⟨f, v, H', h1, rfl⟩ := key
  exact ⟨f, H', h1⟩
end Go.Proofs.Ytoipleipokpnaaa.Code
end
