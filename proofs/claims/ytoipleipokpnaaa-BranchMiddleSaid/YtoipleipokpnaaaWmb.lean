/-
  Parts of the proofs about this chapter, joined: contracts of functions and plain laws.
-/
import Derived.Test.YtoipleipokpnaaaWma
import Derived.KernelRfl
set_option linter.all false
section
namespace Go.Proofs.Ytoipleipokpnaaa.Code
/-! distances in a tree -/
structure TM (V : Nat → Prop) (f : Nat → Nat → Bool) (D : Nat → Nat → Nat) : Prop where
  symF : ∀ {a b}, f a b = true → f b a = true
  inV : ∀ {a b}, f a b = true → V a ∧ V b ∧ a ≠ b
  zero : ∀ {x}, V x → D x x = 0
  eq : ∀ {x y}, V x → V y → D x y = 0 → x = y
  sym : ∀ {x y}, V x → V y → D x y = D y x
  step : ∀ {x a b}, V x → f a b = true → D x b = D x a + 1 ∨ D x a = D x b + 1
  par : ∀ {x y}, V x → V y → x ≠ y → ∃ b, f y b = true ∧ D x b + 1 = D x y ∧ ∀ c, f y c = true → D x c + 1 = D x y → c = b
theorem TM.single {V : Nat → Prop} {v : Nat} {f : Nat → Nat → Bool} (hV : ∀ x, V x ↔ x = v) (hf : ∀ a b, f a b = false) : TM V f (fun _ _ => 0) where
  symF := fun h => by rw [hf] at h; cases h
  inV := fun h => by rw [hf] at h; cases h
  zero := fun _ => rfl
  eq := fun hx hy _ => by rw [(hV _).1 hx, (hV _).1 hy]
  sym := fun _ _ => rfl
  step := fun _ h => by rw [hf] at h; cases h
  par := fun hx hy hne => absurd (by rw [(hV _).1 hx, (hV _).1 hy]) hne
/-- a leaf more -/
def dLeaf (D : Nat → Nat → Nat) (k to x y : Nat) : Nat := if x = k then (if y = k then 0 else D to y + 1) else if y = k then D x to + 1 else D x y
theorem dLeaf_kk {D : Nat → Nat → Nat} {k to : Nat} : dLeaf D k to k k = 0 := by simp [dLeaf]
theorem dLeaf_ky {D : Nat → Nat → Nat} {k to y : Nat} (h : y ≠ k) : dLeaf D k to k y = D to y + 1 := by simp [dLeaf, h]
theorem dLeaf_xk {D : Nat → Nat → Nat} {k to x : Nat} (h : x ≠ k) : dLeaf D k to x k = D x to + 1 := by simp [dLeaf, h]
theorem dLeaf_xy {D : Nat → Nat → Nat} {k to x y : Nat} (h : x ≠ k) (h' : y ≠ k) : dLeaf D k to x y = D x y := by simp [dLeaf, h, h']
theorem TM.leaf {V V' : Nat → Prop} {k to : Nat} {f f' : Nat → Nat → Bool} {D : Nat → Nat → Nat} (h : TM V f D) (hto : V to) (hk : ¬ V k) (hV : ∀ x, V' x ↔ V x ∨ x = k)
    (hf : ∀ a b, f' a b = true ↔ f a b = true ∨ (a = k ∧ b = to) ∨ (a = to ∧ b = k)) : TM V' f' (dLeaf D k to) := by
  have htk : to ≠ k := fun e => hk (e ▸ hto)
  have hne : ∀ {x}, V x → x ≠ k := fun hx e => hk (e ▸ hx)
  refine ⟨fun {a b} h1 => ?_, fun {a b} h1 => ?_, fun {x} hx => ?_, fun {x y} hx hy e => ?_, fun {x y} hx hy => ?_, fun {x a b} hx h1 => ?_, fun {x y} hx hy hxy => ?_⟩
  · rw [hf] at h1 ⊢
    rcases h1 with h1 | ⟨h1, h2⟩ | ⟨h1, h2⟩
    · exact .inl (h.symF h1)
    · exact .inr (.inr ⟨h2, h1⟩)
    · exact .inr (.inl ⟨h2, h1⟩)
  · rw [hf] at h1
    rw [hV, hV]
    rcases h1 with h1 | ⟨h1, h2⟩ | ⟨h1, h2⟩
    · obtain ⟨p, q, r⟩ := h.inV h1; exact ⟨.inl p, .inl q, r⟩
    · subst h1; subst h2; exact ⟨.inr rfl, .inl hto, fun e => htk e.symm⟩
    · subst h1; subst h2; exact ⟨.inl hto, .inr rfl, htk⟩
  · rcases (hV _).1 hx with hx | rfl
    · rw [dLeaf_xy (hne hx) (hne hx)]; exact h.zero hx
    · exact dLeaf_kk
  · rcases (hV _).1 hx with hx | rfl <;> rcases (hV _).1 hy with hy | rfl
    · rw [dLeaf_xy (hne hx) (hne hy)] at e; exact h.eq hx hy e
    · rw [dLeaf_xk (hne hx)] at e; omega
    · rw [dLeaf_ky (hne hy)] at e; omega
    · rfl
  · rcases (hV _).1 hx with hx | rfl <;> rcases (hV _).1 hy with hy | rfl
    · rw [dLeaf_xy (hne hx) (hne hy), dLeaf_xy (hne hy) (hne hx)]; exact h.sym hx hy
    · rw [dLeaf_xk (hne hx), dLeaf_ky (hne hx), h.sym hx hto]
    · rw [dLeaf_ky (hne hy), dLeaf_xk (hne hy), h.sym hto hy]
    · rfl
  · rw [hf] at h1
    rcases (hV _).1 hx with hx | rfl
    · rcases h1 with h1 | ⟨rfl, rfl⟩ | ⟨rfl, rfl⟩
      · obtain ⟨p, q, r⟩ := h.inV h1
        rw [dLeaf_xy (hne hx) (hne p), dLeaf_xy (hne hx) (hne q)]; exact h.step hx h1
      · rw [dLeaf_xy (hne hx) htk, dLeaf_xk (hne hx)]; exact .inr rfl
      · rw [dLeaf_xy (hne hx) htk, dLeaf_xk (hne hx)]; exact .inl rfl
    · rcases h1 with h1 | ⟨rfl, rfl⟩ | ⟨rfl, rfl⟩
      · obtain ⟨p, q, r⟩ := h.inV h1
        rw [dLeaf_ky (hne p), dLeaf_ky (hne q)]
        have := h.step hto h1
        omega
      · rw [dLeaf_kk, dLeaf_ky htk, h.zero hto]; exact .inl rfl
      · rw [dLeaf_kk, dLeaf_ky htk, h.zero hto]; exact .inr rfl
  · rcases (hV _).1 hx with hx | rfl <;> rcases (hV _).1 hy with hy | rfl
    · obtain ⟨b, b1, b2, b3⟩ := h.par hx hy hxy
      have hb := (h.inV b1).2.1
      refine ⟨b, (hf _ _).2 (.inl b1), ?_, fun c c1 c2 => ?_⟩
      · rw [dLeaf_xy (hne hx) (hne hb), dLeaf_xy (hne hx) (hne hy)]; exact b2
      · rw [hf] at c1
        rcases c1 with c1 | ⟨c1, _⟩ | ⟨rfl, rfl⟩
        · rw [dLeaf_xy (hne hx) (hne (h.inV c1).2.1), dLeaf_xy (hne hx) (hne hy)] at c2
          exact b3 c c1 c2
        · exact absurd c1 (hne hy)
        · rw [dLeaf_xk (hne hx), dLeaf_xy (hne hx) htk] at c2; omega
    · refine ⟨to, (hf _ _).2 (.inr (.inl ⟨rfl, rfl⟩)), ?_, fun c c1 c2 => ?_⟩
      · rw [dLeaf_xy (hne hx) htk, dLeaf_xk (hne hx)]
      · rw [hf] at c1
        rcases c1 with c1 | ⟨_, c1⟩ | ⟨c1, _⟩
        · exact absurd (h.inV c1).1 hk
        · exact c1
        · exact absurd c1.symm htk
    · by_cases hyt : y = to
      · subst hyt
        refine ⟨x, (hf _ _).2 (.inr (.inr ⟨rfl, rfl⟩)), ?_, fun c c1 c2 => ?_⟩
        · rw [dLeaf_kk, dLeaf_ky htk, h.zero hto]
        · rw [dLeaf_ky htk, h.zero hto] at c2
          apply Decidable.byContradiction
          intro e
          rw [dLeaf_ky e] at c2; omega
      · obtain ⟨b, b1, b2, b3⟩ := h.par hto hy (fun e => hyt e.symm)
        have hb := (h.inV b1).2.1
        refine ⟨b, (hf _ _).2 (.inl b1), ?_, fun c c1 c2 => ?_⟩
        · rw [dLeaf_ky (hne hb), dLeaf_ky (hne hy)]; omega
        · rw [hf] at c1
          rcases c1 with c1 | ⟨c1, _⟩ | ⟨c1, _⟩
          · rw [dLeaf_ky (hne (h.inV c1).2.1), dLeaf_ky (hne hy)] at c2
            exact b3 c c1 (by omega)
          · exact absurd c1 (hne hy)
          · exact absurd c1 hyt
    · exact absurd rfl hxy
theorem TM.tri {V : Nat → Prop} {f : Nat → Nat → Bool} {D : Nat → Nat → Nat} (h : TM V f D) {x y : Nat} (hx : V x) (hy : V y) : ∀ (m : Nat) {z : Nat}, V z → D y z = m → D x z ≤ D x y + m
  | 0, z, hz, e => by rw [h.eq hy hz e]; omega
  | m + 1, z, hz, e => by
    have hne : y ≠ z := fun e' => by subst e'; rw [h.zero hy] at e; omega
    obtain ⟨b, b1, b2, _⟩ := h.par hy hz hne
    have := TM.tri h hx hy m (h.inV b1).2.1 (by omega)
    have := h.step hx b1
    omega
theorem TM.adj {V : Nat → Prop} {f : Nat → Nat → Bool} {D : Nat → Nat → Nat} (h : TM V f D) {x y : Nat} (hxy : f x y = true) : D x y = 1 := by
  obtain ⟨p, q, r⟩ := h.inV hxy
  have := h.step p hxy
  rw [h.zero p] at this; omega
theorem TM.adj' {V : Nat → Prop} {f : Nat → Nat → Bool} {D : Nat → Nat → Nat} (h : TM V f D) {x y : Nat} (hx : V x) (hy : V y) (e : D x y = 1) : f x y = true := by
  have hne : x ≠ y := fun e' => by subst e'; rw [h.zero hx] at e; omega
  obtain ⟨b, b1, b2, _⟩ := h.par hx hy hne
  have := h.eq hx (h.inV b1).2.1 (by omega)
  subst this
  exact h.symF b1
end Go.Proofs.Ytoipleipokpnaaa.Code
end
section
namespace Go.Proofs.Ytoipleipokpnaaa.Code
open Go Go.Ab
theorem Sm_pos {F : Nat → Nat} : ∀ {n : Nat}, 0 < Sm n F → ∃ x, x < n ∧ F x ≠ 0
  | 0, h => by simp [Sm] at h
  | n + 1, h => by
    simp only [Sm] at h
    by_cases e : F n = 0
    · obtain ⟨x, h1, h2⟩ := Sm_pos (F := F) (n := n) (by omega)
      exact ⟨x, by omega, h2⟩
    · exact ⟨n, by omega, e⟩
theorem Sm_none {F : Nat → Nat} {n : Nat} (h : Sm n F = 0) : ∀ x, x < n → F x = 0 := by
  induction n with
  | zero => intro x hx; omega
  | succ n ih =>
    simp only [Sm] at h
    intro x hx
    by_cases e : x = n
    · subst e; omega
    · exact ih (by omega) x (by omega)
theorem Inv.tm {n : Nat} {l : List ZZ} (hn : n ≤ 9) : ∀ (left : Nat) {w : Nat → Nat} {g : Nat → Bool}, Inv n l w g (left + 1) →
    ∃ D, TM (fun x => x < n ∧ g x = false) (fun a b => (w a).testBit b) D ∧ ∀ x y, x < n → g x = false → y < n → g y = false → D x y ≤ left
  | 0, w, g, h => by
    have hs := h.sum
    have hz := Sm_none (n := n) (F := fun x => (bitsN (w x)).length) (by omega)
    have hno : ∀ x b, x < n → (w x).testBit b = false := fun x b hx => by
      cases e : (w x).testBit b with
      | false => rfl
      | true =>
        have h1 := (mem_bitsN (h.lt x)).2 e
        have h2 := hz x hx
        rw [List.length_eq_zero_iff] at h2
        rw [h2] at h1; cases h1
    have hno' : ∀ x b, (w x).testBit b = false := fun x b => by
      cases e : (w x).testBit b with
      | false => rfl
      | true =>
        have e' := e
        rw [h.bit] at e'
        simp only [Bool.and_eq_true] at e'
        rw [hno x b (h.inn _ _ e'.1.1).1] at e; cases e
    have hc := h.cnt
    obtain ⟨v, v1, v2⟩ := Sm_pos (n := n) (F := fun x => if g x then 0 else 1) (by unfold lftN at hc; omega)
    have gv : g v = false := by
      cases e : g v with
      | false => rfl
      | true => simp [e] at v2
    refine ⟨_, TM.single (v := v) (fun x => ⟨fun ⟨x1, x2⟩ => ?_, fun e => by subst e; exact ⟨v1, gv⟩⟩) hno', fun x y _ _ _ _ => Nat.le_refl 0⟩
    have := h.conn v x v1 x1 gv x2
    cases this with
    | refl => rfl
    | step a b => have b' : (w _).testBit x = true := b
                  rw [hno'] at b'; cases b'
  | left + 1, w, g, h => by
    obtain ⟨k, to, hk, hto, hne, gk, _, hb, hI, _⟩ := h.next hn
    obtain ⟨D, hD, hle⟩ := Inv.tm hn left hI
    have hkt : ∀ y, (w k).testBit y = true ↔ y = to := fun y => by rw [← mem_bitsN (h.lt k), hb, List.mem_singleton]
    have gto : g to = false := by
      have := (hkt to).2 rfl
      rw [h.bit] at this
      simp only [Bool.and_eq_true, Bool.not_eq_true'] at this
      exact this.2
    have g' : ∀ x, updB g k true x = false ↔ g x = false ∧ x ≠ k := fun x => by
      unfold updB
      split
      · rename_i e; subst e; simp
      · rename_i e; simp [e]
    refine ⟨dLeaf D k to, TM.leaf hD ⟨hto, (g' _).2 ⟨gto, hne⟩⟩ (fun e => ((g' _).1 e.2).2 rfl) (fun x => ?_) (fun a b => ?_), fun x y x1 x2 y1 y2 => ?_⟩
    · simp only [g']
      constructor
      · rintro ⟨x1, x2⟩
        by_cases e : x = k
        · exact .inr e
        · exact .inl ⟨x1, x2, e⟩
      · rintro (⟨x1, x2, x3⟩ | rfl)
        · exact ⟨x1, x2⟩
        · exact ⟨hk, gk⟩
    · rw [h.bit, hI.bit]
      have ht : tieB l k to = true ∧ g to = false := by
        have := (hkt to).2 rfl
        rw [h.bit] at this
        simp only [Bool.and_eq_true, Bool.not_eq_true'] at this
        exact ⟨this.1.1, this.2⟩
      have hka : ∀ y, (tieB l k y && !g k && !g y) = true ↔ y = to := fun y => by rw [← h.bit]; exact hkt y
      by_cases ea : a = k
      · subst ea
        rw [hka]
        simp [updB, show ¬ a = to from fun e => hne e.symm]
      · by_cases eb : b = k
        · subst eb
          rw [tieB_symm, show (tieB l b a && !g a && !g b) = (tieB l b a && !g b && !g a) from by cases tieB l b a <;> cases g a <;> cases g b <;> rfl, hka]
          simp [updB, ea]
        · simp [updB, ea, eb]
    · by_cases ex : x = k
      · by_cases ey : y = k
        · subst ex; subst ey; rw [dLeaf_kk]; omega
        · subst ex; rw [dLeaf_ky ey]
          have := hle to y hto ((g' _).2 ⟨gto, hne⟩) y1 ((g' _).2 ⟨y2, ey⟩); omega
      · by_cases ey : y = k
        · subst ey; rw [dLeaf_xk ex]
          have := hle x to x1 ((g' _).2 ⟨x2, ex⟩) hto ((g' _).2 ⟨gto, hne⟩); omega
        · rw [dLeaf_xy ex ey]
          have := hle x y x1 ((g' _).2 ⟨x2, ex⟩) y1 ((g' _).2 ⟨y2, ey⟩); omega
theorem TM.congr {V V' : Nat → Prop} {f f' : Nat → Nat → Bool} {D : Nat → Nat → Nat} (h : TM V f D) (hV : ∀ x, V x ↔ V' x) (hf : ∀ a b, f a b = f' a b) : TM V' f' D := by
  obtain rfl : V = V' := funext fun x => propext (hV x)
  obtain rfl : f = f' := funext fun a => funext fun b => hf a b
  exact h
/-- a tree that was checked has distances -/
theorem tree_tm {n : Nat} {l : List ZZ} {w : Nat → Nat} (hn : n ≤ 9) (h1 : 1 ≤ n) (hw : Wd n l w) (he : errL n [] l = 0) (hl : l.length < n) (hc : Conn n l) :
    ∃ D, TM (fun x => x < n) (tieB l) D ∧ ∀ x y, x < n → y < n → D x y < n := by
  obtain ⟨n, rfl⟩ : ∃ m, n = m + 1 := ⟨n - 1, by omega⟩
  obtain ⟨D, d1, d2⟩ := (inv_start hn hw he hl hc).tm hn
  exact ⟨D, d1.congr (fun x => by simp) (fun a b => hw.bit a b), fun x y hx hy => by have := d2 x y hx rfl hy rfl; omega⟩
end Go.Proofs.Ytoipleipokpnaaa.Code
end
section
namespace Go.Proofs.Ytoipleipokpnaaa.Code
/-! leaves are taken off round by round: what is left last is the middle -/
def mx : Nat → (Nat → Nat) → Nat
  | 0, _ => 0
  | n + 1, F => max (mx n F) (F n)
theorem le_mx {F : Nat → Nat} {x : Nat} : ∀ {n : Nat}, x < n → F x ≤ mx n F
  | 0, h => by omega
  | n + 1, h => by
    simp only [mx]
    by_cases e : x = n
    · subst e; omega
    · have := le_mx (F := F) (x := x) (n := n) (by omega); omega
theorem mx_le {F : Nat → Nat} {m : Nat} : ∀ {n : Nat}, (∀ x, x < n → F x ≤ m) → mx n F ≤ m
  | 0, _ => Nat.zero_le _
  | n + 1, h => by
    simp only [mx]
    have := mx_le (F := F) (m := m) (n := n) fun x hx => h x (by omega)
    have := h n (by omega)
    omega
theorem mx_get {F : Nat → Nat} : ∀ {n : Nat}, mx n F = 0 ∨ ∃ x, x < n ∧ F x = mx n F
  | 0 => .inl rfl
  | n + 1 => by
    simp only [mx]
    rcases Nat.le_total (mx n F) (F n) with h | h
    · rw [Nat.max_eq_right h]; exact .inr ⟨n, by omega, rfl⟩
    · rw [Nat.max_eq_left h]
      rcases mx_get (F := F) (n := n) with e | ⟨x, h1, h2⟩
      · exact .inl e
      · exact .inr ⟨x, by omega, h2⟩
def ecc (n : Nat) (S : Nat → Bool) (D : Nat → Nat → Nat) (x : Nat) : Nat := mx n fun y => if S y then D x y else 0
def rs (f : Nat → Nat → Bool) (S : Nat → Bool) (a b : Nat) : Bool := f a b && S a && S b
theorem rs_iff {f : Nat → Nat → Bool} {S : Nat → Bool} {a b : Nat} : rs f S a b = true ↔ f a b = true ∧ S a = true ∧ S b = true := by
  simp [rs, and_assoc]
abbrev TS (f : Nat → Nat → Bool) (S : Nat → Bool) (D : Nat → Nat → Nat) : Prop := TM (fun x => S x = true) (rs f S) D
def LfS (f : Nat → Nat → Bool) (S : Nat → Bool) (x : Nat) : Prop := ∀ a b, rs f S x a = true → rs f S x b = true → a = b
def Off (f : Nat → Nat → Bool) (S S' : Nat → Bool) : Prop := ∀ x, S' x = true ↔ S x = true ∧ ¬ LfS f S x
section
variable {n : Nat} {f : Nat → Nat → Bool} {S S' : Nat → Bool} {D : Nat → Nat → Nat}
theorem ecc_le (hS : ∀ x, S x = true → x < n) {x y : Nat} (hy : S y = true) : D x y ≤ ecc n S D x := by
  have := le_mx (F := fun y => if S y then D x y else 0) (hS y hy)
  simp only [hy, if_true] at this
  exact this
theorem ecc_get (h : TS f S D) {x : Nat} (hx : S x = true) : ∃ y, S y = true ∧ D x y = ecc n S D x := by
  rcases mx_get (n := n) (F := fun y => if S y then D x y else 0) with e | ⟨y, _, e⟩
  · exact ⟨x, hx, by rw [h.zero hx]; exact e.symm⟩
  · by_cases hy : S y = true
    · simp only [hy, if_true] at e
      exact ⟨y, hy, e⟩
    · simp only [hy] at e
      exact ⟨x, hx, by rw [h.zero hx]; exact e⟩
/-- a knot between two is no leaf -/
theorem TS.mid (h : TS f S D) {x y b : Nat} (hx : S x = true) (hb : rs f S y b = true) (hd : D x b + 1 = D x y) (hne : b ≠ x) : ¬ LfS f S b := fun hl => by
  have hbS := (rs_iff.1 hb).2.2
  obtain ⟨c, c1, c2, _⟩ := h.par hx hbS (fun e => hne e.symm)
  have := hl c y c1 (h.symF hb)
  subst this
  omega
theorem TS.nonleaf (h : TS f S D) {x : Nat} (hx : S x = true) (hn : ¬ LfS f S x) : ∃ a b, a ≠ b ∧ rs f S x a = true ∧ rs f S x b = true := by
  apply Classical.byContradiction
  intro hc
  exact hn fun a b ha hb => Classical.byContradiction fun e => hc ⟨a, b, e, ha, hb⟩
/-- from a knot that is no leaf a way goes on -/
theorem TS.on (h : TS f S D) {x y : Nat} (hx : S x = true) (hy : S y = true) (hn : ¬ LfS f S y) : ∃ z, rs f S y z = true ∧ D x z = D x y + 1 := by
  obtain ⟨a, b, hab, ha, hb⟩ := h.nonleaf hy hn
  rcases h.step hx ha with e | e
  · exact ⟨a, ha, e⟩
  · rcases h.step hx hb with e2 | e2
    · exact ⟨b, hb, e2⟩
    · by_cases hxy : x = y
      · subst hxy; rw [h.zero hx] at e; omega
      · obtain ⟨p, _, _, p3⟩ := h.par hx hy hxy
        exact absurd ((p3 a ha e.symm).trans (p3 b hb e2.symm).symm) hab
theorem TS.round (h : TS f S D) (ho : Off f S S') : TS f S' D := by
  refine ⟨fun {a b} h1 => ?_, fun {a b} h1 => ?_, fun {x} hx => h.zero ((ho x).1 hx).1, fun {x y} hx hy e => h.eq ((ho x).1 hx).1 ((ho y).1 hy).1 e, fun {x y} hx hy => h.sym ((ho x).1 hx).1 ((ho y).1 hy).1, fun {x a b} hx h1 => ?_, fun {x y} hx hy hxy => ?_⟩
  · obtain ⟨h1, h2, h3⟩ := rs_iff.1 h1
    have := h.symF (rs_iff.2 ⟨h1, ((ho _).1 h2).1, ((ho _).1 h3).1⟩)
    exact rs_iff.2 ⟨(rs_iff.1 this).1, h3, h2⟩
  · obtain ⟨h1, h2, h3⟩ := rs_iff.1 h1
    have := h.inV (rs_iff.2 ⟨h1, ((ho _).1 h2).1, ((ho _).1 h3).1⟩)
    exact ⟨h2, h3, this.2.2⟩
  · obtain ⟨h1, h2, h3⟩ := rs_iff.1 h1
    exact h.step ((ho _).1 hx).1 (rs_iff.2 ⟨h1, ((ho _).1 h2).1, ((ho _).1 h3).1⟩)
  · obtain ⟨b, b1, b2, b3⟩ := h.par ((ho _).1 hx).1 ((ho _).1 hy).1 hxy
    obtain ⟨q1, q2, q3⟩ := rs_iff.1 b1
    refine ⟨b, rs_iff.2 ⟨q1, hy, ?_⟩, b2, fun c c1 c2 => ?_⟩
    · by_cases e : b = x
      · subst e; exact hx
      · exact (ho _).2 ⟨q3, h.mid ((ho _).1 hx).1 b1 b2 e⟩
    · obtain ⟨r1, r2, r3⟩ := rs_iff.1 c1
      exact b3 c (rs_iff.2 ⟨r1, ((ho _).1 r2).1, ((ho _).1 r3).1⟩) c2
theorem TS.ecc_suc (h : TS f S D) (hS : ∀ x, S x = true → x < n) (ho : Off f S S') {x : Nat} (hx : S' x = true) : ecc n S D x = ecc n S' D x + 1 := by
  have hS' : ∀ x, S' x = true → x < n := fun x hx => hS x ((ho x).1 hx).1
  obtain ⟨x1, x2⟩ := (ho x).1 hx
  apply Nat.le_antisymm
  · obtain ⟨z, z1, z2⟩ := ecc_get (n := n) h x1
    by_cases e : x = z
    · subst e; rw [h.zero x1] at z2; omega
    · obtain ⟨b, b1, b2, _⟩ := h.par x1 z1 e
      have hb : S' b = true := by
        by_cases e : b = x
        · subst e; exact hx
        · exact (ho _).2 ⟨(rs_iff.1 b1).2.2, h.mid x1 b1 b2 e⟩
      have := ecc_le (n := n) (D := D) hS' (x := x) hb
      omega
  · obtain ⟨y, y1, y2⟩ := ecc_get (n := n) (h.round ho) hx
    obtain ⟨z, z1, z2⟩ := h.on x1 ((ho y).1 y1).1 ((ho y).1 y1).2
    have := ecc_le (n := n) (D := D) hS (x := x) (rs_iff.1 z1).2.2
    omega
/-- a leaf's way begins with its only tie -/
theorem TS.leafD (h : TS f S D) {x b : Nat} (hl : LfS f S x) (hb : rs f S x b = true) {y : Nat} (hy : S y = true) (hne : y ≠ x) : D x y = D b y + 1 := by
  have hx := (rs_iff.1 hb).2.1
  have hbS := (rs_iff.1 hb).2.2
  obtain ⟨c, c1, c2, _⟩ := h.par hy hx hne
  have := hl c b c1 hb
  subst this
  rw [h.sym hx hy, h.sym hbS hy]; omega
theorem TS.leaf_far (h : TS f S D) (hS : ∀ x, S x = true → x < n) (ho : Off f S S') {v x : Nat} (hv : S' v = true) (hx : S x = true) (hl : LfS f S x) : ∃ b, S b = true ∧ ecc n S D b < ecc n S D x := by
  obtain ⟨v1, v2⟩ := (ho v).1 hv
  have hvx : v ≠ x := fun e => v2 (e ▸ hl)
  obtain ⟨b, b1, b2, _⟩ := h.par v1 hx hvx
  have hb := (rs_iff.1 b1).2.2
  refine ⟨b, hb, ?_⟩
  obtain ⟨y, y1, y2⟩ := ecc_get (n := n) h hb
  by_cases e : y = x
  · subst e
    have e1 : D b y = 1 := by rw [h.sym hb hx]; exact h.adj b1
    by_cases e2 : v = b
    · subst e2
      obtain ⟨p, q, hpq, hp, hq⟩ := h.nonleaf v1 v2
      have : ∃ z, z ≠ y ∧ rs f S v z = true := by
        by_cases e3 : p = y
        · exact ⟨q, fun e => hpq (e3.trans e.symm), hq⟩
        · exact ⟨p, e3, hp⟩
      obtain ⟨z, z1, z2⟩ := this
      have hz := (rs_iff.1 z2).2.2
      have e4 := h.leafD hl b1 hz z1
      have := ecc_le (n := n) (D := D) hS (x := y) hz
      rw [h.adj z2] at e4
      omega
    · have e4 := h.leafD hl b1 v1 hvx
      have : D b v ≠ 0 := fun e => e2 (h.eq hb v1 e).symm
      have := ecc_le (n := n) (D := D) hS (x := y) v1
      omega
  · have e4 := h.leafD hl b1 y1 e
    have := ecc_le (n := n) (D := D) hS (x := x) y1
    omega
def IsCen (n : Nat) (S : Nat → Bool) (D : Nat → Nat → Nat) (x : Nat) : Prop := S x = true ∧ ∀ y, S y = true → ecc n S D x ≤ ecc n S D y
theorem TS.cen_round (h : TS f S D) (hS : ∀ x, S x = true → x < n) (ho : Off f S S') {v : Nat} (hv : S' v = true) {x : Nat} : IsCen n S D x ↔ IsCen n S' D x := by
  constructor
  · rintro ⟨x1, x2⟩
    have hx' : S' x = true := by
      refine (ho x).2 ⟨x1, fun hl => ?_⟩
      obtain ⟨b, b1, b2⟩ := h.leaf_far hS ho hv x1 hl
      have := x2 b b1; omega
    refine ⟨hx', fun y hy => ?_⟩
    have := x2 y ((ho y).1 hy).1
    rw [h.ecc_suc hS ho hx', h.ecc_suc hS ho hy] at this
    omega
  · rintro ⟨x1, x2⟩
    refine ⟨((ho x).1 x1).1, fun y hy => ?_⟩
    obtain ⟨m, hm⟩ : ∃ m, ecc n S D y = m := ⟨_, rfl⟩
    induction m using Nat.strongRecOn generalizing y with
    | ind m ih =>
      by_cases hl : LfS f S y
      · obtain ⟨b, b1, b2⟩ := h.leaf_far hS ho hv hy hl
        have := ih _ (by omega) b b1 rfl
        omega
      · have hy' : S' y = true := (ho y).2 ⟨hy, hl⟩
        have := x2 y hy'
        rw [h.ecc_suc hS ho x1, h.ecc_suc hS ho hy']
        omega
theorem TS.near (h : TS f S D) (hall : ∀ x, S x = true → LfS f S x) {x y : Nat} (hx : S x = true) (hy : S y = true) : D x y ≤ 1 := by
  by_cases e : x = y
  · subst e; rw [h.zero hx]; omega
  · obtain ⟨b, b1, b2, _⟩ := h.par hx hy e
    by_cases e2 : b = x
    · subst e2; rw [h.zero hx] at b2; omega
    · exact absurd (hall b (rs_iff.1 b1).2.2) (h.mid hx b1 b2 e2)
theorem TS.cen_all (h : TS f S D) (hS : ∀ x, S x = true → x < n) (hall : ∀ x, S x = true → LfS f S x) {x : Nat} (hx : S x = true) : IsCen n S D x := by
  refine ⟨hx, fun y hy => ?_⟩
  obtain ⟨z, z1, z2⟩ := ecc_get (n := n) h hx
  have h1 := h.near hall hx z1
  by_cases e : x = y
  · subst e; omega
  · have := ecc_le (n := n) (D := D) hS (x := y) hx
    have : D y x ≠ 0 := fun e' => e (h.eq hy hx e').symm
    omega
/-- there is a leaf -/
theorem TS.has_leaf (h : TS f S D) (hS : ∀ x, S x = true → x < n) {x : Nat} (hx : S x = true) {y : Nat} (hy : S y = true) (hf : D x y = ecc n S D x) : LfS f S y := by
  apply Classical.byContradiction
  intro hl
  obtain ⟨z, z1, z2⟩ := h.on hx hy hl
  have := ecc_le (n := n) (D := D) hS (x := x) (rs_iff.1 z1).2.2
  omega
/-- the longest ways go through the middle -/
def Dia (S : Nat → Bool) (D : Nat → Nat → Nat) (m : Nat) : Prop := ∀ x y, S x = true → S y = true → D x y ≤ m
theorem TS.dia_round (h : TS f S D) (hS : ∀ x, S x = true → x < n) (ho : Off f S S') {v a b : Nat} (hv : S' v = true) (ha : S a = true) (hb : S b = true) (hd : Dia S D (D a b)) :
    ∃ a' b', S' a' = true ∧ S' b' = true ∧ Dia S' D (D a' b') ∧ D a b = D a' b' + 2 ∧ ∀ c, S' c = true → D a c = D a' c + 1 ∧ D b c = D b' c + 1 := by
  obtain ⟨v1, v2⟩ := (ho v).1 hv
  have hab : 2 ≤ D a b := by
    obtain ⟨p, q, hpq, hp, hq⟩ := h.nonleaf v1 v2
    have p1 := (rs_iff.1 hp).2.2
    have q1 := (rs_iff.1 hq).2.2
    have := hd p q p1 q1
    rcases h.step p1 hq with e | e
    · rw [h.sym p1 v1, h.adj hp] at e; omega
    · rw [h.sym p1 v1, h.adj hp] at e
      exact absurd (h.eq p1 q1 (by omega)) hpq
  have hle : ∀ (x y : Nat), S x = true → S y = true → D x y = D a b → LfS f S y := fun x y hx hy e => by
    refine h.has_leaf hS hx hy ?_
    obtain ⟨z, z1, z2⟩ := ecc_get (n := n) h hx
    have h1 := hd x z hx z1
    have h2 := ecc_le (n := n) (D := D) hS (x := x) hy
    omega
  have lb := hle a b ha hb rfl
  have la := hle b a hb ha (h.sym hb ha)
  have hne : a ≠ b := fun e => by subst e; rw [h.zero ha] at hab; omega
  obtain ⟨a', a1, a2, _⟩ := h.par hb ha (fun e => hne e.symm)
  obtain ⟨b', b1, b2, _⟩ := h.par ha hb hne
  have sa := (rs_iff.1 a1).2.2
  have sb := (rs_iff.1 b1).2.2
  have e1 := h.sym ha hb
  have hab' : a' ≠ b := fun e => by subst e; rw [h.zero sa] at a2; omega
  have hba' : b' ≠ a := fun e => by subst e; rw [h.zero sb] at b2; omega
  have na : S' a' = true := (ho _).2 ⟨sa, h.mid hb a1 a2 hab'⟩
  have nb : S' b' = true := (ho _).2 ⟨sb, h.mid ha b1 b2 hba'⟩
  have ea : ∀ c, S c = true → c ≠ a → D a c = D a' c + 1 := fun c hc hca => h.leafD la a1 hc hca
  have eb : ∀ c, S c = true → c ≠ b → D b c = D b' c + 1 := fun c hc hcb => h.leafD lb b1 hc hcb
  have e2 := ea b hb (fun e => hne e.symm)
  have e3 := eb a' sa hab'
  rw [h.sym hb sa, h.sym sb sa] at e3
  refine ⟨a', b', na, nb, fun x y hx hy => ?_, by omega, fun c hc => ?_⟩
  · obtain ⟨x1, x2⟩ := (ho x).1 hx
    obtain ⟨y1, y2⟩ := (ho y).1 hy
    obtain ⟨z, z1, z2⟩ := h.on x1 y1 y2
    have sz := (rs_iff.1 z1).2.2
    obtain ⟨u, u1, u2⟩ := h.on sz x1 x2
    have su := (rs_iff.1 u1).2.2
    have := hd z u sz su
    have := h.sym x1 sz
    omega
  · obtain ⟨c1, c2⟩ := (ho c).1 hc
    exact ⟨ea c c1 (fun e => c2 (e ▸ la)), eb c c1 (fun e => c2 (e ▸ lb))⟩
theorem TS.dia_all (h : TS f S D) (hall : ∀ x, S x = true → LfS f S x) {a b c : Nat} (ha : S a = true) (hb : S b = true) (hc : S c = true) (hd : Dia S D (D a b)) : D a c + D c b = D a b := by
  have h1 := h.near hall ha hb
  have h2 := h.near hall ha hc
  have h3 := h.near hall hc hb
  have h4 := hd a c ha hc
  have h5 := hd c b hc hb
  by_cases e : D a b = 0
  · omega
  · have e1 : D a b = 1 := by omega
    by_cases e2 : D a c = 0
    · rw [h.eq ha hc e2] at *; omega
    · by_cases e3 : D c b = 0
      · rw [h.eq hc hb e3] at *; omega
      · have := h.adj' hc hb (by omega)
        rcases h.step ha this with e4 | e4 <;> omega
end
end Go.Proofs.Ytoipleipokpnaaa.Code
end
section
namespace Go.Proofs.Ytoipleipokpnaaa.Code
open Go Go.Ab
/-! the distances of all knots by Floyd and Warshall -/
abbrev Mat := Nat → Nat → Nat
def up2 (M : Mat) (a b v : Nat) : Mat := fun x y => if x = a ∧ y = b then v else M x y
def fwS (k a : Nat) (M : Mat) (b : Nat) : Mat := up2 M a b (min (M a b) (M a k + M k b))
def fwA (n k : Nat) (M : Mat) (a : Nat) : Mat := (List.range n).foldl (fwS k a) M
def fwK (n : Nat) (M : Mat) (k : Nat) : Mat := (List.range n).foldl (fwA n k) M
def fwN (n : Nat) (M : Mat) : Mat := (List.range n).foldl (fwK n) M
def tieM (M : Mat) (p : ZZ) : Mat := up2 (up2 M p.1.toNat p.2.toNat 1) p.2.toNat p.1.toNat 1
def fw0 (l : List ZZ) : Mat := l.foldl tieM fun a b => if a = b then 0 else 100
def farF (n : Nat) (l : List ZZ) : Mat := fwN n (fw0 l)
def Mids (n m : Nat) (D : Mat) (a b : Nat) : Prop := ∀ z, z < n → z ≠ a → z ≠ b → D a z + D z b = D a b → z < m
structure FJ (n m : Nat) (D M : Mat) : Prop where
  ge : ∀ a b, a < n → b < n → D a b ≤ M a b
  eq : ∀ a b, a < n → b < n → Mids n m D a b → M a b = D a b
section
variable {n : Nat} {f : Nat → Nat → Bool} {D M : Mat}
theorem FJ.step {m a b : Nat} (hT : TM (fun x => x < n) f D) (hm : m < n) (ha : a < n) (hb : b < n) (h : FJ n m D M) : FJ n m D (fwS m a M b) := by
  have t := hT.tri ha hm (D m b) hb rfl
  have h1 := h.ge a m ha hm
  have h2 := h.ge m b hm hb
  have h3 := h.ge a b ha hb
  refine ⟨fun x y hx hy => ?_, fun x y hx hy hM => ?_⟩
  · unfold fwS up2
    split
    · rename_i e; obtain ⟨rfl, rfl⟩ := e; omega
    · exact h.ge x y hx hy
  · have := h.eq x y hx hy hM
    unfold fwS up2
    split
    · rename_i e; obtain ⟨rfl, rfl⟩ := e; omega
    · exact this
theorem FJ.hit {m a b : Nat} (hT : TM (fun x => x < n) f D) (hm : m < n) (ha : a < n) (hb : b < n) (h : FJ n m D M) (hM : Mids n (m + 1) D a b) : fwS m a M b a b = D a b := by
  have t := hT.tri ha hm (D m b) hb rfl
  have h1 := h.ge a m ha hm
  have h2 := h.ge m b hm hb
  have h3 := h.ge a b ha hb
  have e0 : fwS m a M b a b = min (M a b) (M a m + M m b) := by unfold fwS up2; rw [if_pos ⟨rfl, rfl⟩]
  rw [e0]
  by_cases hc : m ≠ a ∧ m ≠ b ∧ D a m + D m b = D a b
  · obtain ⟨c1, c2, c3⟩ := hc
    have e1 : M a m = D a m := h.eq a m ha hm fun z hz z1 z2 z3 => by
      have t2 := hT.tri hz hm (D m b) hb rfl
      have t3 := hT.tri ha hz (D z b) hb rfl
      have hzb : z ≠ b := fun e => by
        subst e
        have := hT.sym hb hm
        have : D m z = 0 := by omega
        exact c2 (hT.eq hm hb this)
      have := hM z hz z1 hzb (by omega)
      omega
    have e2 : M m b = D m b := h.eq m b hm hb fun z hz z1 z2 z3 => by
      have t2 := hT.tri ha hm (D m z) hz rfl
      have t3 := hT.tri ha hz (D z b) hb rfl
      have hza : z ≠ a := fun e => by
        subst e
        have := hT.sym hz hm
        have : D z m = 0 := by omega
        exact c1 (hT.eq hz hm this).symm
      have := hM z hz hza z2 (by omega)
      omega
    omega
  · have : M a b = D a b := h.eq a b ha hb fun z hz z1 z2 z3 => by
      have := hM z hz z1 z2 z3
      have : z ≠ m := fun e => by subst e; exact hc ⟨z1, z2, z3⟩
      omega
    omega
theorem fwS_le {m a b x y : Nat} : fwS m a M b x y ≤ M x y := by
  unfold fwS up2
  split
  · rename_i e; obtain ⟨rfl, rfl⟩ := e; omega
  · exact Nat.le_refl _
theorem FJ.row {m a : Nat} (hT : TM (fun x => x < n) f D) (hm : m < n) (ha : a < n) (G : Nat → Nat → Prop) (hG : ∀ x y, G x y → x < n ∧ y < n ∧ Mids n (m + 1) D x y) :
    ∀ (L : List Nat) (M : Mat), (∀ b ∈ L, b < n) → FJ n m D M → (∀ x y, G x y → M x y = D x y) → FJ n m D (L.foldl (fwS m a) M) ∧ (∀ x y, G x y → L.foldl (fwS m a) M x y = D x y) ∧ ∀ b ∈ L, Mids n (m + 1) D a b → L.foldl (fwS m a) M a b = D a b
  | [], M, _, h, hg => ⟨h, hg, fun b hb => by cases hb⟩
  | b :: L, M, hL, h, hg => by
    have hb := hL b (List.mem_cons_self ..)
    have h' := h.step hT hm ha hb
    have hit := fun hM => h.hit hT hm ha hb hM
    have hg' : ∀ x y, G x y ∨ (x = a ∧ y = b ∧ Mids n (m + 1) D a b) → fwS m a M b x y = D x y := fun x y hxy => by
      rcases hxy with e | ⟨rfl, rfl, e⟩
      · obtain ⟨g1, g2, _⟩ := hG x y e
        have q1 := h'.ge x y g1 g2
        have q2 := fwS_le (m := m) (a := a) (b := b) (M := M) (x := x) (y := y)
        have q3 := hg x y e
        omega
      · exact hit e
    obtain ⟨r1, r2, r3⟩ := FJ.row hT hm ha (fun x y => G x y ∨ (x = a ∧ y = b ∧ Mids n (m + 1) D a b)) (fun x y hxy => by
      rcases hxy with e | ⟨rfl, rfl, e⟩
      · exact hG x y e
      · exact ⟨ha, hb, e⟩) L _ (fun c hc => hL c (List.mem_cons_of_mem _ hc)) h' hg'
    refine ⟨r1, fun x y e => r2 x y (.inl e), fun c hc hM => ?_⟩
    rcases List.mem_cons.1 hc with rfl | hc
    · exact r2 a c (.inr ⟨rfl, rfl, hM⟩)
    · exact r3 c hc hM
theorem FJ.rows {m : Nat} (hT : TM (fun x => x < n) f D) (hm : m < n) (G : Nat → Nat → Prop) (hG : ∀ x y, G x y → x < n ∧ y < n ∧ Mids n (m + 1) D x y) :
    ∀ (L : List Nat) (M : Mat), (∀ b ∈ L, b < n) → FJ n m D M → (∀ x y, G x y → M x y = D x y) → FJ n m D (L.foldl (fwA n m) M) ∧ (∀ x y, G x y → L.foldl (fwA n m) M x y = D x y) ∧ ∀ a ∈ L, ∀ b, b < n → Mids n (m + 1) D a b → L.foldl (fwA n m) M a b = D a b
  | [], M, _, h, hg => ⟨h, hg, fun b hb => by cases hb⟩
  | a :: L, M, hL, h, hg => by
    have ha := hL a (List.mem_cons_self ..)
    obtain ⟨p1, p2, p3⟩ := FJ.row hT hm ha G hG (List.range n) M (fun b hb => List.mem_range.1 hb) h hg
    obtain ⟨r1, r2, r3⟩ := FJ.rows hT hm (fun x y => G x y ∨ (x = a ∧ y < n ∧ Mids n (m + 1) D a y)) (fun x y hxy => by
      rcases hxy with e | ⟨rfl, e1, e⟩
      · exact hG x y e
      · exact ⟨ha, e1, e⟩) L (fwA n m M a) (fun c hc => hL c (List.mem_cons_of_mem _ hc)) p1 (fun x y hxy => by
      rcases hxy with e | ⟨rfl, e1, e⟩
      · exact p2 x y e
      · exact p3 y (List.mem_range.2 e1) e)
    refine ⟨r1, fun x y e => r2 x y (.inl e), fun c hc b hb hM => ?_⟩
    rcases List.mem_cons.1 hc with rfl | hc
    · exact r2 c b (.inr ⟨rfl, hb, hM⟩)
    · exact r3 c hc b hb hM
theorem FJ.round {m : Nat} (hT : TM (fun x => x < n) f D) (hm : m < n) (h : FJ n m D M) : FJ n (m + 1) D (fwK n M m) := by
  obtain ⟨r1, _, r3⟩ := FJ.rows hT hm (fun _ _ => False) (fun _ _ e => e.elim) (List.range n) M (fun b hb => List.mem_range.1 hb) h (fun _ _ e => e.elim)
  exact ⟨r1.ge, fun a b ha hb hM => r3 a (List.mem_range.2 ha) b hb hM⟩
theorem FJ.all (hT : TM (fun x => x < n) f D) (h : FJ n 0 D M) : ∀ m, m ≤ n → FJ n m D ((List.range m).foldl (fwK n) M)
  | 0, _ => h
  | m + 1, hm => by
    rw [List.range_succ, List.foldl_append]
    exact FJ.round hT (by omega) (FJ.all hT h m (by omega))
end
theorem up2_get {M : Mat} {a b v x y : Nat} : up2 M a b v x y = if x = a ∧ y = b then v else M x y := rfl
theorem fw0_get {n : Nat} : ∀ {r l : List ZZ} {M : Mat}, (∀ p ∈ r, okP n p) → (∀ a b, M a b = if a = b then 0 else if tieB l a b then 1 else 100) → (∀ p ∈ l, okP n p) → ∀ a b, r.foldl tieM M a b = if a = b then 0 else if tieB (l ++ r) a b then 1 else 100
  | [], l, M, _, h, _, a, b => by rw [List.append_nil]; exact h a b
  | p :: r, l, M, hr, h, hl, a, b => by
    have hp := hr p (List.mem_cons_self ..)
    rw [List.foldl_cons, show l ++ p :: r = (l ++ [p]) ++ r by simp]
    refine fw0_get (l := l ++ [p]) (fun q hq => hr q (List.mem_cons_of_mem _ hq)) (fun x y => ?_) (fun q hq => ?_) a b
    · rw [tieB_snoc]
      obtain ⟨p1, p2⟩ := p
      obtain ⟨q1, q2, q3, q4, q5⟩ := hp
      simp only at q1 q2 q3 q4 q5
      obtain ⟨c, rfl⟩ := Int.eq_ofNat_of_zero_le q1
      obtain ⟨d, rfl⟩ := Int.eq_ofNat_of_zero_le q2
      have hcd : c ≠ d := by omega
      simp only [tieM, up2_get, Int.toNat_natCast]
      have b1 : ∀ u v : Nat, ((u : Int) == (v : Int)) = decide (u = v) := fun u v => by
        rw [Bool.eq_iff_iff, beq_iff_eq, decide_eq_true_iff]; omega
      simp only [b1]
      by_cases h1 : x = d ∧ y = c
      · obtain ⟨rfl, rfl⟩ := h1
        rw [if_pos ⟨rfl, rfl⟩, if_neg (fun e => hcd e.symm)]
        simp
      · rw [if_neg h1]
        by_cases h2 : x = c ∧ y = d
        · obtain ⟨rfl, rfl⟩ := h2
          rw [if_pos ⟨rfl, rfl⟩, if_neg hcd]
          simp
        · rw [if_neg h2, h]
          have : (decide (c = x) && decide (d = y) || decide (c = y) && decide (d = x)) = false := by
            rw [Bool.eq_false_iff]
            intro e
            simp only [Bool.or_eq_true, Bool.and_eq_true, decide_eq_true_eq] at e
            rcases e with ⟨e1, e2⟩ | ⟨e1, e2⟩
            · exact h2 ⟨e1.symm, e2.symm⟩
            · exact h1 ⟨e2.symm, e1.symm⟩
          rw [this, Bool.or_false]
    · rcases List.mem_append.1 hq with hq | hq
      · exact hl q hq
      · rw [List.mem_singleton.1 hq]; exact hp
theorem fw0_eq {n : Nat} {l : List ZZ} (hv : ∀ p ∈ l, okP n p) (a b : Nat) : fw0 l a b = if a = b then 0 else if tieB l a b then 1 else 100 := by
  have := fw0_get (n := n) (r := l) (l := []) (M := fun a b => if a = b then 0 else 100) hv (fun a b => by simp [tieB_nil]) (fun p hp => by cases hp) a b
  rw [List.nil_append] at this
  exact this
theorem farF_tm {n : Nat} {l : List ZZ} {D : Mat} (hT : TM (fun x => x < n) (tieB l) D) (hv : ∀ p ∈ l, okP n p) (hD : ∀ x y, x < n → y < n → D x y ≤ 100) {a b : Nat} (ha : a < n) (hb : b < n) : farF n l a b = D a b := by
  have h0 : FJ n 0 D (fw0 l) := by
    refine ⟨fun a b ha hb => ?_, fun a b ha hb hM => ?_⟩
    · rw [fw0_eq hv]
      split
      · rename_i e; subst e; rw [hT.zero ha]; omega
      · split
        · rename_i e; rw [hT.adj e]; omega
        · exact hD a b ha hb
    · rw [fw0_eq hv]
      split
      · rename_i e; subst e; rw [hT.zero ha]
      · rename_i e
        split
        · rename_i e; rw [hT.adj e]
        · rename_i e2
          obtain ⟨c, c1, c2, _⟩ := hT.par ha hb e
          have hc := (hT.inV c1).2.1
          have hca : c ≠ a := fun e' => by subst e'; exact e2 (hT.symF c1)
          have hcb : c ≠ b := fun e' => (hT.inV c1).2.2 e'.symm
          have := hM c hc hca hcb (by rw [hT.sym hc hb, hT.adj c1]; omega)
          omega
  exact (FJ.all hT h0 n (Nat.le_refl n)).eq a b ha hb fun z hz _ _ _ => hz
/-! what is below 100 can be reached -/
def FR (n : Nat) (f : Nat → Nat → Bool) (M : Mat) : Prop := ∀ a b, M a b < 100 → Rch f a b
theorem FR.step {n k a b : Nat} {f : Nat → Nat → Bool} {M : Mat} (h : FR n f M) : FR n f (fwS k a M b) := fun x y e => by
  unfold fwS up2 at e
  split at e
  · rename_i e'; obtain ⟨rfl, rfl⟩ := e'
    rcases Nat.lt_or_ge (M x y) 100 with h1 | h1
    · exact h x y h1
    · exact Rch.trans (h x k (by omega)) (h k y (by omega))
  · exact h x y e
theorem FR.foldl {n : Nat} {f : Nat → Nat → Bool} {g : Mat → Nat → Mat} (hg : ∀ M c, FR n f M → FR n f (g M c)) : ∀ (L : List Nat) (M : Mat), FR n f M → FR n f (L.foldl g M)
  | [], _, h => h
  | c :: L, M, h => FR.foldl hg L _ (hg M c h)
end Go.Proofs.Ytoipleipokpnaaa.Code
end
section
namespace Go.Proofs.Ytoipleipokpnaaa.Code
open Go Go.Ab
end Go.Proofs.Ytoipleipokpnaaa.Code
end
section
namespace Go.Proofs.Ytoipleipokpnaaa.Code
open Go Go.Ab
theorem Inv.gone {n : Nat} {l : List ZZ} {w : Nat → Nat} {g : Nat → Bool} {left : Nat} (h : Inv n l w g left) {x : Nat} (hg : g x = true) : (bitsN (w x)).length = 0 := by
  rw [List.length_eq_zero_iff]
  apply List.eq_nil_iff_forall_not_mem.2
  intro y hy
  rw [mem_bitsN (h.lt x), h.bit, hg] at hy
  simp at hy
end Go.Proofs.Ytoipleipokpnaaa.Code
end
section
namespace Go.Proofs.Ytoipleipokpnaaa.Code
open Go Go.Ab Go.RowKit Go.ChangeShapes Go.WideShapes
variable {H : Type} {enc : TypeId × Value → H} {P : Program} {W W' : World} {base : Nat} {spare : Nat → Bool} {held : Bool}
theorem flat_vr {n : Nat} {t : TypeId} {v : Value} {d : DataW H} {ps : List MemPlace} {r : Reach} {b0 : Nat}
    (hu : (∃ fs, P.underlying t = some (.struct fs)) ∨ ∃ m e, P.underlying t = some (.array m e)) (hf : flatT P n t = true)
    (hval : Value.okWide P W r b0 t v) (hd : DataW.Trod enc P W 0 spare held t v d ps) : ∃ ys, VR (ctx0 W) (.agg ys) v ∧ Sh P n t ys := by
  have hv : ∃ cs, v = .agg cs := by
    unfold Value.okWide at hval
    rcases hu with ⟨fs, hu⟩ | ⟨m, e, hu⟩
    · rw [hu] at hval
      obtain ⟨cs, h, _⟩ := hval
      exact ⟨cs, h⟩
    · rw [hu] at hval
      obtain ⟨cs, h, _⟩ := hval
      exact ⟨cs, h⟩
  obtain ⟨cs, rfl⟩ := hv
  obtain ⟨fuel, hd⟩ := hd
  obtain ⟨ys, h1, h2⟩ := flat_cel (W := W) n t hf _ _ _ hd
  have hc : (Value.agg cs).cells.toList = cs.toList := rfl
  rw [hc] at h2
  exact ⟨ys, .agg ys cs (by rw [h2.len]; simp) h2.one fun i c u hi hu => h2.vr i c u hi (by simpa using hu), h1⟩
theorem sh_nat {n : Nat} {e : TypeId} {k : IntKind} {ys : List AV} (he : P.underlying e = some (.int k)) (hk : k.min = 0) (h : Sh P (n + 1) e ys) : ∃ a : Nat, ys = [.int k a] ∧ (a : Int) ≤ k.max := by
  unfold Sh at h
  rw [he] at h
  obtain ⟨z, rfl, hw⟩ := h
  simp only [Lit.wf, Bool.and_eq_true, decide_eq_true_eq, hk] at hw
  obtain ⟨a, rfl⟩ := Int.eq_ofNat_of_zero_le hw.1
  exact ⟨a, rfl, hw.2⟩
theorem sh_bytes {e : TypeId} {m o : Nat} {ys : List AV} {t : TypeId} (ht : P.underlying t = some (.array m e)) (he : P.underlying e = some (.int .u8)) (ce : P.cellsOf e = 1) (ct : P.cellsOf t = m)
    (hs : Sh P 2 t ((ys.drop o).take m)) : ∀ i, i < m → ∃ a : Nat, ys[o + i]? = some (.int .u8 (a : Nat)) ∧ a < 256 := by
  unfold Sh at hs
  rw [ht] at hs
  obtain ⟨hl, hs⟩ := hs
  intro i hi
  have := hs i hi
  rw [ce, Nat.mul_one] at this
  obtain ⟨a, ha, ha2⟩ := sh_nat he (by decide) this
  have m1 : IntKind.u8.max = 255 := by decide
  refine ⟨a, ?_, by omega⟩
  have h2 : ((((ys.drop o).take m).drop i).take 1)[0]? = some (.int .u8 (a : Nat)) := by rw [ha]; rfl
  rw [List.getElem?_take, if_pos (by decide), List.getElem?_drop, List.getElem?_take, if_pos (by omega), List.getElem?_drop] at h2
  rw [← h2]; rfl
/-- a twig: a byte, eight and nine -/
theorem twig_vr {t e : TypeId} {f0 f1 f2 : Field} {v : Value} {d : DataW H} {ps : List MemPlace} {r : Reach} {b0 : Nat}
    (ht : P.underlying t = some (.struct #[f0, f1, f2])) (o0 : f0.offset = 0) (o1 : f1.offset = 1) (o2 : f2.offset = 9) (c0 : P.cellsOf f0.type = 1) (c1 : P.cellsOf f1.type = 8) (c2 : P.cellsOf f2.type = 9) (ct : P.cellsOf t = 18)
    (h0 : P.underlying f0.type = some (.int .u8)) (h1 : P.underlying f1.type = some (.array 8 e)) (h2 : P.underlying f2.type = some (.array 9 e)) (he : P.underlying e = some (.int .u8)) (ce : P.cellsOf e = 1)
    (hval : Value.okWide P W r b0 t v) (hd : DataW.Trod enc P W 0 spare held t v d ps) :
    ∃ f : Nat → Nat, (∀ i, f i < 256) ∧ VR (ctx0 W) (.agg (tw f)) v := by
  have hf : flatT P 3 t = true := by
    have ge : flatT P 1 e = true := by unfold flatT; rw [he]
    have g0 : flatT P 2 f0.type = true := by unfold flatT; rw [h0]
    have g1 : flatT P 2 f1.type = true := by unfold flatT; rw [h1]; simp [ce, c1, ge]
    have g2 : flatT P 2 f2.type = true := by unfold flatT; rw [h2]; simp [ce, c2, ge]
    unfold flatT; rw [ht]
    simp [rowed, o0, o1, o2, c0, c1, c2, ct, g0, g1, g2]
  obtain ⟨ys, hv, hs⟩ := flat_vr (.inl ⟨_, ht⟩) hf hval hd
  unfold Sh at hs
  rw [ht] at hs
  obtain ⟨hl, hs⟩ := hs
  rw [ct] at hl
  have s0 := hs f0 (by simp)
  have s1 := hs f1 (by simp)
  have s2 := hs f2 (by simp)
  rw [o0, c0] at s0
  rw [o1, c1] at s1
  rw [o2, c2] at s2
  obtain ⟨a0, ha0, hb0⟩ := sh_nat h0 (by decide) s0
  have m1 : IntKind.u8.max = 255 := by decide
  have x1 := sh_bytes h1 he ce c1 s1
  have x2 := sh_bytes h2 he ce c2 s2
  have each : ∀ i, i < 18 → ∃ a : Nat, ys[i]? = some (.int .u8 (a : Nat)) ∧ a < 256 := fun i hi => by
    by_cases e1 : i = 0
    · subst e1
      refine ⟨a0, ?_, by omega⟩
      have h2 : ((ys.drop 0).take 1)[0]? = some (.int .u8 (a0 : Nat)) := by rw [ha0]; rfl
      rw [List.getElem?_take, if_pos (by decide), List.getElem?_drop] at h2
      exact h2
    · by_cases e2 : i < 9
      · have := x1 (i - 1) (by omega)
        rwa [show 1 + (i - 1) = i by omega] at this
      · have := x2 (i - 9) (by omega)
        rwa [show 9 + (i - 9) = i by omega] at this
  obtain ⟨Y, hY⟩ := Go.Deep.choose_lt each
  refine ⟨fun i => if i < 18 then Y i else 0, fun i => ?_, ?_⟩
  · simp only
    split
    · rename_i h; exact (hY i h).2
    · decide
  · have : ys = tw fun i => if i < 18 then Y i else 0 := by
      unfold tw
      apply List.ext_getElem?
      intro i
      by_cases hi : i < 18
      · rw [(hY i hi).1]; simp [hi]
      · rw [List.getElem?_eq_none (by omega), List.getElem?_eq_none (by simp; omega)]
    rw [← this]; exact hv
end Go.Proofs.Ytoipleipokpnaaa.Code
end
section
namespace Go.Proofs.Ytoipleipokpnaaa.Code
open Go Go.Ab
variable {pure : Bool} {base bar : Nat} {H : Heap} {Q : AV → Heap → Prop} {K : AV → Heap → List Nat → Prop}
/-! far: a square of numbers on the heap -/
def topR (n : Nat) (C : Nat → AV) : List AV := (List.range n).map C
theorem topR_len {n : Nat} {C : Nat → AV} : (topR n C).length = n := by simp [topR]
theorem topR_get {n i : Nat} {C : Nat → AV} (hi : i < n) : (topR n C)[i]? = some (C i) := by simp [topR, hi]
theorem topR_getE {n i : Nat} {C : Nat → AV} (h : i < (topR n C).length) : (topR n C)[i]'h = C i := by simp [topR]
def updC (C : Nat → AV) (i : Nat) (x : AV) : Nat → AV := fun j => if j = i then x else C j
theorem topR_set {n i : Nat} {x : AV} {C : Nat → AV} (hi : i < n) : setCells (topR n C) i [x] = topR n (updC C i x) := by
  simp only [setCells]
  apply List.ext_getElem?
  intro j
  rw [List.getElem?_set]
  by_cases hj : i = j
  · subst hj
    rw [if_pos rfl, if_pos (by rw [topR_len]; exact hi), topR_get hi]; simp [updC]
  · rw [if_neg hj]
    rcases Nat.lt_or_ge j n with h | h
    · rw [topR_get h, topR_get h]; simp [updC, show ¬ j = i by omega]
    · rw [List.getElem?_eq_none (by rw [topR_len]; exact h), List.getElem?_eq_none (by rw [topR_len]; exact h)]
theorem updC_twice {C : Nat → AV} {i : Nat} {x y : AV} : updC (updC C i x) i y = updC C i y := by
  funext j; unfold updC; split <;> rfl
theorem updC_self {C : Nat → AV} {i : Nat} : updC C i (C i) = C := by
  funext j; unfold updC; split
  · rename_i e; rw [e]
  · rfl
/-- a square with rows of their own -/
structure MX (n p : Nat) (vs : Nat → Nat) (M : Mat) (A H : Heap) : Prop where
  base : A.length = p
  len : H.length = p + 1 + n
  low : ∀ j, j < p → H[j]? = A[j]?
  top : H[p]? = some (.row 0 (topR n fun i => .vec (p + 1 + i) (vs i) 0 n 1) 0 true)
  row : ∀ i, i < n → H[p + 1 + i]? = some (.row (vs i) (dc n fun j => ((M i j : Nat) : Int)) 0 false)
/-- the row of a square that is being made -/
structure MB (n p a : Nat) (vs : Nat → Nat) (M : Mat) (A X : Heap) : Prop where
  base : A.length = p
  len : X.length = p + 1 + a
  low : ∀ j, j < p → X[j]? = A[j]?
  top : X[p]? = some (.row 0 (topR n fun i => if i < a then .vec (p + 1 + i) (vs i) 0 n 1 else .nils) 0 true)
  row : ∀ i, i < a → X[p + 1 + i]? = some (.row (vs i) (dc n fun j => ((M i j : Nat) : Int)) 0 false)
def start0 : Mat := fun a b => if a = b then 0 else 100
def rowC (b a : Nat) : List Nat := (List.range b).map (start0 a)
theorem rowC_suc {b a : Nat} : rowC (b + 1) a = rowC b a ++ [start0 a b] := by simp [rowC, List.range_succ]
/-- a list of numbers under construction, nothing of it frozen -/
def Gr0 (l : List Nat) (H0 : Heap) (v : AV) (H : Heap) : Prop := (l = [] ∧ v = .nils ∧ H = H0) ∨ ∃ ver, l ≠ [] ∧ v = .vec H0.length ver 0 l.length 1 ∧ H = H0 ++ [.row ver (nats l) 0 false]
theorem Gr0.nat {l : List Nat} {H0 : Heap} {v : AV} {ex : Bool} {x : Nat} (g : Gr0 l H0 v H) (hb : bar ≤ H0.length) (hbase : base ≤ H0.length) (hlen : l.length < 1000)
    (h : ∀ v' H' tc, Gr0 (l ++ [x]) H0 v' H' → K v' H' tc) : appWp base bar 1 8 (some v) (some (.lst 1 ex [.int .i64 (x : Int)])) H K := by
  have e : asrc H 1 (.lst 1 ex [.int .i64 (x : Int)]) = some [.int .i64 (x : Int)] := by rw [asrc_lst]; rfl
  rcases g with ⟨rfl, rfl, rfl⟩ | ⟨ver, hne, rfl, rfl⟩
  · simp [appWp, e, go_sem, aappend, AV.noVec.noVecs, AV.noVec]
    exact h _ _ _ (.inr ⟨0, by simp, by simp, by simp [nats]⟩)
  · have hl : (nats l).length = l.length := nats_len
    have h1 : ¬ 140737488355328 < (l.length + 1) * 8 := by omega
    have h2 : ¬ l.length + 1 ≤ l.length := by omega
    simp [appWp, e, go_sem, aappend, AV.noVec.noVecs, AV.noVec, hl, h1, h2, hb, hbase, List.take_of_length_le (show (nats l).length ≤ l.length by omega)]
    exact h _ _ _ (.inr ⟨ver + 1, by simp, by simp, by simp [nats]⟩)
theorem Gr0.get {l : List Nat} {H0 : Heap} {v : AV} {i : Nat} {b : Blk} (g : Gr0 l H0 v H) (h : H0[i]? = some b) : H[i]? = some b := by
  rcases g with ⟨rfl, rfl, rfl⟩ | ⟨ver, hne, rfl, rfl⟩
  · exact h
  · rw [List.getElem?_append_left (List.getElem?_eq_some_iff.1 h).1]; exact h
theorem Gr0.set {l : List Nat} {H0 : Heap} {v : AV} {i : Nat} {b : Blk} (g : Gr0 l H0 v H) (hi : i < H0.length) : Gr0 l (H0.set i b) v (H.set i b) := by
  rcases g with ⟨rfl, rfl, rfl⟩ | ⟨ver, hne, rfl, rfl⟩
  · exact .inl ⟨rfl, rfl, rfl⟩
  · refine .inr ⟨ver, hne, by simp, ?_⟩
    rw [List.set_append_left _ _ hi]
theorem Gr0.one {l : List Nat} {H0 : Heap} {v : AV} (g : Gr0 l H0 v H) : v.isTup = false ∧ v.cells = [v] := by
  rcases g with ⟨rfl, rfl, rfl⟩ | ⟨ver, hne, rfl, rfl⟩ <;> exact ⟨rfl, rfl⟩
theorem l37a {n p a : Nat} {v1 : AV} {C : Nat → AV} {X : Heap} (hn : n ≤ 9) (ha : a < n) (hpl : p < X.length) (hb : bar ≤ p) (hbase : base ≤ p) {R : PQ} : ∀ (k b : Nat), b + k = n → ∀ (v : AV) (H : Heap), Gr0 (rowC b a) (X.set p (.row 0 (topR n (updC C a v)) 0 true)) v H →
    (∀ v' H', Gr0 (rowC n a) (X.set p (.row 0 (topR n (updC C a v')) 0 true)) v' H' → R (.exit 2) [(1, v1), (3, .vec p 0 0 n 1), (16, .int .i64 (n : Nat)), (17, .int .i64 (a : Nat)), (4, .int .i64 (a : Nat)), (21, .int .i64 (n : Nat)), (22, .int .i64 (n : Nat)), (23, .bool false)] H') →
    Wp E base bar (.loop c37_l0) [(1, v1), (3, .vec p 0 0 n 1), (16, .int .i64 (n : Nat)), (17, .int .i64 (a : Nat)), (4, .int .i64 (a : Nat)), (21, .int .i64 (n : Nat)), (22, .int .i64 (b : Nat))] H R := by
  intro k
  induction k with
  | zero =>
    intro b hb' v H gr h
    obtain rfl : b = n := by omega
    rw [wp_round c37_l0.eq_1]
    simp [go_sem]
    exact h v H gr
  | succ k ih =>
    intro b hb' v H gr h
    have hlt : b < n := by omega
    have hp := Gr0.get gr (i := p) (b := .row 0 (topR n (updC C a v)) 0 true) (by rw [List.getElem?_set_self hpl])
    have hnext := fun v' H' gr' => ih (b + 1) (by omega) v' H' gr' h
    rw [rowC_suc] at hnext
    have hself : updC C a v a = v := by unfold updC; rw [if_pos rfl]
    have hlenr : (rowC b a).length = b := by simp [rowC]
    have hstep : ∀ (x : Nat), x = start0 a b → ∀ {K : AV → Heap → List Nat → Prop} {ex : Bool}, (∀ v' H' tc, H'[p]? = some (.row 0 (topR n (updC C a v)) 0 true) → v'.isTup = false → v'.cells = [v'] → Wp E base bar (.loop c37_l0) [(1, v1), (3, .vec p 0 0 n 1), (16, .int .i64 (n : Nat)), (17, .int .i64 (a : Nat)), (4, .int .i64 (a : Nat)), (21, .int .i64 (n : Nat)), (22, .int .i64 ((b + 1 : Nat) : Int))] (H'.set p (.row 0 (topR n (updC C a v')) 0 true)) R → K v' H' tc) → appWp base bar 1 8 (some v) (some (.lst 1 ex [.int .i64 (x : Int)])) H K := fun x hx K ex hK => by
      refine Gr0.nat gr (by simp; omega) (by simp; omega) (by omega) fun v' H' tc gr' => ?_
      have hp' := Gr0.get gr' (i := p) (b := .row 0 (topR n (updC C a v)) 0 true) (by rw [List.getElem?_set_self hpl])
      have gr2 := Gr0.set gr' (i := p) (b := .row 0 (topR n (updC C a v')) 0 true) (by rw [List.length_set]; exact hpl)
      rw [List.set_set, hx] at gr2
      exact hK v' H' tc hp' (Gr0.one gr').1 (Gr0.one gr').2 (hnext v' _ gr2)
    rw [wp_round c37_l0.eq_1]
    by_cases e : a = b
    · subst e
      have e0 : start0 a a = 0 := by simp [start0]
      simp [go_sem, hlt, aload, hp, topR_len, topR_getE, hself, aop, fillA, setCells, AV.cells, chunks, Ab.part]
      refine hstep 0 e0.symm fun v' H' tc hp' t1 t2 hw => ?_
      simp [go_sem, storeWp, astore, hp', t1, t2, topR_len, hb, hbase, ha, show a + 1 ≤ n from ha, topR_set, updC_twice, i64_suc (show a < 1000000 by omega)]
      exact hw
    · have e0 : start0 a b = 100 := by simp [start0, e]
      have e' : ¬ (a : Int) = (b : Int) := by omega
      simp [go_sem, hlt, ha, aload, hp, topR_len, topR_get, topR_getE, hself, aop, fillA, setCells, AV.cells, chunks, Ab.part, e, e']
      refine hstep 100 e0.symm fun v' H' tc hp' t1 t2 hw => ?_
      simp [go_sem, storeWp, astore, hp', t1, t2, topR_len, hb, hbase, ha, show a + 1 ≤ n from ha, topR_set, updC_twice, i64_suc (show b < 1000000 by omega)]
      exact hw
end Go.Proofs.Ytoipleipokpnaaa.Code
end
section
namespace Go.Proofs.Ytoipleipokpnaaa.Code
open Go Go.Ab
variable {pure : Bool} {base bar : Nat} {H : Heap} {Q : AV → Heap → Prop} {K : AV → Heap → List Nat → Prop}
theorem set_same {H : Heap} {p : Nat} {b : Blk} (h : H[p]? = some b) : H.set p b = H := by
  apply List.ext_getElem?
  intro j
  rw [List.getElem?_set]
  by_cases e : p = j
  · subst e
    rw [if_pos rfl, if_pos (List.getElem?_eq_some_iff.1 h).1, h]
  · rw [if_neg e]
theorem rowC_dc {n a : Nat} : nats (rowC n a) = dc n fun j => ((start0 a j : Nat) : Int) := by
  simp [nats, rowC, dc, Function.comp_def]
/-- row by row -/
theorem l37b {n p : Nat} {v1 : AV} {q : AV} {A : Heap} (hn : n ≤ 9) (h1 : 1 ≤ n) (hv1 : v1 = .ptr p 0 0) (hA : A[p]? = some (.row 0 [.int .i64 (n : Nat), q] 0 true)) (hAl : A.length = p + 1) (hb : bar ≤ p + 1) (hbase : base ≤ p + 1) {R : PQ} : ∀ (k a : Nat), a + k = n → ∀ (vs : Nat → Nat) (X : Heap), MB n (p + 1) a vs start0 A X →
    (∀ vs' H', MX n (p + 1) vs' start0 A H' → R (.exit 0) [(1, v1), (3, .vec (p + 1) 0 0 n 1), (16, .int .i64 (n : Nat)), (17, .int .i64 (n : Nat)), (18, .bool false)] H') →
    Wp E base bar (.loop c37_l1) [(1, v1), (3, .vec (p + 1) 0 0 n 1), (16, .int .i64 (n : Nat)), (17, .int .i64 (a : Nat))] X R := by
  intro k
  induction k with
  | zero =>
    intro a ha vs X hX h
    obtain rfl : a = n := by omega
    rw [wp_round c37_l1.eq_1]
    simp [go_sem]
    refine h vs X ⟨hX.base, by rw [hX.len], hX.low, ?_, hX.row⟩
    rw [hX.top]
    have : topR a (fun i => if i < a then AV.vec (p + 1 + 1 + i) (vs i) 0 a 1 else .nils) = topR a fun i => .vec (p + 1 + 1 + i) (vs i) 0 a 1 := by
      unfold topR
      refine List.map_congr_left fun i hi => ?_
      rw [if_pos (List.mem_range.1 hi)]
    rw [this]
  | succ k ih =>
    intro a ha vs X hX h
    have hlt : a < n := by omega
    subst hv1
    have hp : X[p]? = some (.row 0 [.int .i64 (n : Nat), q] 0 true) := by rw [hX.low p (by omega)]; exact hA
    have hXl := hX.len
    have hC : updC (fun i => if i < a then AV.vec (p + 1 + 1 + i) (vs i) 0 n 1 else .nils) a .nils = fun i => if i < a then AV.vec (p + 1 + 1 + i) (vs i) 0 n 1 else .nils := by
      have := updC_self (C := fun i => if i < a then AV.vec (p + 1 + 1 + i) (vs i) 0 n 1 else .nils) (i := a)
      simpa using this
    have la := fun {R : PQ} hR => l37a (R := R) (base := base) (bar := bar) (v1 := .ptr p 0 0) (C := fun i => if i < a then AV.vec (p + 1 + 1 + i) (vs i) 0 n 1 else .nils) (X := X) (p := p + 1) hn hlt (by omega) hb hbase n 0 (by omega) .nils X (by
      rw [hC, set_same hX.top]
      exact .inl ⟨rfl, rfl, rfl⟩) hR
    rw [wp_round c37_l1.eq_1]
    simp [go_sem, hlt, aload, hp, Ab.part]
    refine la fun v' H' g => ?_
    have hne : rowC n a ≠ [] := fun e => by
      have := congrArg List.length e
      simp [rowC] at this; omega
    have hrl : (rowC n a).length = n := by simp [rowC]
    rcases g with ⟨e, _, _⟩ | ⟨ver, _, hv', hH'⟩
    · exact absurd e hne
    · rw [List.length_set, hrl, hXl] at hv'
      have hMB : MB n (p + 1) (a + 1) (fun i => if i = a then ver else vs i) start0 A H' := by
        refine ⟨hX.base, by rw [hH']; simp; omega, fun j hj => ?_, ?_, fun i hi => ?_⟩
        · rw [hH', List.getElem?_append_left (by simp; omega), List.getElem?_set_ne (by omega)]
          exact hX.low j hj
        · rw [hH', List.getElem?_append_left (by simp; omega), List.getElem?_set_self (by omega)]
          have : (updC (fun i => if i < a then AV.vec (p + 1 + 1 + i) (vs i) 0 n 1 else .nils) a v') = fun i => if i < a + 1 then AV.vec (p + 1 + 1 + i) (if i = a then ver else vs i) 0 n 1 else .nils := by
            funext i
            unfold updC
            by_cases e : i = a
            · subst e; rw [if_pos rfl, if_pos (by omega), if_pos rfl, hv']
            · rw [if_neg e, if_neg e]
              by_cases e2 : i < a
              · have e3 : i < a + 1 := by omega
                simp [e2, e3]
              · have e3 : ¬ i < a + 1 := by omega
                simp [e2, e3]
          rw [this]
        · by_cases e : i = a
          · subst e
            rw [if_pos rfl, hH', List.getElem?_append_right (by simp; omega)]
            simp [hXl, rowC_dc]
          · rw [if_neg e, hH', List.getElem?_append_left (by simp; omega), List.getElem?_set_ne (by omega)]
            exact hX.row i (by omega)
      simp [go_sem, i64_suc (show a < 1000000 by omega)]
      exact ih (a + 1) (by omega) _ H' hMB h
/-- a number of the square is set -/
theorem MX.set {n p i j v : Nat} {vs : Nat → Nat} {M : Mat} {A : Heap} (h : MX n p vs M A H) (hi : i < n) : MX n p vs (up2 M i j v) A (H.set (p + 1 + i) (.row (vs i) (dc n (updZ (fun j => ((M i j : Nat) : Int)) j (v : Int))) 0 false)) := by
  have hl := h.len
  refine ⟨h.base, by rw [List.length_set]; exact hl, fun k hk => ?_, ?_, fun k hk => ?_⟩
  · rw [List.getElem?_set_ne (by omega)]; exact h.low k hk
  · rw [List.getElem?_set_ne (by omega)]; exact h.top
  · by_cases e : k = i
    · subst e
      rw [List.getElem?_set_self (by omega)]
      congr 3
      funext j'
      unfold updZ up2
      by_cases e2 : j' = j
      · subst e2; simp
      · simp [e2]
    · rw [List.getElem?_set_ne (by omega), h.row k hk]
      congr 3
      funext j'
      unfold up2
      rw [if_neg (fun e' => e e'.1)]
end Go.Proofs.Ytoipleipokpnaaa.Code
end
section
namespace Go.Proofs.Ytoipleipokpnaaa.Code
open Go Go.Ab
variable {pure : Bool} {base bar : Nat} {H : Heap} {Q : AV → Heap → Prop} {K : AV → Heap → List Nat → Prop}
theorem dc_set' {n i : Nat} {x : Int} {D : Nat → Int} (hi : i < n) : (dc n D).set i (.int .i64 x) = dc n (updZ D i x) := dc_set hi
abbrev cRow (M : Mat) (i : Nat) : Nat → Int := fun j => ((M i j : Nat) : Int)
theorem l37c {n p : Nat} {vs : Nat → Nat} {q : AV} {l : List ZZ} {A : Heap} (hq : isP q l) (hl : l.length < 1000) (hn : n ≤ 9) (hv : ∀ p ∈ l, okP n p) (hb : bar ≤ p) (hbase : base ≤ p) {R : PQ} : ∀ (k i : Nat), i + k = l.length → ∀ (M : Mat) (H : Heap), MX n p vs M A H →
    (∀ H', MX n p vs ((l.drop i).foldl tieM M) A H' → R (.exit 4) [(3, .vec p 0 0 n 1), (41, q), (42, .int .i64 (l.length : Nat)), (43, .int .i64 (l.length : Nat)), (44, .bool false)] H') →
    Wp E base bar (.loop c37_l2) [(3, .vec p 0 0 n 1), (41, q), (42, .int .i64 (l.length : Nat)), (43, .int .i64 (i : Nat))] H R := by
  intro k
  induction k with
  | zero =>
    intro i hi M H hX h
    obtain rfl : i = l.length := by omega
    rw [List.drop_length] at h
    rw [wp_round c37_l2.eq_1]
    simp [go_sem]
    exact h H hX
  | succ k ih =>
    intro i hi M H hX h
    have hlt : i < l.length := by omega
    rw [List.drop_eq_getElem_cons hlt, List.foldl_cons] at h
    have hvi := hv _ (List.getElem_mem hlt)
    have hix := fun (H : Heap) (K : AV → Heap → List Nat → Prop) => hq.ix (H := H) (K := K) (k := .i64) hlt
    obtain ⟨⟨x, y⟩, hp⟩ : ∃ p, l[i] = p := ⟨_, rfl⟩
    rw [hp] at hvi h
    simp only [hp, zc] at hix
    obtain ⟨q1, q2, q3, q4, q5⟩ := hvi
    simp only at q1 q2 q3 q4 q5
    obtain ⟨x, rfl⟩ := Int.eq_ofNat_of_zero_le q1
    obtain ⟨y, rfl⟩ := Int.eq_ofNat_of_zero_le q2
    have hx : x < n := by omega
    have hy : y < n := by omega
    have hxy : x ≠ y := by omega
    have hM1 := MX.set (v := 1) (j := y) hX hx
    have hM2 := MX.set (v := 1) (j := x) hM1 hy
    have hnext := ih (i + 1) (by omega) _ _ hM2 h
    have hXl := hX.len
    have g0 : ∀ G : Blk, (H ++ [G])[p]? = some (.row 0 (topR n fun i => .vec (p + 1 + i) (vs i) 0 n 1) 0 true) := fun G => by rw [List.getElem?_append_left (by omega)]; exact hX.top
    have g1 : ∀ (G : Blk), (H ++ [G])[p + 1 + x]? = some (.row (vs x) (dc n (cRow M x)) 0 false) := fun G => by rw [List.getElem?_append_left (by omega)]; exact hX.row x hx
    have s1 : ∀ (b G : Blk), (H ++ [G]).set (p + 1 + x) b = H.set (p + 1 + x) b ++ [G] := fun b G => by rw [List.set_append_left _ _ (by omega)]
    have g2 : ∀ (b G : Blk), (H.set (p + 1 + x) b ++ [G])[p + 1 + y]? = some (.row (vs y) (dc n (cRow M y)) 0 false) := fun b G => by
      rw [List.getElem?_append_left (by rw [List.length_set]; omega), List.getElem?_set_ne (by omega)]; exact hX.row y hy
    have g3 : ∀ (b G : Blk), (H.set (p + 1 + x) b ++ [G])[H.length]? = some G := fun b G => by
      rw [List.getElem?_append_right (by simp)]; simp
    have s2 : ∀ (b c G : Blk), (H.set (p + 1 + x) b ++ [G]).set (p + 1 + y) c = (H.set (p + 1 + x) b).set (p + 1 + y) c ++ [G] := fun b c G => by rw [List.set_append_left _ _ (by rw [List.length_set]; omega)]
    have s3 : ∀ (b c G : Blk), ((H.set (p + 1 + x) b).set (p + 1 + y) c ++ [G]).take H.length = (H.set (p + 1 + x) b).set (p + 1 + y) c := fun b c G => by
      rw [List.take_append_of_le_length (by simp), List.take_of_length_le (by simp)]
    have hqt := hq.top
    rw [wp_round c37_l2.eq_1]
    have c1 : y + 1 ≤ n := hy
    have c2 : x + 1 ≤ n := hx
    have c3 : bar ≤ p + 1 + x := by omega
    have c4 : bar ≤ p + 1 + y := by omega
    have c5 : ¬ H.length = p + 1 + x := by omega
    have c6 : max (p + 1) q.top ≤ H.length := by rw [hqt]; omega
    have d1 : ∀ (D : Nat → Int) (z : Int), (dc n D).set y (.int .i64 z) = dc n (updZ D y z) := fun D z => dc_set' hy
    have d2 : ∀ (D : Nat → Int) (z : Int), (dc n D).set x (.int .i64 z) = dc n (updZ D x z) := fun D z => dc_set' hx
    have hM1r : (up2 M x y 1) y = M y := by
      funext j; unfold up2; rw [if_neg (fun e => hxy e.1.symm)]
    rw [hM1r] at hnext
    simp [go_sem, hlt, hix, aload, setCells, AV.cells, storeWp, astore, AV.isTup, show bar ≤ H.length by omega, Ab.part, g0, g1, topR_len, topR_getE, hx, hy]
    simp [dc_len, c1, c2, c3, c4, d1, d2, s1, g2, s2, c5, c6, s3, i64_suc (show i < 1000000 by omega)]
    exact hnext
end Go.Proofs.Ytoipleipokpnaaa.Code
end
section
namespace Go.Proofs.Ytoipleipokpnaaa.Code
open Go Go.Ab
variable {pure : Bool} {base bar : Nat} {H : Heap} {Q : AV → Heap → Prop} {K : AV → Heap → List Nat → Prop}
def Le100 (M : Mat) : Prop := ∀ i j, M i j ≤ 100
theorem Le100.step {M : Mat} {k a b : Nat} (h : Le100 M) : Le100 (fwS k a M b) := fun i j => Nat.le_trans fwS_le (h i j)
theorem min_castG {m d : Nat} : (if d < m then (d : Int) else (m : Int)) = ((min m d : Nat) : Int) := by split <;> omega
theorem l37d {n p k0 a : Nat} {vs : Nat → Nat} {v66 v71 : AV} {A : Heap} (hn : n ≤ 9) (hk : k0 < n) (ha : a < n) (hb : bar ≤ p) (hbase : base ≤ p) {R : PQ} : ∀ (k b : Nat), b + k = n → ∀ (M : Mat) (H : Heap), Le100 M → MX n p vs M A H →
    (∀ H', MX n p vs ((List.range' b k).foldl (fwS k0 a) M) A H' → Le100 ((List.range' b k).foldl (fwS k0 a) M) → R (.exit 10) [(3, .vec p 0 0 n 1), (65, .int .i64 (n : Nat)), (66, v66), (9, .int .i64 (k0 : Nat)), (70, .int .i64 (n : Nat)), (71, v71), (10, .int .i64 (a : Nat)), (75, .int .i64 (n : Nat)), (76, .int .i64 (n : Nat)), (77, .bool false)] H') →
    Wp E base bar (.loop c37_l3) [(3, .vec p 0 0 n 1), (65, .int .i64 (n : Nat)), (66, v66), (9, .int .i64 (k0 : Nat)), (70, .int .i64 (n : Nat)), (71, v71), (10, .int .i64 (a : Nat)), (75, .int .i64 (n : Nat)), (76, .int .i64 (b : Nat))] H R := by
  intro k
  induction k with
  | zero =>
    intro b hb' M H hL hX h
    obtain rfl : b = n := by omega
    rw [List.range'_zero] at h
    rw [wp_round c37_l3.eq_1]
    simp [go_sem]
    exact h H hX hL
  | succ k ih =>
    intro b hb' M H hL hX h
    have hlt : b < n := by omega
    rw [List.range'_succ, List.foldl_cons] at h
    have hM1 := MX.set (v := min (M a b) (M a k0 + M k0 b)) (j := b) hX ha
    have hnext := ih (b + 1) (by omega) _ _ (hL.step (k := k0) (a := a) (b := b)) hM1 h
    have hXl := hX.len
    have g0 := hX.top
    have ga := hX.row a ha
    have gk := hX.row k0 hk
    have e1 := hL a k0
    have e2 := hL k0 b
    have e3 := hL a b
    have hw : IntKind.i64.wrap (((M a k0 : Nat) : Int) + ((M k0 b : Nat) : Int)) = ((M a k0 + M k0 b : Nat) : Int) := by rw [Go.IntWalk.i64_in _ (by omega)]; rfl
    have c1 : b + 1 ≤ n := hlt
    have c3 : bar ≤ p + 1 + a := by omega
    have c4 : base ≤ p + 1 + a := by omega
    have d1 : ∀ (D : Nat → Int) (z : Int), (dc n D).set b (.int .i64 z) = dc n (updZ D b z) := fun D z => dc_set' hlt
    have hM1' := hnext
    generalize M a k0 + M k0 b = S at *
    rw [wp_round c37_l3.eq_1]
    simp [go_sem, hlt, aload, g0, ga, gk, topR_len, topR_getE, dc_len, dc_getE, ha, hk, Ab.part]
    simp [go_sem, aop, Opd.ev, hw, min_castG]
    generalize min (M a b) S = z at *
    refine ⟨hlt, ?_⟩
    simp [go_sem, storeWp, astore, ga, AV.isTup, AV.cells, dc_len, c1, c3, c4, d1, i64_suc (show b < 1000000 by omega)]
    exact hM1'
/-- one knot for all -/
theorem l37e {n p k0 : Nat} {vs : Nat → Nat} {v66 : AV} {A : Heap} (hn : n ≤ 9) (hk : k0 < n) (hb : bar ≤ p) (hbase : base ≤ p) {R : PQ} : ∀ (k a : Nat), a + k = n → ∀ (M : Mat) (H : Heap), Le100 M → MX n p vs M A H →
    (∀ H', MX n p vs ((List.range' a k).foldl (fwA n k0) M) A H' → Le100 ((List.range' a k).foldl (fwA n k0) M) → R (.exit 8) [(3, .vec p 0 0 n 1), (65, .int .i64 (n : Nat)), (66, v66), (9, .int .i64 (k0 : Nat)), (70, .int .i64 (n : Nat)), (71, .int .i64 (n : Nat)), (72, .bool false)] H') →
    Wp E base bar (.loop c37_l4) [(3, .vec p 0 0 n 1), (65, .int .i64 (n : Nat)), (66, v66), (9, .int .i64 (k0 : Nat)), (70, .int .i64 (n : Nat)), (71, .int .i64 (a : Nat))] H R := by
  intro k
  induction k with
  | zero =>
    intro a ha M H hL hX h
    obtain rfl : a = n := by omega
    rw [List.range'_zero] at h
    rw [wp_round c37_l4.eq_1]
    simp [go_sem]
    exact h H hX hL
  | succ k ih =>
    intro a ha M H hL hX h
    have hlt : a < n := by omega
    rw [List.range'_succ, List.foldl_cons] at h
    have er : List.range' 0 n = List.range n := List.range_eq_range'.symm
    have ld := fun {R : PQ} {v71 : AV} hR => l37d (R := R) (base := base) (bar := bar) (k0 := k0) (v66 := v66) (v71 := v71) hn hk hlt hb hbase n 0 (by omega) M H hL hX hR
    rw [er] at ld
    rw [wp_round c37_l4.eq_1]
    simp [go_sem, hlt]
    refine ld fun H' hX' hL' => ?_
    have hnext := ih (a + 1) (by omega) _ H' hL' hX' h
    simp [go_sem, i64_suc (show a < 1000000 by omega)]
    exact hnext
theorem l37f {n p : Nat} {vs : Nat → Nat} {A : Heap} (hn : n ≤ 9) (hb : bar ≤ p) (hbase : base ≤ p) {R : PQ} : ∀ (k a : Nat), a + k = n → ∀ (M : Mat) (H : Heap), Le100 M → MX n p vs M A H →
    (∀ H', MX n p vs ((List.range' a k).foldl (fwK n) M) A H' → R (.exit 6) [(3, .vec p 0 0 n 1), (65, .int .i64 (n : Nat)), (66, .int .i64 (n : Nat)), (67, .bool false)] H') →
    Wp E base bar (.loop c37_l5) [(3, .vec p 0 0 n 1), (65, .int .i64 (n : Nat)), (66, .int .i64 (a : Nat))] H R := by
  intro k
  induction k with
  | zero =>
    intro a ha M H hL hX h
    obtain rfl : a = n := by omega
    rw [List.range'_zero] at h
    rw [wp_round c37_l5.eq_1]
    simp [go_sem]
    exact h H hX
  | succ k ih =>
    intro a ha M H hL hX h
    have hlt : a < n := by omega
    rw [List.range'_succ, List.foldl_cons] at h
    have er : List.range' 0 n = List.range n := List.range_eq_range'.symm
    have ld := fun {R : PQ} {v66 : AV} hR => l37e (R := R) (base := base) (bar := bar) (k0 := a) (v66 := v66) hn hlt hb hbase n 0 (by omega) M H hL hX hR
    rw [er] at ld
    rw [wp_round c37_l5.eq_1]
    simp [go_sem, hlt]
    refine ld fun H' hX' hL' => ?_
    have hnext := ih (a + 1) (by omega) _ H' hL' hX' h
    simp [go_sem, i64_suc (show a < 1000000 by omega)]
    exact hnext
/-- the square is frozen -/
theorem frz_rows {n p d : Nat} {vs : Nat → Nat} {M : Mat} (hb : bar ≤ p) : ∀ (L : List Nat) (H : Heap), (∀ i ∈ L, ∃ fz, H[p + 1 + i]? = some (.row (vs i) (dc n (cRow M i)) fz false)) → p < H.length →
    ∃ H', frzsW (Go.Ab.frz (d + 3) bar) H (L.map fun i => .vec (p + 1 + i) (vs i) 0 n 1) = some (L.map fun i => .lst 1 false (dc n (cRow M i)), H') ∧ H'.length = H.length ∧ ∀ j, j ≤ p → H'[j]? = H[j]?
  | [], H, _, _ => ⟨H, rfl, rfl, fun _ _ => rfl⟩
  | a :: L, H, h, hp => by
    obtain ⟨fz, ha⟩ := h a (List.mem_cons_self ..)
    have e1 := frz_vec (d := d + 2) (bar := bar) (H := H) (id := p + 1 + a) (ver := vs a) (off := 0) (len := n) (sz := 1) (cs := dc n (cRow M a)) (fz := fz) (ex := false) (xs := dc n (cRow M a)) (H' := H.set (p + 1 + a) (.row (vs a) (dc n (cRow M a)) (max fz (0 + n)) false)) ha (by simp [dc_len]) (by omega) (by
      have e1 : ((dc n (cRow M a)).drop 0).take (n * 1) = dc n (cRow M a) := by
        rw [List.drop_zero, Nat.mul_one, List.take_of_length_le (by rw [dc_len]; exact Nat.le_refl _)]
      rw [e1, plains dc_plain, Nat.mul_one])
    have e2 : chunks 1 n (dc n (cRow M a)) = dc n (cRow M a) := by have := chunks_one (l := dc n (cRow M a)); rwa [dc_len] at this
    rw [e2] at e1
    have hal := (List.getElem?_eq_some_iff.1 ha).1
    obtain ⟨H', f1, f2, f3⟩ := frz_rows (d := d) hb L (H.set (p + 1 + a) (.row (vs a) (dc n (cRow M a)) (max fz (0 + n)) false)) (fun i hi => by
      by_cases e : i = a
      · subst e; exact ⟨_, List.getElem?_set_self hal⟩
      · obtain ⟨fz', hi'⟩ := h i (List.mem_cons_of_mem _ hi)
        exact ⟨fz', by rw [List.getElem?_set_ne (by omega)]; exact hi'⟩) (by simpa using hp)
    refine ⟨H', ?_, by rw [f2, List.length_set], fun j hj => by rw [f3 j hj, List.getElem?_set_ne (by omega)]⟩
    rw [List.map_cons, frzsW, e1]
    simp only [f1]
    rfl
end Go.Proofs.Ytoipleipokpnaaa.Code
end
section
namespace Go.Proofs.Ytoipleipokpnaaa.Code
open Go Go.Ab
variable {pure : Bool} {base bar : Nat} {H : Heap} {Q : AV → Heap → Prop} {K : AV → Heap → List Nat → Prop}
/-- a square that can be read -/
def isSq (v : AV) (n : Nat) (M : Mat) : Prop := v = .lst 1 false ((List.range n).map fun i => .lst 1 false (dc n (cRow M i)))
theorem isSq.len {v : AV} {n : Nat} {M : Mat} (h : isSq v n M) : lenWp (some v) H K = K (.int .i64 (n : Int)) H [] := by
  subst h; rw [lenWp_lst]; simp
theorem isSq.frz {v : AV} {n : Nat} {M : Mat} (h : isSq v n M) {d : Nat} : Go.Ab.frz (d + 1) bar H v = some (v, H) := by subst h; rfl
theorem isSq.top {v : AV} {n : Nat} {M : Mat} (h : isSq v n M) : v.top = 0 := by
  subst h
  rw [top_lst]
  exact tops_zero fun x hx => by
    obtain ⟨i, _, rfl⟩ := List.mem_map.1 hx
    rw [top_lst]; exact dc_tops
theorem isSq.isTup {v : AV} {n : Nat} {M : Mat} (h : isSq v n M) : v.isTup = false := by subst h; rfl
theorem isSq.cells {v : AV} {n : Nat} {M : Mat} (h : isSq v n M) : v.cells = [v] := by subst h; rfl
theorem isSq.ix {v : AV} {n : Nat} {M : Mat} (h : isSq v n M) {i : Nat} {k : IntKind} (hi : i < n) : ixaSWp 1 (some v) (some (.int k (i : Int))) H K = K (.fp (.lst 1 false (dc n (cRow M i)))) H [] := by
  subst h
  rw [ixaSWp_lst]
  simp [hi, valWp_some]
theorem start_le : ∀ {l : List ZZ} {M : Mat}, Le100 M → Le100 (l.foldl tieM M)
  | [], _, h => h
  | p :: r, M, h => by
    rw [List.foldl_cons]
    refine start_le fun i j => ?_
    unfold tieM up2
    split
    · omega
    · split
      · omega
      · exact h i j
/-- far -/
theorem k37 {n : Nat} {q : AV} {l : List ZZ} (hq : isP q l) (hl : l.length < 1000) (hn : n ≤ 9) (h1 : 1 ≤ n) (hv : ∀ p ∈ l, okP n p) (hbar : bar ≤ H.length)
    (h : ∀ u, isSq u n (farF n l) → Q u H) : WpCall E pure base bar 37 [.agg [.int .i64 (n : Nat), q]] H Q := by
  rw [call37]
  have e0 : frzAll bar H [.agg [.int .i64 (n : Nat), q]] = some ([.agg [.int .i64 (n : Nat), q]], H) := by simp [frzAll, frz.frzs, frzsW, frz_agg, frz_int, hq.frz]
  rw [e0]
  have hb' : (if pure = true then H.length else bar) ≤ H.length := bar_if hbar
  have hz : List.flatten (List.replicate n [AV.nils]) = topR n fun _ => .nils := by
    simp [topR, List.flatten_replicate_singleton, List.map_const']
  have hbd : n * 24 ≤ 140737488355328 := by omega
  have hMB : MB n (H.length + 1) 0 (fun _ => 0) start0 (H ++ [.row 0 [.int .i64 (n : Nat), q] 0 true]) (H ++ [.row 0 [.int .i64 (n : Nat), q] 0 true, .row 0 (topR n fun _ => .nils) 0 true]) := by
    refine ⟨by simp, by simp, fun j hj => ?_, by simp, fun i hi => by omega⟩
    rw [show H ++ [Blk.row 0 [.int .i64 (n : Nat), q] 0 true, .row 0 (topR n fun _ => .nils) 0 true] = (H ++ [Blk.row 0 [.int .i64 (n : Nat), q] 0 true]) ++ [.row 0 (topR n fun _ => .nils) 0 true] by simp]
    rw [List.getElem?_append_left (by simp; omega)]
  have hL0 : Le100 start0 := fun i j => by unfold start0; split <;> omega
  have lb := fun {R : PQ} hb hbase hR => l37b (R := R) (base := H.length) (bar := if pure = true then H.length else bar) (p := H.length) (v1 := .ptr H.length 0 0) (q := q) (A := H ++ [.row 0 [.int .i64 (n : Nat), q] 0 true]) hn h1 rfl (by simp) (by simp) hb hbase n 0 (by omega) (fun _ => 0) _ hMB hR
  simp [go_sem, WpFun, c37, hq.isTup, hq.cells, aload, AV.isTup, AV.cells, Ab.part, aop, AV.asNat, hz, hbd]
  refine lb (by omega) (by omega) fun vs H1 hX => ?_
  have hp1 : H1[H.length]? = some (.row 0 [.int .i64 (n : Nat), q] 0 true) := by rw [hX.low H.length (by omega)]; simp
  have lc := fun {R : PQ} hb hbase hR => l37c (R := R) (base := H.length) (bar := if pure = true then H.length else bar) (p := H.length + 1) (vs := vs) hq hl hn hv hb hbase l.length 0 (by omega) start0 H1 hX hR
  rw [List.drop_zero] at lc
  simp [go_sem, aload, hp1, Ab.part, hq.len]
  refine lc (by omega) (by omega) fun H2 hX2 => ?_
  have lff := fun {R : PQ} hb hbase hR => l37f (R := R) (base := H.length) (bar := if pure = true then H.length else bar) (p := H.length + 1) (vs := vs) hn hb hbase n 0 (by omega) _ H2 (start_le hL0) hX2 hR
  rw [← List.range_eq_range'] at lff
  simp [go_sem]
  refine lff (by omega) (by omega) fun H3 hX3 => ?_
  have eF : (List.range n).foldl (fwK n) (l.foldl tieM start0) = farF n l := rfl
  rw [eF] at hX3
  have hlen := hX3.len
  obtain ⟨H4, r1, r2, r3⟩ := frz_rows (bar := if pure = true then H.length else bar) (p := H.length + 1) (d := 4) (n := n) (vs := vs) (M := farF n l) (by omega) (List.range n) (H3.set (H.length + 1) (.row 0 (topR n fun i => .vec (H.length + 1 + 1 + i) (vs i) 0 n 1) (max 0 (0 + n * 1)) true)) (fun i hi => by
    refine ⟨0, ?_⟩
    rw [List.getElem?_set_ne (by omega)]
    exact hX3.row i (List.mem_range.1 hi)) (by rw [List.length_set]; omega)
  have e1 := frz_vec (d := 7) (bar := if pure = true then H.length else bar) (H := H3) (id := H.length + 1) (ver := 0) (off := 0) (len := n) (sz := 1) (cs := topR n fun i => .vec (H.length + 1 + 1 + i) (vs i) 0 n 1) (fz := 0) (ex := true) (xs := (List.range n).map fun i => .lst 1 false (dc n (cRow (farF n l) i))) (H' := H4) hX3.top (by simp [topR_len]) (by omega) (by
    rw [List.drop_zero, Nat.mul_one, List.take_of_length_le (by rw [topR_len]; exact Nat.le_refl _), ← Nat.mul_one n]
    simpa [topR] using r1)
  have e2 : chunks 1 n ((List.range n).map fun i => AV.lst 1 false (dc n (cRow (farF n l) i))) = (List.range n).map fun i => AV.lst 1 false (dc n (cRow (farF n l) i)) := by
    have := chunks_one (l := (List.range n).map fun i => AV.lst 1 false (dc n (cRow (farF n l) i)))
    simpa using this
  rw [e2] at e1
  have hu : isSq (.lst 1 false ((List.range n).map fun i => .lst 1 false (dc n (cRow (farF n l) i)))) n (farF n l) := rfl
  have e3 : H4.take H.length = H := take_same (by rw [r2, List.length_set]; omega) fun j hj => by
    rw [r3 j (by omega), List.getElem?_set_ne (by omega), hX3.low j (by omega), List.getElem?_append_left hj]
  have hk := h _ hu
  simp [go_sem, e1, hu.top, tops_cons, tops_nil, e3]
  exact hk
end Go.Proofs.Ytoipleipokpnaaa.Code
end
section
namespace Go.Proofs.Ytoipleipokpnaaa.Code
open Go Go.Ab
variable {pure : Bool} {base bar : Nat} {H : Heap} {Q : AV → Heap → Prop} {K : AV → Heap → List Nat → Prop}
/-! the greatest number of a list -/
theorem l38x {v : AV} {L : List Nat} (hL : isL v L) (hl : L.length < 1000) {R : PQ} : ∀ (k i : Nat), i + k = L.length → ∀ m : Nat, m ∈ L → (∀ x ∈ L.take i, x ≤ m) →
    (∀ m', m' ∈ L → (∀ x ∈ L, x ≤ m') → R (.exit 0) [(0, v), (3, .int .i64 (m' : Nat)), (4, .int .i64 (L.length : Nat)), (15, .bool false)] H) →
    Wp E base bar (.loop c38_l0) [(0, v), (3, .int .i64 (m : Nat)), (4, .int .i64 (i : Nat))] H R := by
  have llen := fun (H : Heap) (K : AV → Heap → List Nat → Prop) => hL.len (H := H) (K := K)
  intro k
  induction k with
  | zero =>
    intro i hi m hm hall h
    obtain rfl : i = L.length := by omega
    rw [List.take_length] at hall
    rw [wp_round c38_l0.eq_1]
    simp [go_sem, llen]
    exact h m hm hall
  | succ k ih =>
    intro i hi m hm hall h
    have hlt : i < L.length := by omega
    have hmem := List.getElem_mem hlt
    have htk : L.take (i + 1) = L.take i ++ [L[i]] := by rw [List.take_add_one, List.getElem?_eq_getElem hlt]; rfl
    have hix := fun (H : Heap) (K : AV → Heap → List Nat → Prop) (k : IntKind) => hL.ix (H := H) (K := K) (k := k) hlt
    have hnext := ih (i + 1) (by omega)
    rw [htk] at hnext
    generalize L[i] = x at *
    rw [wp_round c38_l0.eq_1]
    by_cases hx : m < x
    · have hx' : (m : Int) < (x : Int) := by omega
      simp [go_sem, llen, hlt, hix, aload, aop, Opd.evo, hx, hx', i64_suc (show i < 1000000 by omega)]
      refine hnext x hmem (fun y hy => ?_) h
      rcases List.mem_append.1 hy with hy | hy
      · have := hall y hy; omega
      · rw [List.mem_singleton] at hy; omega
    · have hx' : ¬ (m : Int) < (x : Int) := by omega
      simp [go_sem, llen, hlt, hix, aload, aop, Opd.evo, hx, hx', i64_suc (show i < 1000000 by omega)]
      refine hnext m hm (fun y hy => ?_) h
      rcases List.mem_append.1 hy with hy | hy
      · exact hall y hy
      · rw [List.mem_singleton] at hy; omega
theorem k38x {v : AV} {L : List Nat} (hL : isL v L) (hl : L.length < 1000) (h1 : 1 ≤ L.length) (h : ∀ m, m ∈ L → (∀ x ∈ L, x ≤ m) → Q (.int .i64 (m : Nat)) H) : WpCall E pure base bar 38 [v] H Q := by
  rw [call38]
  have e0 : frzAll bar H [v] = some ([v], H) := by simp [frzAll, frz.frzs, frzsW, hL.frz]
  rw [e0]
  obtain ⟨c, r, rfl⟩ : ∃ c r, L = c :: r := by
    cases L with
    | nil => simp at h1
    | cons c r => exact ⟨c, r, rfl⟩
  have hlen : ¬ ((c :: r).length : Int) < 1 := by rw [List.length_cons]; omega
  have llen := fun (H : Heap) (K : AV → Heap → List Nat → Prop) => hL.len (H := H) (K := K)
  have hix := fun (H : Heap) (K : AV → Heap → List Nat → Prop) (k : IntKind) => hL.ix0 (H := H) (K := K) (k := k)
  have hmain := fun {R : PQ} hr => l38x (H := H) (base := H.length) (bar := if pure = true then H.length else bar) (R := R) hL hl ((c :: r).length - 1) 1 (by rw [List.length_cons]; omega) c (List.mem_cons_self ..) (fun x hx => by simp at hx; omega) hr
  generalize (c :: r).length = len at *
  simp [go_sem, WpFun, c38, llen, hlen, hix, aload]
  refine hmain fun m' hm' hall => ?_
  have hk := h m' hm' hall
  simp [go_sem]
  exact hk
/-! a set as a map -/
def mks (ks : List Nat) : List (AV × AV) := ks.map fun (k : Nat) => (AV.int .i64 (k : Int), AV.bool true)
def addS (ks : List Nat) (k : Nat) : List Nat := if ks.contains k then ks else ks ++ [k]
theorem mfind_mks {k : Nat} : ∀ {ks : List Nat} {i : Nat}, mfind .i64 (k : Int) (mks ks) i = if ks.contains k then some (some (i + ks.idxOf k, .bool true)) else some none
  | [], i => rfl
  | x :: r, i => by
    simp only [mks, List.map_cons, mfind, if_true]
    by_cases h : k = x
    · subst h; simp
    · have hne : ¬ ((k : Int) = (x : Int)) := by omega
      have ih := mfind_mks (k := k) (ks := r) (i := i + 1)
      rw [if_neg hne]
      rw [show (List.map (fun (k : Nat) => (AV.int .i64 (k : Int), AV.bool true)) r) = mks r from rfl, ih]
      have hb : (x == k) = false := by simpa using fun h' => h h'.symm
      have hb' : (k == x) = false := by simpa using h
      have e1 : (x :: r).contains k = r.contains k := by rw [List.contains_cons, hb', Bool.false_or]
      have e2 : (x :: r).idxOf k = r.idxOf k + 1 := by simp [List.idxOf_cons, hb]
      rw [e1, e2, show i + 1 + r.idxOf k = i + (r.idxOf k + 1) by omega]
theorem mks_set {k : Nat} : ∀ {ks : List Nat}, ks.contains k = true → (mks ks).set (ks.idxOf k) (AV.int .i64 (k : Int), AV.bool true) = mks ks
  | [], h => by simp at h
  | x :: r, h => by
    by_cases hx : x = k
    · subst hx; simp [mks]
    · have hb : (x == k) = false := by simpa using hx
      have hr : r.contains k = true := by
        simp only [List.contains_cons, Bool.or_eq_true, beq_iff_eq] at h
        rcases h with h | h
        · exact (hx h.symm).elim
        · simpa using h
      have := mks_set hr
      simp only [List.idxOf_cons, hb, cond_false, mks, List.map_cons, List.set_cons_succ] at this ⊢
      rw [this]
theorem mupd_mks {base bar id : Nat} {H : Heap} {fr : Ab.Frame} {m k v : Opd} {ks : List Nat} {x : Nat} (hm : m.ev fr = some (.mp id)) (hk : k.ev fr = some (.int .i64 (x : Int))) (hv : v.ev fr = some (.bool true)) (hb : bar ≤ id) (hH : H[id]? = some (.map (mks ks))) :
    aop base bar (.mupd m k v) fr H = some (.tup [], H.set id (.map (mks (addS ks x))), [id]) := by
  simp only [aop, hm, hk, hv, hH, mfind_mks]
  have hnv : ¬ ¬ (AV.top (.bool true) = 0 ∧ AV.isTup (.bool true) = false ∧ bar ≤ id) := by simp [hb, AV.top, AV.isTup]
  rw [if_neg hnv]
  cases hc : ks.contains x
  · have e : addS ks x = ks ++ [x] := by unfold addS; rw [hc]; rfl
    rw [e]; simp [mks]
  · have e : addS ks x = ks := by unfold addS; rw [hc]; rfl
    rw [e]
    simp only [if_true, Nat.zero_add]
    rw [mks_set hc]
theorem mupd_wp {base bar id : Nat} {H : Heap} {fr : Ab.Frame} {m k v : Opd} {ks : List Nat} {x : Nat} {K : AV → Heap → List Nat → Prop} (hm : m.ev fr = some (.mp id)) (hk : k.ev fr = some (.int .i64 (x : Int))) (hv : v.ev fr = some (.bool true)) (hb : bar ≤ id) (hH : H[id]? = some (.map (mks ks)))
    (h : K (.tup []) (H.set id (.map (mks (addS ks x)))) [id]) : opWp (aop base bar (.mupd m k v) fr H) K := by
  rw [mupd_mks hm hk hv hb hH]
  exact h
theorem mlook_wp {base bar id : Nat} {H : Heap} {fr : Ab.Frame} {m k : Opd} {ks : List Nat} {x : Nat} {K : AV → Heap → List Nat → Prop} (hm : m.ev fr = some (.mp id)) (hk : k.ev fr = some (.int .i64 (x : Int))) (hH : H[id]? = some (.map (mks ks)))
    (h : K (.bool (ks.contains x)) H []) : opWp (aop base bar (.mlook (.bool false) false m k) fr H) K := by
  have e : aop base bar (.mlook (.bool false) false m k) fr H = some (.bool (ks.contains x), H, []) := by
    simp only [aop, hm, hk, hH, mfind_mks]
    cases ks.contains x <;> rfl
  rw [e]
  exact h
end Go.Proofs.Ytoipleipokpnaaa.Code
end
section
namespace Go.Proofs.Ytoipleipokpnaaa.Code
open Go Go.Ab
variable {pure : Bool} {base bar : Nat} {H : Heap} {Q : AV → Heap → Prop} {K : AV → Heap → List Nat → Prop}
end Go.Proofs.Ytoipleipokpnaaa.Code
end
section
namespace Go.Proofs.Ytoipleipokpnaaa.Code
open Go Go.Ab
variable {pure : Bool} {base bar : Nat} {H : Heap} {Q : AV → Heap → Prop} {K : AV → Heap → List Nat → Prop}
end Go.Proofs.Ytoipleipokpnaaa.Code
end
section
namespace Go.Proofs.Ytoipleipokpnaaa.Code
open Go Go.Ab
variable {pure : Bool} {base bar : Nat} {H : Heap} {Q : AV → Heap → Prop} {K : AV → Heap → List Nat → Prop}
end Go.Proofs.Ytoipleipokpnaaa.Code
end
section
namespace Go.Proofs.Ytoipleipokpnaaa.Code
open Go Go.Ab
theorem tw_n {f : Nat → Nat} {n : Nat} (h1 : 1 ≤ n) : (twT f n).length + 1 = n := by simp [twT]; omega
end Go.Proofs.Ytoipleipokpnaaa.Code
end
section
namespace Go.Proofs.Ytoipleipokpnaaa.Code
open Go Go.Ab
variable {pure : Bool} {base bar : Nat} {H : Heap} {Q : AV → Heap → Prop} {K : AV → Heap → List Nat → Prop}
/-! Reach: ring by ring -/
structure Bal (n : Nat) (D : Nat → Nat → Nat) (k r all : Nat) : Prop where
  lt : all < 512
  mem : ∀ x, all.testBit x = true ↔ x < n ∧ D k x ≤ r
theorem Bal.start {n k : Nat} {f : Nat → Nat → Bool} {D : Nat → Nat → Nat} (hT : TM (fun x => x < n) f D) (hn : n ≤ 9) (hk : k < n) : Bal n D k 0 (pw k) :=
  ⟨pw9 (by omega), fun x => by
    rw [testBit_pw, decide_eq_true_iff]
    constructor
    · rintro rfl; exact ⟨hk, by rw [hT.zero hk]; omega⟩
    · rintro ⟨h1, h2⟩; exact hT.eq hk h1 (by omega)⟩
theorem Bal.step {n k r all : Nat} {l : List ZZ} {w : Nat → Nat} {D : Nat → Nat → Nat} (hT : TM (fun x => x < n) (tieB l) D) (hw : Wd n l w) (hk : k < n) (h : Bal n D k r all) : Bal n D k (r + 1) (nextF w (bitsN all) all) :=
  ⟨nextF_lt hw.lt h.lt, fun x => by
    rw [nextF_bit, h.mem]
    constructor
    · rintro (⟨h1, h2⟩ | ⟨a, h1, h2⟩)
      · exact ⟨h1, by omega⟩
      · rw [mem_bitsN h.lt, h.mem] at h1
        rw [hw.bit] at h2
        have := hT.step hk h2
        exact ⟨(hT.inV h2).2.1, by omega⟩
    · rintro ⟨h1, h2⟩
      by_cases e : D k x ≤ r
      · exact .inl ⟨h1, e⟩
      · right
        have hne : k ≠ x := fun e' => by subst e'; rw [hT.zero hk] at e; omega
        obtain ⟨b, b1, b2, _⟩ := hT.par hk h1 hne
        refine ⟨b, (mem_bitsN h.lt).2 ((h.mem b).2 ⟨(hT.inV b1).2.1, by omega⟩), ?_⟩
        rw [hw.bit]; exact hT.symF b1⟩
def rchF (n : Nat) (D : Nat → Nat → Nat) (k : Nat) : Nat := mx n (D k)
theorem Bal.full {n k r all : Nat} {D : Nat → Nat → Nat} (h : Bal n D k r all) : all = pw n - 1 ↔ rchF n D k ≤ r := by
  rw [full_iff fun x hx => ((h.mem x).1 hx).1]
  constructor
  · intro h1; exact mx_le fun x hx => ((h.mem x).1 (h1 x hx)).2
  · intro h1 x hx; exact (h.mem x).2 ⟨hx, Nat.le_trans (le_mx hx) h1⟩
theorem l131a {v1 v5 v12 v13 v7 lv : AV} {n : Nat} {w : Nat → Nat} {L : List Nat} (h : RW v1 n w H) (hn : n ≤ 9) (hw : ∀ i, w i < 512) (hl : isL lv L) (hL : ∀ a ∈ L, a < n) (hlen : L.length ≤ 9) {R : PQ} :
    ∀ (k i : Nat), i + k = L.length → ∀ s, s < 512 →
    R (.exit 4) [(1, v1), (5, v5), (12, v12), (13, v13), (7, v7), (8, .int .u16 (nextF w (L.drop i) s : Nat)), (27, lv), (28, .int .i64 (L.length : Nat)), (29, .int .i64 (L.length : Nat)), (30, .bool false)] H →
    Wp E base bar (.loop c131_l0) [(1, v1), (5, v5), (12, v12), (13, v13), (7, v7), (8, .int .u16 (s : Nat)), (27, lv), (28, .int .i64 (L.length : Nat)), (29, .int .i64 (i : Nat))] H R := by
  intro k
  induction k with
  | zero =>
    intro i hi s hs k
    obtain rfl : i = L.length := by omega
    rw [List.drop_length] at k
    rw [wp_round c131_l0.eq_1]
    simp [go_sem]
    exact k
  | succ k ih =>
    intro i hi s hs k
    have hlt : i < L.length := by omega
    have ha := hL _ (List.getElem_mem hlt)
    obtain ⟨p, p1, p2⟩ := h.ix ha
    have e1 := or_u16 hs (hw L[i])
    rw [List.drop_eq_getElem_cons hlt] at k
    rw [wp_round c131_l0.eq_1]
    simp [go_sem, hlt, hl.ix hlt, p1, p2, e1, i64_suc (show i < 1000000 by omega)]
    exact ih (i + 1) (by omega) _ (bor9 hs (hw _)) k
theorem l131b {v5 v13 : AV} {n k0 : Nat} {ex : Bool} {l : List ZZ} {w : Nat → Nat} {D : Nat → Nat → Nat} (hT : TM (fun x => x < n) (tieB l) D) (hw : Wd n l w) (hn : n ≤ 9) (hk : k0 < n) (hb : bar ≤ H.length) {R : PQ} :
    ∀ (m r : Nat), r + m = rchF n D k0 → ∀ all, Bal n D k0 r all → rchF n D k0 < 1000 →
    (∀ v, R (.exit 2) [(1, .lst 1 ex (wc n w)), (5, v5), (12, .int .i64 (n : Nat)), (13, v13), (7, .int .i64 (rchF n D k0 : Nat)), (8, v), (23, .bool false)] H) →
    Wp E base bar (.loop c131_l1) [(1, .lst 1 ex (wc n w)), (5, v5), (12, .int .i64 (n : Nat)), (13, v13), (7, .int .i64 (r : Nat)), (8, .int .u16 (all : Nat))] H R := by
  have e1 := shl_u16 (show n < 10 by omega)
  have e2 : IntKind.u16.wrap (((pw n : Nat) : Int) - 1) = ((pw n - 1 : Nat) : Int) := by
    have : pw n ≤ 512 := by
      have := Nat.pow_le_pow_right (n := 2) (by decide) hn
      unfold pw; omega
    have : 0 < pw n := by unfold pw; exact Nat.pow_pos (by decide)
    rw [Go.IntWalk.u16_in _ (by omega)]; omega
  intro m
  induction m with
  | zero =>
    intro r hr all hB h9 h
    obtain rfl : r = rchF n D k0 := by omega
    have hfull := hB.full.2 (Nat.le_refl _)
    rw [wp_round c131_l1.eq_1]
    simp [go_sem, wc_len, e1, e2, hfull]
    rw [← hfull]
    exact h _
  | succ m ih =>
    intro r hr all hB h9 h
    have hnf : ¬ all = pw n - 1 := fun e => by have := hB.full.1 e; omega
    have hnf' : ¬ (all : Int) = ((pw n - 1 : Nat) : Int) := by omega
    have hout : isL (outL 1 (nats (bitsN all))) (bitsN all) := isL.out
    have hL : ∀ a ∈ bitsN all, a < n := fun a ha => ((hB.mem a).1 ((mem_bitsN hB.lt).1 ha)).1
    have hnext := ih (r + 1) (by omega) _ (hB.step hT hw hk) h9 h
    have la := fun {R : PQ} hR => l131a (R := R) (base := base) (bar := bar) (H := H) (v1 := .lst 1 ex (wc n w)) (v5 := v5) (v12 := .int .i64 (n : Nat)) (v13 := v13) (v7 := .int .i64 (r : Nat)) RW.lst hn hw.lt hout hL bitsN_len (bitsN all).length 0 (by omega) all hB.lt hR
    rw [List.drop_zero] at la
    generalize pw n - 1 = P at *
    rw [wp_round c131_l1.eq_1]
    simp [go_sem, wc_len, e1, e2, hnf, hnf']
    refine k58 hB.lt hb ?_
    simp [go_sem, hout.len]
    refine la ?_
    simp [go_sem, i64_suc (show r < 1000000 by omega)]
    exact hnext
def rchL (n : Nat) (D : Nat → Nat → Nat) : List Nat := (List.range n).map (rchF n D)
theorem l131c {n : Nat} {ex : Bool} {l : List ZZ} {w : Nat → Nat} {D : Nat → Nat → Nat} {H0 : Heap} (hT : TM (fun x => x < n) (tieB l) D) (hw : Wd n l w) (hD : ∀ x y, x < n → y < n → D x y < n) (hn : n ≤ 9) (hb : bar ≤ H0.length) (hbase : base ≤ H0.length) {R : PQ} : ∀ (k i : Nat), i + k = n → ∀ (v : AV) (H : Heap), Grow 1 (nats ((List.range i).map (rchF n D))) H0 v H →
    (∀ v' H', Grow 1 (nats (rchL n D)) H0 v' H' → R (.exit 0) [(1, .lst 1 ex (wc n w)), (5, v'), (12, .int .i64 (n : Nat)), (13, .int .i64 (n : Nat)), (14, .bool false)] H') →
    Wp E base bar (.loop c131_l2) [(1, .lst 1 ex (wc n w)), (5, v), (12, .int .i64 (n : Nat)), (13, .int .i64 (i : Nat))] H R := by
  intro k
  induction k with
  | zero =>
    intro i hi v H gr h
    obtain rfl : i = n := by omega
    rw [wp_round c131_l2.eq_1]
    simp [go_sem]
    exact h v H gr
  | succ k ih =>
    intro i hi v H gr h
    have hlt : i < n := by omega
    have gl := gr.len
    have hnext := fun v H gr => ih (i + 1) (by omega) v H gr h
    rw [List.range_succ, List.map_append, List.map_cons, List.map_nil] at hnext
    have hr : rchF n D i ≤ n := mx_le fun x hx => by have := hD i x hlt hx; omega
    have e1 := shl_u16 (show i < 10 by omega)
    have lb := fun {R : PQ} {v5 v13 : AV} {base bar : Nat} hb hR => l131b (R := R) (base := base) (bar := bar) (H := H) (ex := ex) (v5 := v5) (v13 := v13) hT hw hn hlt hb (rchF n D i) 0 (by omega) _ (Bal.start hT hn hlt) (by omega) hR
    rw [wp_round c131_l2.eq_1]
    simp [go_sem, hlt, e1]
    refine lb (by omega) fun v8 => ?_
    simp [go_sem, aop, fillA, setCells, AV.cells, chunks]
    refine gr.nat hb hbase (by simp; omega) fun v' H' tc gr' => ?_
    simp [go_sem, i64_suc (show i < 1000000 by omega)]
    exact hnext v' H' gr'
theorem k131 {n : Nat} {ex : Bool} {l : List ZZ} {w : Nat → Nat} {D : Nat → Nat → Nat} (hT : TM (fun x => x < n) (tieB l) D) (hw : Wd n l w) (hD : ∀ x y, x < n → y < n → D x y < n) (hn : n ≤ 9) (hbar : bar ≤ H.length)
    (h : ∀ u, isL u (rchL n D) → Q (.ifc 28 u) H) : WpCall E pure base bar 131 [.agg [], .lst 1 ex (wc n w)] H Q := by
  rw [call131]
  have e0 : frzAll bar H [.agg [], .lst 1 ex (wc n w)] = some ([.agg [], .lst 1 ex (wc n w)], H) := rfl
  rw [e0]
  have hb' : (if pure = true then H.length else bar) ≤ H.length := bar_if hbar
  simp [go_sem, WpFun, c131, aload, AV.isTup, AV.cells, wc_len]
  refine l131c (H0 := H ++ [.row 0 [] 0 true]) hT hw hD hn (by rw [List.length_append]; omega) (by simp) n 0 (by omega) .nils _ (by simpa [nats] using Grow.nil) fun v' H' gr => ?_
  obtain ⟨H2, f1, f2, f3, f4⟩ := gr.frz (d := 5) (bar := if pure = true then H.length else bar) (by decide) (Nat.one_dvd _) nats_plain (by rw [List.length_append]; omega)
  have hu : isL (outL 1 (nats (rchL n D))) (rchL n D) := isL.out
  have hk := h _ hu
  have e3 : H2.take H.length = H := by
    have := congrArg (List.take H.length) f4
    rw [List.take_take] at this
    simp at this
    exact this
  simp [go_sem, aop, Opd.evo, (Grow.one gr).1, f1, ifc_frz hu, ifc_top hu, e3]
  exact hk
end Go.Proofs.Ytoipleipokpnaaa.Code
end
section
namespace Go.Proofs.Ytoipleipokpnaaa.Code
open Go Go.Ab
variable {pure : Bool} {base bar : Nat} {H : Heap} {Q : AV → Heap → Prop} {K : AV → Heap → List Nat → Prop}
/-- distances of a tree, if it is one -/
def TrD (n : Int) (l : List ZZ) (D : Nat → Nat → Nat) : Prop := errT n l = 0 → ∀ m : Nat, n = m → TM (fun x => x < m) (tieB l) D ∧ ∀ x y, x < m → y < m → D x y < m
theorem wd_ex {n : Nat} {l : List ZZ} (hn : n ≤ 9) (he : errL n [] l = 0) : ∃ w, Wd n l w := by
  obtain ⟨w', k1, _⟩ := wd_sum hn (r := l) Wd.nil he (by simp [bitsN_zero, Sm_zero])
  rw [List.nil_append] at k1
  exact ⟨w', k1⟩
theorem trD_ex {n : Int} {l : List ZZ} : ∃ D, TrD n l D := by
  by_cases h : errT n l = 0
  · obtain ⟨m, rfl, h1, h9, hv, hE, hlen, hc⟩ := errT_ok h
    obtain ⟨w, hw⟩ := wd_ex h9 hE
    obtain ⟨D, d1, d2⟩ := tree_tm h9 h1 hw hE hlen hc
    refine ⟨D, fun _ m' e => ?_⟩
    obtain rfl : m = m' := by omega
    exact ⟨d1, d2⟩
  · exact ⟨fun _ _ => 0, fun h' => absurd h' h⟩
theorem k131v {id ver n fz : Nat} {l : List ZZ} {w : Nat → Nat} {D : Nat → Nat → Nat} {ex : Bool} (hid : H[id]? = some (.row ver (wc n w) fz ex)) (hib : bar ≤ id) (hn : n ≤ 9) (hT : TM (fun x => x < n) (tieB l) D) (hw : Wd n l w) (hD : ∀ x y, x < n → y < n → D x y < n)
    (h : ∀ u b, isL u (rchL n D) → Q (.ifc 28 u) (H.set id b)) : WpCall E pure base bar 131 [.agg [], .vec id ver 0 n 1] H Q := by
  have hlt := (List.getElem?_eq_some_iff.1 hid).1
  obtain ⟨b, f1⟩ := wood_frz (d := 5) hid hib
  have k := k131 (pure := pure) (base := base) (bar := bar) (H := H.set id b) (Q := Q) (ex := false) hT hw hD hn (by simp; omega) fun u hu => h u b hu
  have e1 : frzAll bar H [.agg [], .vec id ver 0 n 1] = some ([.agg [], .lst 1 false (wc n w)], H.set id b) := by
    have : frz 8 bar H (.agg []) = some (.agg [], H) := rfl
    simp [frzAll, frz.frzs, frzsW, f1, this]
  have e2 : frzAll bar (H.set id b) [.agg [], .lst 1 false (wc n w)] = some ([.agg [], .lst 1 false (wc n w)], H.set id b) := rfl
  rw [call131, e2] at k
  rw [call131, e1]
  exact k
theorem k75r {n : Int} {q : AV} {l : List ZZ} {D : Nat → Nat → Nat} (hD : TrD n l D) (hq : isP q l) (hl : l.length < 1000) (hbar : bar ≤ H.length)
    (h1 : errT n l ≠ 0 → Q (.tup [.nili, .int .i64 (errT n l)]) H)
    (h2 : ∀ (m : Nat) u, n = m → 1 ≤ m → m ≤ 9 → errT n l = 0 → isL u (rchL m D) → Q (.tup [.ifc 28 u, .int .i64 0]) H) : WpCall E pure base bar 75 [.agg [.int .i64 n, q], .ifc 95 (.agg [])] H Q := by
  rw [call75]
  have e0 : frzAll bar H [.agg [.int .i64 n, q], .ifc 95 (.agg [])] = some ([.agg [.int .i64 n, q], .ifc 95 (.agg [])], H) := by simp [frzAll, frz.frzs, frzsW, frz_agg, frz_int, hq.frz, frz_q0]
  rw [e0]
  have hb' : (if pure = true then H.length else bar) ≤ H.length := bar_if hbar
  simp [go_sem, WpFun, c75, hq.isTup, hq.cells, aload, AV.isTup, AV.cells]
  refine k49 hq hl (by simp; omega) (fun G he => ?_) (fun m w hm p1 p2 hw he => ?_)
  · have hh := h1 he
    simp [go_sem, he, frz_nili]
    exact hh
  · have hh := h2 m
    obtain ⟨t1, t2⟩ := hD he m hm
    simp [go_sem, Nat.add_assoc]
    refine k131v (fz := 0) (ex := true) (w := w) (by simp [own_get]) (by omega) p2 t1 hw t2 fun u b hu => ?_
    have hk := hh u hm p1 p2 he hu
    simp [go_sem, ifc_frz hu, ifc_top hu, tops_cons, tops_nil, own_set]
    exact hk
theorem k51r {n : Int} {q : AV} {l : List ZZ} {D : Nat → Nat → Nat} (hD : TrD n l D) (hq : isP q l) (hl : l.length < 1000) (hbar : bar ≤ H.length)
    (h1 : errT n l ≠ 0 → Q (.tup [.nils, .int .i64 (errT n l)]) H)
    (h2 : ∀ (m : Nat) u, n = m → 1 ≤ m → m ≤ 9 → errT n l = 0 → isL u (rchL m D) → Q (.tup [u, .int .i64 0]) H) : WpCall E pure base bar 51 [.agg [.int .i64 n, q], .ifc 95 (.agg [])] H Q := by
  rw [call51]
  have e0 : frzAll bar H [.agg [.int .i64 n, q], .ifc 95 (.agg [])] = some ([.agg [.int .i64 n, q], .ifc 95 (.agg [])], H) := by simp [frzAll, frz.frzs, frzsW, frz_agg, frz_int, hq.frz, frz_q0]
  rw [e0]
  have hb' : (if pure = true then H.length else bar) ≤ H.length := bar_if hbar
  simp [go_sem, WpFun, c51, hq.isTup, hq.cells, aload, AV.isTup, AV.cells]
  refine k75r hD hq hl (by simp; omega) (fun he => ?_) (fun m u hm p1 p2 he hu => ?_)
  · have hh := h1 he
    simp [go_sem, aop, Opd.evo, mres]
    exact hh
  · have hh := h2 m u hm p1 p2 he hu
    simp [go_sem, aop, Opd.evo, mres, hu.frz, hu.top, tops_cons, tops_nil]
    exact hh
theorem k14 {n : Int} {q : AV} {l : List ZZ} {D : Nat → Nat → Nat} (hD : TrD n l D) (hq : isP q l) (hl : l.length < 1000) (hbar : bar ≤ H.length)
    (h1 : errT n l ≠ 0 → Q (.tup [.nils, .int .i64 (errT n l)]) H)
    (h2 : ∀ (m : Nat) u, n = m → 1 ≤ m → m ≤ 9 → errT n l = 0 → isL u (rchL m D) → Q (.tup [u, .int .i64 0]) H) : WpCall E pure base bar 14 [.agg [.int .i64 n, q]] H Q := by
  rw [call14]
  have e0 : frzAll bar H [.agg [.int .i64 n, q]] = some ([.agg [.int .i64 n, q]], H) := by simp [frzAll, frz.frzs, frzsW, frz_agg, frz_int, hq.frz]
  rw [e0]
  have hb' : (if pure = true then H.length else bar) ≤ H.length := bar_if hbar
  simp [go_sem, WpFun, c14, hq.isTup, hq.cells, aload, AV.isTup, AV.cells, aop, Opd.evo, fillA, setCells]
  refine k51r hD hq hl (by simp; omega) (fun he => ?_) (fun m u hm p1 p2 he hu => ?_)
  · have hh := h1 he
    simp [go_sem]
    exact hh
  · have hh := h2 m u hm p1 p2 he hu
    simp [go_sem, hu.frz, hu.top, tops_cons, tops_nil]
    exact hh
end Go.Proofs.Ytoipleipokpnaaa.Code
end
section
namespace Go.Proofs.Ytoipleipokpnaaa.Code
open Go Go.Ab
variable {pure : Bool} {base bar : Nat} {H : Heap} {Q : AV → Heap → Prop} {K : AV → Heap → List Nat → Prop}
/-! rounds: what has at most one tie is taken off -/
/-- lists of sets -/
def msk (ms : List Nat) : List AV := ms.map fun (m : Nat) => .int .u16 (m : Int)
theorem msk_plain {ms : List Nat} : ∀ c ∈ msk ms, Plain c := fun c hc => by
  obtain ⟨x, _, rfl⟩ := List.mem_map.1 hc
  exact Plain.int
theorem msk_len {ms : List Nat} : (msk ms).length = ms.length := by simp [msk]
def isM (v : AV) (ms : List Nat) : Prop := (v = .nils ∧ ms = []) ∨ ∃ ex, v = .lst 1 ex (msk ms)
theorem isM.out {ms : List Nat} : isM (outL 1 (msk ms)) ms := by
  unfold outL
  split
  · rename_i h
    have : ms = [] := by simpa [msk] using h
    subst this; exact .inl ⟨rfl, rfl⟩
  · refine .inr ⟨false, ?_⟩
    rw [Nat.div_one, chunks_one]
theorem isM.len {v : AV} {ms : List Nat} (h : isM v ms) : lenWp (some v) H K = K (.int .i64 (ms.length : Int)) H [] := by
  rcases h with ⟨rfl, rfl⟩ | ⟨ex, rfl⟩
  · rfl
  · rw [lenWp_lst, msk_len]
theorem isM.frz {v : AV} {ms : List Nat} (h : isM v ms) {d : Nat} : Go.Ab.frz (d + 1) bar H v = some (v, H) := by
  rcases h with ⟨rfl, rfl⟩ | ⟨ex, rfl⟩ <;> rfl
theorem isM.top {v : AV} {ms : List Nat} (h : isM v ms) : v.top = 0 := by
  rcases h with ⟨rfl, rfl⟩ | ⟨ex, rfl⟩
  · rfl
  · rw [top_lst]; exact tops_zero fun x hx => by
      simp only [msk, List.mem_map] at hx
      obtain ⟨a, _, rfl⟩ := hx; rfl
theorem isM.ix {v : AV} {ms : List Nat} (h : isM v ms) {k : IntKind} {i : Nat} (hi : i < ms.length) : ixaSWp 1 (some v) (some (.int k (i : Int))) H K = K (.fp (.int .u16 ((ms[i] : Nat) : Int))) H [] := by
  rcases h with ⟨rfl, rfl⟩ | ⟨ex, rfl⟩
  · simp at hi
  · rw [ixaSWp_lst]
    simp only [Int.toNat_natCast]
    rw [show (msk ms)[i]? = some (.int .u16 ((ms[i] : Nat) : Int)) by simp [msk, List.getElem?_eq_getElem hi]]
    simp [valWp_some]
theorem isM.isTup {v : AV} {ms : List Nat} (h : isM v ms) : v.isTup = false := by
  rcases h with ⟨rfl, rfl⟩ | ⟨ex, rfl⟩ <;> rfl
theorem isM.cells {v : AV} {ms : List Nat} (h : isM v ms) : v.cells = [v] := by
  rcases h with ⟨rfl, rfl⟩ | ⟨ex, rfl⟩ <;> rfl
theorem Grow.msk {base bytes : Nat} {ms : List Nat} {H0 : Heap} {v : AV} {ex : Bool} {x : Nat} (g : Grow 1 (msk ms) H0 v H) (hb : bar ≤ H0.length) (hbase : base ≤ H0.length)
    (hlen : (ms.length + 1) * bytes ≤ 140737488355328)
    (h : ∀ v' H' tc, Grow 1 (Code.msk (ms ++ [x])) H0 v' H' → K v' H' tc) : appWp base bar 1 bytes (some v) (some (.lst 1 ex [.int .u16 (x : Int)])) H K := by
  refine g.app (by omega) (Nat.one_dvd _) (fun c hc => ?_) (Nat.one_dvd _) hb hbase ?_ fun v' H' tc g' => h v' H' tc ?_
  · simp [AV.cells] at hc; subst hc; exact Plain.int
  · simpa [msk_len, AV.cells] using hlen
  · simpa [Code.msk, AV.cells] using g'
/-- the lowest bit taken away -/
def lowS (s : Nat) : Nat := if s = 0 then 0 else band s (s - 1)
theorem lowS_u16 {s : Nat} (hs : s < 512) : abin .and (.int .u16 (s : Int)) (.int .u16 (IntKind.u16.wrap ((s : Int) - 1))) = some (.int .u16 ((lowS s : Nat) : Int)) := by
  unfold lowS
  by_cases e : s = 0
  · subst e; rfl
  · rw [if_neg e]
    have : IntKind.u16.wrap ((s : Int) - 1) = ((s - 1 : Nat) : Int) := by rw [Go.IntWalk.u16_in _ (by omega)]; omega
    rw [this, and_u16 hs (by omega)]
theorem lowS_bits : ∀ s, s < 512 → (lowS s = 0 ↔ (bitsN s).length ≤ 1) := by decide +kernel
def offS (w : Nat → Nat) (left k : Nat) : Bool := decide (lowS (band (w k) left) = 0)
def offL (w : Nat → Nat) (left : Nat) (L : List Nat) (s : Nat) : Nat := L.foldl (fun o k => if offS w left k then bor o (pw k) else o) s
theorem offL_lt {w : Nat → Nat} {left : Nat} : ∀ {L : List Nat} {s : Nat}, (∀ a ∈ L, a < 9) → s < 512 → offL w left L s < 512
  | [], _, _, h => h
  | a :: L, s, hL, h => by
    have ha := hL a (List.mem_cons_self ..)
    have e : offL w left (a :: L) s = offL w left L (if offS w left a then bor s (pw a) else s) := rfl
    rw [e]
    refine offL_lt (fun b hb => hL b (List.mem_cons_of_mem _ hb)) ?_
    split
    · exact bor9 h (pw9 ha)
    · exact h
theorem offL_bit {w : Nat → Nat} {left x : Nat} : ∀ {L : List Nat} {s : Nat}, (offL w left L s).testBit x = true ↔ s.testBit x = true ∨ (x ∈ L ∧ offS w left x = true)
  | [], s => by simp [offL]
  | a :: L, s => by
    have e : offL w left (a :: L) s = offL w left L (if offS w left a then bor s (pw a) else s) := rfl
    rw [e, offL_bit]
    cases h : offS w left a with
    | true =>
      rw [if_pos rfl, testBit_bor, Bool.or_eq_true, testBit_pw, decide_eq_true_iff, List.mem_cons]
      constructor
      · rintro ((h1 | rfl) | ⟨h1, h2⟩)
        · exact .inl h1
        · exact .inr ⟨.inl rfl, h⟩
        · exact .inr ⟨.inr h1, h2⟩
      · rintro (h1 | ⟨rfl | h1, h2⟩)
        · exact .inl (.inl h1)
        · exact .inl (.inr rfl)
        · exact .inr ⟨h1, h2⟩
    | false =>
      rw [if_neg (by decide), List.mem_cons]
      constructor
      · rintro (h1 | ⟨h1, h2⟩)
        · exact .inl h1
        · exact .inr ⟨.inr h1, h2⟩
      · rintro (h1 | ⟨rfl | h1, h2⟩)
        · exact .inl h1
        · rw [h] at h2; cases h2
        · exact .inr ⟨h1, h2⟩
def offM (w : Nat → Nat) (left : Nat) : Nat := offL w left (bitsN left) 0
theorem offM_lt {w : Nat → Nat} {left : Nat} : offM w left < 512 := offL_lt (fun a ha => bitsN_lt ha) (by decide)
theorem offM_bit {w : Nat → Nat} {left x : Nat} (hl : left < 512) : (offM w left).testBit x = true ↔ left.testBit x = true ∧ offS w left x = true := by
  unfold offM
  rw [offL_bit, mem_bitsN hl]; simp
def rdsM (w : Nat → Nat) : Nat → Nat → List Nat
  | 0, _ => []
  | t + 1, left => if left = 0 then [] else offM w left :: rdsM w t (bcl left (offM w left))
/-- what is left is a tree -/
structure RS (n : Nat) (l : List ZZ) (D : Nat → Nat → Nat) (left : Nat) : Prop where
  lt : left < 512
  inn : ∀ x, left.testBit x = true → x < n
  tree : TS (tieB l) (fun x => left.testBit x) D
theorem off_leaf {n left x : Nat} {l : List ZZ} {w : Nat → Nat} {D : Nat → Nat → Nat} (hw : Wd n l w) (h : RS n l D left) (hx : left.testBit x = true) : offS w left x = true ↔ LfS (tieB l) (fun x => left.testBit x) x := by
  have hb : band (w x) left < 512 := band9 (hw.lt x)
  have hm : ∀ b, b ∈ bitsN (band (w x) left) ↔ rs (tieB l) (fun x => left.testBit x) x b = true := fun b => by
    rw [mem_bitsN hb, testBit_band, rs_iff, hw.bit, Bool.and_eq_true]
    constructor
    · rintro ⟨h1, h2⟩; exact ⟨h1, hx, h2⟩
    · rintro ⟨h1, _, h2⟩; exact ⟨h1, h2⟩
  have hnd : (bitsN (band (w x) left)).Nodup := (List.nodup_range).filter _
  unfold offS
  rw [decide_eq_true_iff, lowS_bits _ hb]
  constructor
  · intro h1 a b ha hb'
    rw [← hm] at ha hb'
    match hL : bitsN (band (w x) left), h1 with
    | [], _ => rw [hL] at ha; cases ha
    | [c], _ =>
      rw [hL] at ha hb'
      rw [List.mem_singleton.1 ha, List.mem_singleton.1 hb']
  · intro h1
    match hL : bitsN (band (w x) left) with
    | [] => simp
    | [c] => simp
    | c :: d :: r =>
      have hc : c ∈ bitsN (band (w x) left) := by rw [hL]; simp
      have hd : d ∈ bitsN (band (w x) left) := by rw [hL]; simp
      have := h1 c d ((hm c).1 hc) ((hm d).1 hd)
      rw [hL] at hnd
      subst this
      simp at hnd
theorem RS.off {n left : Nat} {l : List ZZ} {w : Nat → Nat} {D : Nat → Nat → Nat} (hw : Wd n l w) (h : RS n l D left) : Off (tieB l) (fun x => left.testBit x) (fun x => (bcl left (offM w left)).testBit x) := fun x => by
  simp only [testBit_bcl h.lt, Bool.and_eq_true, Bool.not_eq_true']
  constructor
  · rintro ⟨h1, h2⟩
    refine ⟨h1, fun hl => ?_⟩
    have := (offM_bit h.lt).2 ⟨h1, (off_leaf hw h h1).2 hl⟩
    rw [h2] at this; cases this
  · rintro ⟨h1, h2⟩
    refine ⟨h1, ?_⟩
    cases e : (offM w left).testBit x with
    | false => rfl
    | true => exact absurd ((off_leaf hw h h1).1 ((offM_bit h.lt).1 e).2) h2
theorem RS.step {n left : Nat} {l : List ZZ} {w : Nat → Nat} {D : Nat → Nat → Nat} (hw : Wd n l w) (h : RS n l D left) : RS n l D (bcl left (offM w left)) :=
  ⟨bcl9 h.lt, fun x hx => h.inn x ((h.off hw x).1 hx).1, h.tree.round (h.off hw)⟩
theorem RS.some {n left : Nat} {l : List ZZ} {w : Nat → Nat} {D : Nat → Nat → Nat} (hw : Wd n l w) (h : RS n l D left) (h0 : left ≠ 0) : offM w left ≠ 0 := fun e => by
  obtain ⟨x, hx⟩ : ∃ x, left.testBit x = true := Nat.exists_testBit_of_ne_zero h0
  obtain ⟨y, y1, y2⟩ := ecc_get (n := n) h.tree hx
  have hl := h.tree.has_leaf h.inn hx y1 y2
  have := (offM_bit h.lt).2 ⟨y1, (off_leaf hw h y1).2 hl⟩
  rw [e] at this; simp at this
theorem bits_lt : ∀ a, a < 512 → ∀ b, b < 512 → b ≠ 0 → band a b = b → (bitsN (bcl a b)).length < (bitsN a).length := by
  intro a ha b hb h0 hab
  obtain ⟨x, hx⟩ : ∃ x, b.testBit x = true := Nat.exists_testBit_of_ne_zero h0
  have hxa : a.testBit x = true := by
    have : (band a b).testBit x = true := by rw [hab]; exact hx
    rw [testBit_band, Bool.and_eq_true] at this
    exact this.1
  have hx9 := bit9 ha hxa
  have hsub : bitsN (bcl a b) = (bitsN a).filter fun i => !b.testBit i := by
    unfold bitsN
    rw [List.filter_filter]
    congr 1; funext i
    rw [testBit_bcl ha, Bool.and_comm]
  rw [hsub]
  refine List.length_filter_lt_length_iff_exists.2 ⟨x, (mem_bitsN ha).2 hxa, by simp [hx]⟩
theorem RS.fuel {n left : Nat} {l : List ZZ} {w : Nat → Nat} {D : Nat → Nat → Nat} (hw : Wd n l w) (h : RS n l D left) (h0 : left ≠ 0) : (bitsN (bcl left (offM w left))).length < (bitsN left).length := by
  refine bits_lt _ h.lt _ offM_lt (h.some hw h0) ?_
  apply Nat.eq_of_testBit_eq
  intro x
  rw [testBit_band]
  cases e : (offM w left).testBit x with
  | false => simp
  | true => rw [((offM_bit h.lt).1 e).1]; rfl
end Go.Proofs.Ytoipleipokpnaaa.Code
end
section
namespace Go.Proofs.Ytoipleipokpnaaa.Code
open Go Go.Ab
variable {pure : Bool} {base bar : Nat} {H : Heap} {Q : AV → Heap → Prop} {K : AV → Heap → List Nat → Prop}
theorem pwm_bit {n x : Nat} : (pw n - 1).testBit x = decide (x < n) := by unfold pw; exact Nat.testBit_two_pow_sub_one ..
theorem pwm_lt {n : Nat} (hn : n ≤ 9) : pw n - 1 < 512 := by
  have : pw n ≤ 512 := by
    have := Nat.pow_le_pow_right (n := 2) (by decide) hn
    unfold pw; omega
  omega
theorem u16_pwm {n : Nat} (hn : n ≤ 9) : IntKind.u16.wrap (((pw n : Nat) : Int) - 1) = ((pw n - 1 : Nat) : Int) := by
  have := pwm_lt hn
  have : 0 < pw n := by unfold pw; exact Nat.pow_pos (by decide)
  rw [Go.IntWalk.u16_in _ (by omega)]; omega
theorem RS.start {n : Nat} {l : List ZZ} {D : Nat → Nat → Nat} (hn : n ≤ 9) (hT : TM (fun x => x < n) (tieB l) D) : RS n l D (pw n - 1) := by
  refine ⟨pwm_lt hn, fun x hx => ?_, hT.congr (fun x => ?_) fun a b => ?_⟩
  · rw [pwm_bit] at hx; simpa using hx
  · simp only [pwm_bit]; simp
  · unfold rs
    simp only [pwm_bit]
    cases e : tieB l a b with
    | false => rfl
    | true =>
      obtain ⟨h1, h2, _⟩ := hT.inV e
      simp [h1, h2]
theorem l57a {v0 v3 lv : AV} {n left : Nat} {w : Nat → Nat} {L : List Nat} (h : RW v0 n w H) (hn : n ≤ 9) (hw : ∀ i, w i < 512) (hleft : left < 512) (hl : isL lv L) (hL : ∀ a ∈ L, a < n) (hlen : L.length ≤ 9) {R : PQ} :
    ∀ (k i : Nat), i + k = L.length → ∀ s, s < 512 →
    R (.exit 2) [(0, v0), (3, v3), (4, .int .u16 (left : Nat)), (5, .int .u16 (offL w left (L.drop i) s : Nat)), (18, lv), (19, .int .i64 (L.length : Nat)), (20, .int .i64 (L.length : Nat)), (21, .bool false)] H →
    Wp E base bar (.loop c57_l0) [(0, v0), (3, v3), (4, .int .u16 (left : Nat)), (5, .int .u16 (s : Nat)), (18, lv), (19, .int .i64 (L.length : Nat)), (20, .int .i64 (i : Nat))] H R := by
  intro k
  induction k with
  | zero =>
    intro i hi s hs k
    obtain rfl : i = L.length := by omega
    rw [List.drop_length] at k
    rw [wp_round c57_l0.eq_1]
    simp [go_sem]
    exact k
  | succ k ih =>
    intro i hi s hs k
    have hlt : i < L.length := by omega
    have ha := hL _ (List.getElem_mem hlt)
    obtain ⟨p, p1, p2⟩ := h.ix ha
    rw [List.drop_eq_getElem_cons hlt] at k
    have hix := fun (H : Heap) (K : AV → Heap → List Nat → Prop) => hl.ix (H := H) (K := K) (k := .i64) hlt
    have hnext := fun s hs => ih (i + 1) (by omega) s hs
    generalize L[i] = a at *
    have hb : band (w a) left < 512 := band9 (hw a)
    have e1 := and_u16 (hw a) hleft
    have e2 := lowS_u16 hb
    have e3 := shl_u16 (show a < 10 by omega)
    have e4 := or_u16 hs (pw9 (show a < 9 by omega))
    have e5 : offL w left (a :: L.drop (i + 1)) s = offL w left (L.drop (i + 1)) (if offS w left a then bor s (pw a) else s) := rfl
    rw [e5] at k
    have eo : offS w left a = decide (lowS (band (w a) left) = 0) := rfl
    rw [eo] at k
    generalize lowS (band (w a) left) = z at *
    rw [wp_round c57_l0.eq_1]
    by_cases c : z = 0
    · subst c
      simp at k
      simp [go_sem, hlt, hix, p1, p2, e1, e2, e3, e4, i64_suc (show i < 1000000 by omega)]
      exact hnext _ (bor9 hs (pw9 (by omega))) k
    · have c' : ¬ (z : Int) = 0 := by omega
      simp [c] at k
      simp [go_sem, hlt, hix, p1, p2, e1, e2, c, c', i64_suc (show i < 1000000 by omega)]
      exact hnext _ hs k
theorem bits_none {s : Nat} (hs : s < 512) (h : (bitsN s).length = 0) : s = 0 := by
  apply Decidable.byContradiction
  intro e
  obtain ⟨x, hx⟩ : ∃ x, s.testBit x = true := Nat.exists_testBit_of_ne_zero e
  have := List.length_pos_of_mem ((mem_bitsN hs).2 hx)
  omega
theorem l57b {n id : Nat} {l : List ZZ} {w : Nat → Nat} {D : Nat → Nat → Nat} {H0 : Heap} (hw : Wd n l w) (hn : n ≤ 9) (hid : H0[id]? = some (.row 0 (wc n w) 0 false)) (hb : bar ≤ H0.length) (hbase : base ≤ H0.length) {R : PQ} :
    ∀ (t left : Nat) (ms : List Nat) (v : AV) (H : Heap), RS n l D left → (bitsN left).length ≤ t → Grow 1 (msk ms) H0 v H → ms.length + t < 1000 →
    (∀ v' H', Grow 1 (msk (ms ++ rdsM w t left)) H0 v' H' → R (.exit 0) [(0, .vec id 0 0 n 1), (3, v'), (4, .int .u16 0), (16, .bool false)] H') →
    Wp E base bar (.loop c57_l1) [(0, .vec id 0 0 n 1), (3, v), (4, .int .u16 (left : Nat))] H R := by
  intro t
  induction t with
  | zero =>
    intro left ms v H hR ht gr hlen h
    obtain rfl := bits_none hR.lt (by omega)
    simp only [rdsM, List.append_nil] at h
    rw [wp_round c57_l1.eq_1]
    simp [go_sem]
    exact h v H gr
  | succ t ih =>
    intro left ms v H hR ht gr hlen h
    by_cases e0 : left = 0
    · subst e0
      simp only [rdsM, if_true, List.append_nil] at h
      rw [wp_round c57_l1.eq_1]
      simp [go_sem]
      exact h v H gr
    · simp only [rdsM, if_neg e0] at h
      have e0' : ¬ (left : Int) = 0 := by omega
      have hf := hR.fuel hw e0
      have hout : isL (outL 1 (nats (bitsN left))) (bitsN left) := isL.out
      have hL : ∀ a ∈ bitsN left, a < n := fun a ha => hR.inn a ((mem_bitsN hR.lt).1 ha)
      have gl := gr.len
      have la := fun {R : PQ} {base bar : Nat} hR' => l57a (R := R) (base := base) (bar := bar) (H := H) (v0 := .vec id 0 0 n 1) (v3 := v) (RW.vec (gr.get hid)) hn hw.lt hR.lt hout hL bitsN_len (bitsN left).length 0 (by omega) 0 (by decide) hR'
      rw [List.drop_zero] at la
      have eo : offL w left (bitsN left) 0 = offM w left := rfl
      rw [eo] at la
      have ea := andNot_u16 hR.lt (offM_lt (w := w) (left := left))
      have hnext := fun v H gr => ih (bcl left (offM w left)) (ms ++ [offM w left]) v H (hR.step hw) (by omega) gr (by simp; omega) (fun v' H' gr' => h v' H' (by simpa using gr'))
      generalize offM w left = o at *
      rw [wp_round c57_l1.eq_1]
      simp [go_sem, e0, e0']
      refine k58 hR.lt (by omega) ?_
      simp [go_sem, hout.len]
      refine la ?_
      simp [go_sem, ea, aop, fillA, setCells, AV.cells, chunks]
      refine Grow.msk gr hb hbase (by omega) fun v' H' tc gr' => ?_
      simp [go_sem, ea]
      exact hnext v' H' gr'
def rdsW (n : Nat) (w : Nat → Nat) : List Nat := rdsM w 9 (pw n - 1)
theorem rdsM_len {w : Nat → Nat} : ∀ {t left : Nat}, (rdsM w t left).length ≤ t
  | 0, _ => Nat.le_refl 0
  | t + 1, left => by
    simp only [rdsM]
    split
    · simp
    · have := rdsM_len (w := w) (t := t) (left := bcl left (offM w left))
      simp; omega
theorem k57 {n : Nat} {ex : Bool} {l : List ZZ} {w : Nat → Nat} {D : Nat → Nat → Nat} (hT : TM (fun x => x < n) (tieB l) D) (hw : Wd n l w) (hn : n ≤ 9) (h1 : 1 ≤ n) (hbar : bar ≤ H.length)
    (h : ∀ u, isM u (rdsW n w) → Q u H) : WpCall E pure base bar 57 [.lst 1 ex (wc n w)] H Q := by
  rw [call57]
  have e0 : frzAll bar H [.lst 1 ex (wc n w)] = some ([.lst 1 ex (wc n w)], H) := rfl
  rw [e0]
  have hb' : (if pure = true then H.length else bar) ≤ H.length := bar_if hbar
  have e1 := shl_u16 (show n < 10 by omega)
  have e2 := u16_pwm hn
  have hRS := RS.start hn hT
  simp [go_sem, WpFun, c57]
  refine k76 h1 hn ?_
  simp [go_sem, e1, e2]
  refine l57b (H0 := H ++ [.row 0 (wc n w) 0 false]) hw hn (by simp) (by simp; omega) (by simp) 9 _ [] .nils _ hRS bitsN_len (by simpa [msk] using Grow.nil) (by simp) fun v' H' gr => ?_
  rw [List.nil_append] at gr
  obtain ⟨H2, f1, f2, f3, f4⟩ := gr.frz (d := 5) (bar := if pure = true then H.length else bar) (by decide) (Nat.one_dvd _) msk_plain (by rw [List.length_append]; omega)
  have hu : isM (outL 1 (msk (rdsW n w))) (rdsW n w) := isM.out
  have hk := h _ hu
  have e3 : H2.take H.length = H := by
    have := congrArg (List.take H.length) f4
    rw [List.take_take] at this
    simp at this
    exact this
  have eR : rdsM w 9 (pw n - 1) = rdsW n w := rfl
  rw [eR] at f1
  simp [go_sem, aop, Opd.evo, (Grow.one gr).1, f1, hu.top, e3]
  exact hk
theorem k57v {id ver n fz : Nat} {ex : Bool} {l : List ZZ} {w : Nat → Nat} {D : Nat → Nat → Nat} (hid : H[id]? = some (.row ver (wc n w) fz ex)) (hib : bar ≤ id) (hT : TM (fun x => x < n) (tieB l) D) (hw : Wd n l w) (hn : n ≤ 9) (h1 : 1 ≤ n)
    (h : ∀ u b, isM u (rdsW n w) → Q u (H.set id b)) : WpCall E pure base bar 57 [.vec id ver 0 n 1] H Q := by
  have hlt := (List.getElem?_eq_some_iff.1 hid).1
  obtain ⟨b, f1⟩ := wood_frz (d := 5) hid hib
  have k := k57 (pure := pure) (base := base) (bar := bar) (H := H.set id b) (Q := Q) (ex := false) hT hw hn h1 (by simp; omega) fun u hu => h u b hu
  have e1 : frzAll bar H [.vec id ver 0 n 1] = some ([.lst 1 false (wc n w)], H.set id b) := by
    simp [frzAll, frz.frzs, frzsW, f1]
  have e2 : frzAll bar (H.set id b) [.lst 1 false (wc n w)] = some ([.lst 1 false (wc n w)], H.set id b) := rfl
  rw [call57, e2] at k
  rw [call57, e1]
  exact k
end Go.Proofs.Ytoipleipokpnaaa.Code
end
