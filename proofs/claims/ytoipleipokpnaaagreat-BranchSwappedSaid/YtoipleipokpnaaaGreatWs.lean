/-
  Parts of the proofs about this chapter, joined: contracts of functions and plain laws.
-/
import Derived.Test.YtoipleipokpnaaaGreatWsa
import Derived.KernelRfl
set_option linter.all false
section
namespace Go.Proofs.YtoipleipokpnaaaGreat.Code
open Go Go.Ab
/-! the distances of all knots by Floyd and Warshall -/
abbrev Mat := Nat → Nat → Nat
def up2 (M : Mat) (a b v : Nat) : Mat := fun x y => if x = a ∧ y = b then v else M x y
def fwS (k a : Nat) (M : Mat) (b : Nat) : Mat := up2 M a b (min (M a b) (M a k + M k b))
def fwA (n k : Nat) (M : Mat) (a : Nat) : Mat := (List.range n).foldl (fwS k a) M
def fwK (n : Nat) (M : Mat) (k : Nat) : Mat := (List.range n).foldl (fwA n k) M
def fwN (n : Nat) (M : Mat) : Mat := (List.range n).foldl (fwK n) M
def tieM (M : Mat) (p : ZZ) : Mat := up2 (up2 M p.1.toNat p.2.toNat 1) p.2.toNat p.1.toNat 1
def fw0 (l : List ZZ) : Mat := l.foldl tieM fun a b => if a = b then 0 else 100
def farF (n : Nat) (l : List ZZ) : Mat := fwN n (fw0 l)
def Mids (n m : Nat) (D : Mat) (a b : Nat) : Prop := ∀ z, z < n → z ≠ a → z ≠ b → D a z + D z b = D a b → z < m
structure FJ (n m : Nat) (D M : Mat) : Prop where
  ge : ∀ a b, a < n → b < n → D a b ≤ M a b
  eq : ∀ a b, a < n → b < n → Mids n m D a b → M a b = D a b
section
variable {n : Nat} {f : Nat → Nat → Bool} {D M : Mat}
theorem FJ.step {m a b : Nat} (hT : TM (fun x => x < n) f D) (hm : m < n) (ha : a < n) (hb : b < n) (h : FJ n m D M) : FJ n m D (fwS m a M b) := by
  have t := hT.tri ha hm (D m b) hb rfl
  have h1 := h.ge a m ha hm
  have h2 := h.ge m b hm hb
  have h3 := h.ge a b ha hb
  refine ⟨fun x y hx hy => ?_, fun x y hx hy hM => ?_⟩
  · unfold fwS up2
    split
    · rename_i e; obtain ⟨rfl, rfl⟩ := e; omega
    · exact h.ge x y hx hy
  · have := h.eq x y hx hy hM
    unfold fwS up2
    split
    · rename_i e; obtain ⟨rfl, rfl⟩ := e; omega
    · exact this
theorem FJ.hit {m a b : Nat} (hT : TM (fun x => x < n) f D) (hm : m < n) (ha : a < n) (hb : b < n) (h : FJ n m D M) (hM : Mids n (m + 1) D a b) : fwS m a M b a b = D a b := by
  have t := hT.tri ha hm (D m b) hb rfl
  have h1 := h.ge a m ha hm
  have h2 := h.ge m b hm hb
  have h3 := h.ge a b ha hb
  have e0 : fwS m a M b a b = min (M a b) (M a m + M m b) := by unfold fwS up2; rw [if_pos ⟨rfl, rfl⟩]
  rw [e0]
  by_cases hc : m ≠ a ∧ m ≠ b ∧ D a m + D m b = D a b
  · obtain ⟨c1, c2, c3⟩ := hc
    have e1 : M a m = D a m := h.eq a m ha hm fun z hz z1 z2 z3 => by
      have t2 := hT.tri hz hm (D m b) hb rfl
      have t3 := hT.tri ha hz (D z b) hb rfl
      have hzb : z ≠ b := fun e => by
        subst e
        have := hT.sym hb hm
        have : D m z = 0 := by omega
        exact c2 (hT.eq hm hb this)
      have := hM z hz z1 hzb (by omega)
      omega
    have e2 : M m b = D m b := h.eq m b hm hb fun z hz z1 z2 z3 => by
      have t2 := hT.tri ha hm (D m z) hz rfl
      have t3 := hT.tri ha hz (D z b) hb rfl
      have hza : z ≠ a := fun e => by
        subst e
        have := hT.sym hz hm
        have : D z m = 0 := by omega
        exact c1 (hT.eq hz hm this).symm
      have := hM z hz hza z2 (by omega)
      omega
    omega
  · have : M a b = D a b := h.eq a b ha hb fun z hz z1 z2 z3 => by
      have := hM z hz z1 z2 z3
      have : z ≠ m := fun e => by subst e; exact hc ⟨z1, z2, z3⟩
      omega
    omega
theorem fwS_le {m a b x y : Nat} : fwS m a M b x y ≤ M x y := by
  unfold fwS up2
  split
  · rename_i e; obtain ⟨rfl, rfl⟩ := e; omega
  · exact Nat.le_refl _
theorem FJ.row {m a : Nat} (hT : TM (fun x => x < n) f D) (hm : m < n) (ha : a < n) (G : Nat → Nat → Prop) (hG : ∀ x y, G x y → x < n ∧ y < n ∧ Mids n (m + 1) D x y) :
    ∀ (L : List Nat) (M : Mat), (∀ b ∈ L, b < n) → FJ n m D M → (∀ x y, G x y → M x y = D x y) → FJ n m D (L.foldl (fwS m a) M) ∧ (∀ x y, G x y → L.foldl (fwS m a) M x y = D x y) ∧ ∀ b ∈ L, Mids n (m + 1) D a b → L.foldl (fwS m a) M a b = D a b
  | [], M, _, h, hg => ⟨h, hg, fun b hb => by cases hb⟩
  | b :: L, M, hL, h, hg => by
    have hb := hL b (List.mem_cons_self ..)
    have h' := h.step hT hm ha hb
    have hit := fun hM => h.hit hT hm ha hb hM
    have hg' : ∀ x y, G x y ∨ (x = a ∧ y = b ∧ Mids n (m + 1) D a b) → fwS m a M b x y = D x y := fun x y hxy => by
      rcases hxy with e | ⟨rfl, rfl, e⟩
      · obtain ⟨g1, g2, _⟩ := hG x y e
        have q1 := h'.ge x y g1 g2
        have q2 := fwS_le (m := m) (a := a) (b := b) (M := M) (x := x) (y := y)
        have q3 := hg x y e
        omega
      · exact hit e
    obtain ⟨r1, r2, r3⟩ := FJ.row hT hm ha (fun x y => G x y ∨ (x = a ∧ y = b ∧ Mids n (m + 1) D a b)) (fun x y hxy => by
      rcases hxy with e | ⟨rfl, rfl, e⟩
      · exact hG x y e
      · exact ⟨ha, hb, e⟩) L _ (fun c hc => hL c (List.mem_cons_of_mem _ hc)) h' hg'
    refine ⟨r1, fun x y e => r2 x y (.inl e), fun c hc hM => ?_⟩
    rcases List.mem_cons.1 hc with rfl | hc
    · exact r2 a c (.inr ⟨rfl, rfl, hM⟩)
    · exact r3 c hc hM
theorem FJ.rows {m : Nat} (hT : TM (fun x => x < n) f D) (hm : m < n) (G : Nat → Nat → Prop) (hG : ∀ x y, G x y → x < n ∧ y < n ∧ Mids n (m + 1) D x y) :
    ∀ (L : List Nat) (M : Mat), (∀ b ∈ L, b < n) → FJ n m D M → (∀ x y, G x y → M x y = D x y) → FJ n m D (L.foldl (fwA n m) M) ∧ (∀ x y, G x y → L.foldl (fwA n m) M x y = D x y) ∧ ∀ a ∈ L, ∀ b, b < n → Mids n (m + 1) D a b → L.foldl (fwA n m) M a b = D a b
  | [], M, _, h, hg => ⟨h, hg, fun b hb => by cases hb⟩
  | a :: L, M, hL, h, hg => by
    have ha := hL a (List.mem_cons_self ..)
    obtain ⟨p1, p2, p3⟩ := FJ.row hT hm ha G hG (List.range n) M (fun b hb => List.mem_range.1 hb) h hg
    obtain ⟨r1, r2, r3⟩ := FJ.rows hT hm (fun x y => G x y ∨ (x = a ∧ y < n ∧ Mids n (m + 1) D a y)) (fun x y hxy => by
      rcases hxy with e | ⟨rfl, e1, e⟩
      · exact hG x y e
      · exact ⟨ha, e1, e⟩) L (fwA n m M a) (fun c hc => hL c (List.mem_cons_of_mem _ hc)) p1 (fun x y hxy => by
      rcases hxy with e | ⟨rfl, e1, e⟩
      · exact p2 x y e
      · exact p3 y (List.mem_range.2 e1) e)
    refine ⟨r1, fun x y e => r2 x y (.inl e), fun c hc b hb hM => ?_⟩
    rcases List.mem_cons.1 hc with rfl | hc
    · exact r2 c b (.inr ⟨rfl, hb, hM⟩)
    · exact r3 c hc b hb hM
theorem FJ.round {m : Nat} (hT : TM (fun x => x < n) f D) (hm : m < n) (h : FJ n m D M) : FJ n (m + 1) D (fwK n M m) := by
  obtain ⟨r1, _, r3⟩ := FJ.rows hT hm (fun _ _ => False) (fun _ _ e => e.elim) (List.range n) M (fun b hb => List.mem_range.1 hb) h (fun _ _ e => e.elim)
  exact ⟨r1.ge, fun a b ha hb hM => r3 a (List.mem_range.2 ha) b hb hM⟩
theorem FJ.all (hT : TM (fun x => x < n) f D) (h : FJ n 0 D M) : ∀ m, m ≤ n → FJ n m D ((List.range m).foldl (fwK n) M)
  | 0, _ => h
  | m + 1, hm => by
    rw [List.range_succ, List.foldl_append]
    exact FJ.round hT (by omega) (FJ.all hT h m (by omega))
end
theorem up2_get {M : Mat} {a b v x y : Nat} : up2 M a b v x y = if x = a ∧ y = b then v else M x y := rfl
theorem fw0_get {n : Nat} : ∀ {r l : List ZZ} {M : Mat}, (∀ p ∈ r, okP n p) → (∀ a b, M a b = if a = b then 0 else if tieB l a b then 1 else 100) → (∀ p ∈ l, okP n p) → ∀ a b, r.foldl tieM M a b = if a = b then 0 else if tieB (l ++ r) a b then 1 else 100
  | [], l, M, _, h, _, a, b => by rw [List.append_nil]; exact h a b
  | p :: r, l, M, hr, h, hl, a, b => by
    have hp := hr p (List.mem_cons_self ..)
    rw [List.foldl_cons, show l ++ p :: r = (l ++ [p]) ++ r by simp]
    refine fw0_get (l := l ++ [p]) (fun q hq => hr q (List.mem_cons_of_mem _ hq)) (fun x y => ?_) (fun q hq => ?_) a b
    · rw [tieB_snoc]
      obtain ⟨p1, p2⟩ := p
      obtain ⟨q1, q2, q3, q4, q5⟩ := hp
      simp only at q1 q2 q3 q4 q5
      obtain ⟨c, rfl⟩ := Int.eq_ofNat_of_zero_le q1
      obtain ⟨d, rfl⟩ := Int.eq_ofNat_of_zero_le q2
      have hcd : c ≠ d := by omega
      simp only [tieM, up2_get, Int.toNat_natCast]
      have b1 : ∀ u v : Nat, ((u : Int) == (v : Int)) = decide (u = v) := fun u v => by
        rw [Bool.eq_iff_iff, beq_iff_eq, decide_eq_true_iff]; omega
      simp only [b1]
      by_cases h1 : x = d ∧ y = c
      · obtain ⟨rfl, rfl⟩ := h1
        rw [if_pos ⟨rfl, rfl⟩, if_neg (fun e => hcd e.symm)]
        simp
      · rw [if_neg h1]
        by_cases h2 : x = c ∧ y = d
        · obtain ⟨rfl, rfl⟩ := h2
          rw [if_pos ⟨rfl, rfl⟩, if_neg hcd]
          simp
        · rw [if_neg h2, h]
          have : (decide (c = x) && decide (d = y) || decide (c = y) && decide (d = x)) = false := by
            rw [Bool.eq_false_iff]
            intro e
            simp only [Bool.or_eq_true, Bool.and_eq_true, decide_eq_true_eq] at e
            rcases e with ⟨e1, e2⟩ | ⟨e1, e2⟩
            · exact h2 ⟨e1.symm, e2.symm⟩
            · exact h1 ⟨e2.symm, e1.symm⟩
          rw [this, Bool.or_false]
    · rcases List.mem_append.1 hq with hq | hq
      · exact hl q hq
      · rw [List.mem_singleton.1 hq]; exact hp
theorem fw0_eq {n : Nat} {l : List ZZ} (hv : ∀ p ∈ l, okP n p) (a b : Nat) : fw0 l a b = if a = b then 0 else if tieB l a b then 1 else 100 := by
  have := fw0_get (n := n) (r := l) (l := []) (M := fun a b => if a = b then 0 else 100) hv (fun a b => by simp [tieB_nil]) (fun p hp => by cases hp) a b
  rw [List.nil_append] at this
  exact this
theorem farF_tm {n : Nat} {l : List ZZ} {D : Mat} (hT : TM (fun x => x < n) (tieB l) D) (hv : ∀ p ∈ l, okP n p) (hD : ∀ x y, x < n → y < n → D x y ≤ 100) {a b : Nat} (ha : a < n) (hb : b < n) : farF n l a b = D a b := by
  have h0 : FJ n 0 D (fw0 l) := by
    refine ⟨fun a b ha hb => ?_, fun a b ha hb hM => ?_⟩
    · rw [fw0_eq hv]
      split
      · rename_i e; subst e; rw [hT.zero ha]; omega
      · split
        · rename_i e; rw [hT.adj e]; omega
        · exact hD a b ha hb
    · rw [fw0_eq hv]
      split
      · rename_i e; subst e; rw [hT.zero ha]
      · rename_i e
        split
        · rename_i e; rw [hT.adj e]
        · rename_i e2
          obtain ⟨c, c1, c2, _⟩ := hT.par ha hb e
          have hc := (hT.inV c1).2.1
          have hca : c ≠ a := fun e' => by subst e'; exact e2 (hT.symF c1)
          have hcb : c ≠ b := fun e' => (hT.inV c1).2.2 e'.symm
          have := hM c hc hca hcb (by rw [hT.sym hc hb, hT.adj c1]; omega)
          omega
  exact (FJ.all hT h0 n (Nat.le_refl n)).eq a b ha hb fun z hz _ _ _ => hz
/-! what is below 100 can be reached -/
def FR (n : Nat) (f : Nat → Nat → Bool) (M : Mat) : Prop := ∀ a b, M a b < 100 → Rch f a b
theorem FR.step {n k a b : Nat} {f : Nat → Nat → Bool} {M : Mat} (h : FR n f M) : FR n f (fwS k a M b) := fun x y e => by
  unfold fwS up2 at e
  split at e
  · rename_i e'; obtain ⟨rfl, rfl⟩ := e'
    rcases Nat.lt_or_ge (M x y) 100 with h1 | h1
    · exact h x y h1
    · exact Rch.trans (h x k (by omega)) (h k y (by omega))
  · exact h x y e
theorem FR.foldl {n : Nat} {f : Nat → Nat → Bool} {g : Mat → Nat → Mat} (hg : ∀ M c, FR n f M → FR n f (g M c)) : ∀ (L : List Nat) (M : Mat), FR n f M → FR n f (L.foldl g M)
  | [], _, h => h
  | c :: L, M, h => FR.foldl hg L _ (hg M c h)
end Go.Proofs.YtoipleipokpnaaaGreat.Code
end
section
namespace Go.Proofs.YtoipleipokpnaaaGreat.Code
open Go Go.Ab
end Go.Proofs.YtoipleipokpnaaaGreat.Code
end
section
namespace Go.Proofs.YtoipleipokpnaaaGreat.Code
open Go Go.Ab
theorem Inv.gone {n : Nat} {l : List ZZ} {w : Nat → Nat} {g : Nat → Bool} {left : Nat} (h : Inv n l w g left) {x : Nat} (hg : g x = true) : (bitsN (w x)).length = 0 := by
  rw [List.length_eq_zero_iff]
  apply List.eq_nil_iff_forall_not_mem.2
  intro y hy
  rw [mem_bitsN (h.lt x), h.bit, hg] at hy
  simp at hy
end Go.Proofs.YtoipleipokpnaaaGreat.Code
end
section
namespace Go.Proofs.YtoipleipokpnaaaGreat.Code
open Go Go.Ab Go.RowKit Go.ChangeShapes Go.WideShapes
variable {H : Type} {enc : TypeId × Value → H} {P : Program} {W W' : World} {base : Nat} {spare : Nat → Bool} {held : Bool}
theorem flat_vr {n : Nat} {t : TypeId} {v : Value} {d : DataW H} {ps : List MemPlace} {r : Reach} {b0 : Nat}
    (hu : (∃ fs, P.underlying t = some (.struct fs)) ∨ ∃ m e, P.underlying t = some (.array m e)) (hf : flatT P n t = true)
    (hval : Value.okWide P W r b0 t v) (hd : DataW.Trod enc P W 0 spare held t v d ps) : ∃ ys, VR (ctx0 W) (.agg ys) v ∧ Sh P n t ys := by
  have hv : ∃ cs, v = .agg cs := by
    unfold Value.okWide at hval
    rcases hu with ⟨fs, hu⟩ | ⟨m, e, hu⟩
    · rw [hu] at hval
      obtain ⟨cs, h, _⟩ := hval
      exact ⟨cs, h⟩
    · rw [hu] at hval
      obtain ⟨cs, h, _⟩ := hval
      exact ⟨cs, h⟩
  obtain ⟨cs, rfl⟩ := hv
  obtain ⟨fuel, hd⟩ := hd
  obtain ⟨ys, h1, h2⟩ := flat_cel (W := W) n t hf _ _ _ hd
  have hc : (Value.agg cs).cells.toList = cs.toList := rfl
  rw [hc] at h2
  exact ⟨ys, .agg ys cs (by rw [h2.len]; simp) h2.one fun i c u hi hu => h2.vr i c u hi (by simpa using hu), h1⟩
theorem sh_nat {n : Nat} {e : TypeId} {k : IntKind} {ys : List AV} (he : P.underlying e = some (.int k)) (hk : k.min = 0) (h : Sh P (n + 1) e ys) : ∃ a : Nat, ys = [.int k a] ∧ (a : Int) ≤ k.max := by
  unfold Sh at h
  rw [he] at h
  obtain ⟨z, rfl, hw⟩ := h
  simp only [Lit.wf, Bool.and_eq_true, decide_eq_true_eq, hk] at hw
  obtain ⟨a, rfl⟩ := Int.eq_ofNat_of_zero_le hw.1
  exact ⟨a, rfl, hw.2⟩
theorem sh_bytes {e : TypeId} {m o : Nat} {ys : List AV} {t : TypeId} (ht : P.underlying t = some (.array m e)) (he : P.underlying e = some (.int .u8)) (ce : P.cellsOf e = 1) (ct : P.cellsOf t = m)
    (hs : Sh P 2 t ((ys.drop o).take m)) : ∀ i, i < m → ∃ a : Nat, ys[o + i]? = some (.int .u8 (a : Nat)) ∧ a < 256 := by
  unfold Sh at hs
  rw [ht] at hs
  obtain ⟨hl, hs⟩ := hs
  intro i hi
  have := hs i hi
  rw [ce, Nat.mul_one] at this
  obtain ⟨a, ha, ha2⟩ := sh_nat he (by decide) this
  have m1 : IntKind.u8.max = 255 := by decide
  refine ⟨a, ?_, by omega⟩
  have h2 : ((((ys.drop o).take m).drop i).take 1)[0]? = some (.int .u8 (a : Nat)) := by rw [ha]; rfl
  rw [List.getElem?_take, if_pos (by decide), List.getElem?_drop, List.getElem?_take, if_pos (by omega), List.getElem?_drop] at h2
  rw [← h2]; rfl
/-- a twig: a byte, eight and nine -/
theorem twig_vr {t e : TypeId} {f0 f1 f2 : Field} {v : Value} {d : DataW H} {ps : List MemPlace} {r : Reach} {b0 : Nat}
    (ht : P.underlying t = some (.struct #[f0, f1, f2])) (o0 : f0.offset = 0) (o1 : f1.offset = 1) (o2 : f2.offset = 9) (c0 : P.cellsOf f0.type = 1) (c1 : P.cellsOf f1.type = 8) (c2 : P.cellsOf f2.type = 9) (ct : P.cellsOf t = 18)
    (h0 : P.underlying f0.type = some (.int .u8)) (h1 : P.underlying f1.type = some (.array 8 e)) (h2 : P.underlying f2.type = some (.array 9 e)) (he : P.underlying e = some (.int .u8)) (ce : P.cellsOf e = 1)
    (hval : Value.okWide P W r b0 t v) (hd : DataW.Trod enc P W 0 spare held t v d ps) :
    ∃ f : Nat → Nat, (∀ i, f i < 256) ∧ VR (ctx0 W) (.agg (tw f)) v := by
  have hf : flatT P 3 t = true := by
    have ge : flatT P 1 e = true := by unfold flatT; rw [he]
    have g0 : flatT P 2 f0.type = true := by unfold flatT; rw [h0]
    have g1 : flatT P 2 f1.type = true := by unfold flatT; rw [h1]; simp [ce, c1, ge]
    have g2 : flatT P 2 f2.type = true := by unfold flatT; rw [h2]; simp [ce, c2, ge]
    unfold flatT; rw [ht]
    simp [rowed, o0, o1, o2, c0, c1, c2, ct, g0, g1, g2]
  obtain ⟨ys, hv, hs⟩ := flat_vr (.inl ⟨_, ht⟩) hf hval hd
  unfold Sh at hs
  rw [ht] at hs
  obtain ⟨hl, hs⟩ := hs
  rw [ct] at hl
  have s0 := hs f0 (by simp)
  have s1 := hs f1 (by simp)
  have s2 := hs f2 (by simp)
  rw [o0, c0] at s0
  rw [o1, c1] at s1
  rw [o2, c2] at s2
  obtain ⟨a0, ha0, hb0⟩ := sh_nat h0 (by decide) s0
  have m1 : IntKind.u8.max = 255 := by decide
  have x1 := sh_bytes h1 he ce c1 s1
  have x2 := sh_bytes h2 he ce c2 s2
  have each : ∀ i, i < 18 → ∃ a : Nat, ys[i]? = some (.int .u8 (a : Nat)) ∧ a < 256 := fun i hi => by
    by_cases e1 : i = 0
    · subst e1
      refine ⟨a0, ?_, by omega⟩
      have h2 : ((ys.drop 0).take 1)[0]? = some (.int .u8 (a0 : Nat)) := by rw [ha0]; rfl
      rw [List.getElem?_take, if_pos (by decide), List.getElem?_drop] at h2
      exact h2
    · by_cases e2 : i < 9
      · have := x1 (i - 1) (by omega)
        rwa [show 1 + (i - 1) = i by omega] at this
      · have := x2 (i - 9) (by omega)
        rwa [show 9 + (i - 9) = i by omega] at this
  obtain ⟨Y, hY⟩ := Go.Deep.choose_lt each
  refine ⟨fun i => if i < 18 then Y i else 0, fun i => ?_, ?_⟩
  · simp only
    split
    · rename_i h; exact (hY i h).2
    · decide
  · have : ys = tw fun i => if i < 18 then Y i else 0 := by
      unfold tw
      apply List.ext_getElem?
      intro i
      by_cases hi : i < 18
      · rw [(hY i hi).1]; simp [hi]
      · rw [List.getElem?_eq_none (by omega), List.getElem?_eq_none (by simp; omega)]
    rw [← this]; exact hv
end Go.Proofs.YtoipleipokpnaaaGreat.Code
end
section
namespace Go.Proofs.YtoipleipokpnaaaGreat.Code
open Go Go.Ab
variable {pure : Bool} {base bar : Nat} {H : Heap} {Q : AV → Heap → Prop} {K : AV → Heap → List Nat → Prop}
/-! far: a square of numbers on the heap -/
def topR (n : Nat) (C : Nat → AV) : List AV := (List.range n).map C
theorem topR_len {n : Nat} {C : Nat → AV} : (topR n C).length = n := by simp [topR]
theorem topR_get {n i : Nat} {C : Nat → AV} (hi : i < n) : (topR n C)[i]? = some (C i) := by simp [topR, hi]
theorem topR_getE {n i : Nat} {C : Nat → AV} (h : i < (topR n C).length) : (topR n C)[i]'h = C i := by simp [topR]
def updC (C : Nat → AV) (i : Nat) (x : AV) : Nat → AV := fun j => if j = i then x else C j
theorem topR_set {n i : Nat} {x : AV} {C : Nat → AV} (hi : i < n) : setCells (topR n C) i [x] = topR n (updC C i x) := by
  simp only [setCells]
  apply List.ext_getElem?
  intro j
  rw [List.getElem?_set]
  by_cases hj : i = j
  · subst hj
    rw [if_pos rfl, if_pos (by rw [topR_len]; exact hi), topR_get hi]; simp [updC]
  · rw [if_neg hj]
    rcases Nat.lt_or_ge j n with h | h
    · rw [topR_get h, topR_get h]; simp [updC, show ¬ j = i by omega]
    · rw [List.getElem?_eq_none (by rw [topR_len]; exact h), List.getElem?_eq_none (by rw [topR_len]; exact h)]
theorem updC_twice {C : Nat → AV} {i : Nat} {x y : AV} : updC (updC C i x) i y = updC C i y := by
  funext j; unfold updC; split <;> rfl
theorem updC_self {C : Nat → AV} {i : Nat} : updC C i (C i) = C := by
  funext j; unfold updC; split
  · rename_i e; rw [e]
  · rfl
/-- a square with rows of their own -/
structure MX (n p : Nat) (vs : Nat → Nat) (M : Mat) (A H : Heap) : Prop where
  base : A.length = p
  len : H.length = p + 1 + n
  low : ∀ j, j < p → H[j]? = A[j]?
  top : H[p]? = some (.row 0 (topR n fun i => .vec (p + 1 + i) (vs i) 0 n 1) 0 true)
  row : ∀ i, i < n → H[p + 1 + i]? = some (.row (vs i) (dc n fun j => ((M i j : Nat) : Int)) 0 false)
/-- the row of a square that is being made -/
structure MB (n p a : Nat) (vs : Nat → Nat) (M : Mat) (A X : Heap) : Prop where
  base : A.length = p
  len : X.length = p + 1 + a
  low : ∀ j, j < p → X[j]? = A[j]?
  top : X[p]? = some (.row 0 (topR n fun i => if i < a then .vec (p + 1 + i) (vs i) 0 n 1 else .nils) 0 true)
  row : ∀ i, i < a → X[p + 1 + i]? = some (.row (vs i) (dc n fun j => ((M i j : Nat) : Int)) 0 false)
def start0 : Mat := fun a b => if a = b then 0 else 100
def rowC (b a : Nat) : List Nat := (List.range b).map (start0 a)
theorem rowC_suc {b a : Nat} : rowC (b + 1) a = rowC b a ++ [start0 a b] := by simp [rowC, List.range_succ]
/-- a list of numbers under construction, nothing of it frozen -/
def Gr0 (l : List Nat) (H0 : Heap) (v : AV) (H : Heap) : Prop := (l = [] ∧ v = .nils ∧ H = H0) ∨ ∃ ver, l ≠ [] ∧ v = .vec H0.length ver 0 l.length 1 ∧ H = H0 ++ [.row ver (nats l) 0 false]
theorem Gr0.nat {l : List Nat} {H0 : Heap} {v : AV} {ex : Bool} {x : Nat} (g : Gr0 l H0 v H) (hb : bar ≤ H0.length) (hbase : base ≤ H0.length) (hlen : l.length < 1000)
    (h : ∀ v' H' tc, Gr0 (l ++ [x]) H0 v' H' → K v' H' tc) : appWp base bar 1 8 (some v) (some (.lst 1 ex [.int .i64 (x : Int)])) H K := by
  have e : asrc H 1 (.lst 1 ex [.int .i64 (x : Int)]) = some [.int .i64 (x : Int)] := by rw [asrc_lst]; rfl
  rcases g with ⟨rfl, rfl, rfl⟩ | ⟨ver, hne, rfl, rfl⟩
  · simp [appWp, e, go_sem, aappend, AV.noVec.noVecs, AV.noVec]
    exact h _ _ _ (.inr ⟨0, by simp, by simp, by simp [nats]⟩)
  · have hl : (nats l).length = l.length := nats_len
    have h1 : ¬ 140737488355328 < (l.length + 1) * 8 := by omega
    have h2 : ¬ l.length + 1 ≤ l.length := by omega
    simp [appWp, e, go_sem, aappend, AV.noVec.noVecs, AV.noVec, hl, h1, h2, hb, hbase, List.take_of_length_le (show (nats l).length ≤ l.length by omega)]
    exact h _ _ _ (.inr ⟨ver + 1, by simp, by simp, by simp [nats]⟩)
theorem Gr0.get {l : List Nat} {H0 : Heap} {v : AV} {i : Nat} {b : Blk} (g : Gr0 l H0 v H) (h : H0[i]? = some b) : H[i]? = some b := by
  rcases g with ⟨rfl, rfl, rfl⟩ | ⟨ver, hne, rfl, rfl⟩
  · exact h
  · rw [List.getElem?_append_left (List.getElem?_eq_some_iff.1 h).1]; exact h
theorem Gr0.set {l : List Nat} {H0 : Heap} {v : AV} {i : Nat} {b : Blk} (g : Gr0 l H0 v H) (hi : i < H0.length) : Gr0 l (H0.set i b) v (H.set i b) := by
  rcases g with ⟨rfl, rfl, rfl⟩ | ⟨ver, hne, rfl, rfl⟩
  · exact .inl ⟨rfl, rfl, rfl⟩
  · refine .inr ⟨ver, hne, by simp, ?_⟩
    rw [List.set_append_left _ _ hi]
theorem Gr0.one {l : List Nat} {H0 : Heap} {v : AV} (g : Gr0 l H0 v H) : v.isTup = false ∧ v.cells = [v] := by
  rcases g with ⟨rfl, rfl, rfl⟩ | ⟨ver, hne, rfl, rfl⟩ <;> exact ⟨rfl, rfl⟩
theorem l31a {n p a : Nat} {v1 : AV} {C : Nat → AV} {X : Heap} (hn : n ≤ 9) (ha : a < n) (hpl : p < X.length) (hb : bar ≤ p) (hbase : base ≤ p) {R : PQ} : ∀ (k b : Nat), b + k = n → ∀ (v : AV) (H : Heap), Gr0 (rowC b a) (X.set p (.row 0 (topR n (updC C a v)) 0 true)) v H →
    (∀ v' H', Gr0 (rowC n a) (X.set p (.row 0 (topR n (updC C a v')) 0 true)) v' H' → R (.exit 2) [(1, v1), (3, .vec p 0 0 n 1), (16, .int .i64 (n : Nat)), (17, .int .i64 (a : Nat)), (4, .int .i64 (a : Nat)), (21, .int .i64 (n : Nat)), (22, .int .i64 (n : Nat)), (23, .bool false)] H') →
    Wp E base bar (.loop c31_l0) [(1, v1), (3, .vec p 0 0 n 1), (16, .int .i64 (n : Nat)), (17, .int .i64 (a : Nat)), (4, .int .i64 (a : Nat)), (21, .int .i64 (n : Nat)), (22, .int .i64 (b : Nat))] H R := by
  intro k
  induction k with
  | zero =>
    intro b hb' v H gr h
    obtain rfl : b = n := by omega
    rw [wp_round c31_l0.eq_1]
    simp [go_sem]
    exact h v H gr
  | succ k ih =>
    intro b hb' v H gr h
    have hlt : b < n := by omega
    have hp := Gr0.get gr (i := p) (b := .row 0 (topR n (updC C a v)) 0 true) (by rw [List.getElem?_set_self hpl])
    have hnext := fun v' H' gr' => ih (b + 1) (by omega) v' H' gr' h
    rw [rowC_suc] at hnext
    have hself : updC C a v a = v := by unfold updC; rw [if_pos rfl]
    have hlenr : (rowC b a).length = b := by simp [rowC]
    have hstep : ∀ (x : Nat), x = start0 a b → ∀ {K : AV → Heap → List Nat → Prop} {ex : Bool}, (∀ v' H' tc, H'[p]? = some (.row 0 (topR n (updC C a v)) 0 true) → v'.isTup = false → v'.cells = [v'] → Wp E base bar (.loop c31_l0) [(1, v1), (3, .vec p 0 0 n 1), (16, .int .i64 (n : Nat)), (17, .int .i64 (a : Nat)), (4, .int .i64 (a : Nat)), (21, .int .i64 (n : Nat)), (22, .int .i64 ((b + 1 : Nat) : Int))] (H'.set p (.row 0 (topR n (updC C a v')) 0 true)) R → K v' H' tc) → appWp base bar 1 8 (some v) (some (.lst 1 ex [.int .i64 (x : Int)])) H K := fun x hx K ex hK => by
      refine Gr0.nat gr (by simp; omega) (by simp; omega) (by omega) fun v' H' tc gr' => ?_
      have hp' := Gr0.get gr' (i := p) (b := .row 0 (topR n (updC C a v)) 0 true) (by rw [List.getElem?_set_self hpl])
      have gr2 := Gr0.set gr' (i := p) (b := .row 0 (topR n (updC C a v')) 0 true) (by rw [List.length_set]; exact hpl)
      rw [List.set_set, hx] at gr2
      exact hK v' H' tc hp' (Gr0.one gr').1 (Gr0.one gr').2 (hnext v' _ gr2)
    rw [wp_round c31_l0.eq_1]
    by_cases e : a = b
    · subst e
      have e0 : start0 a a = 0 := by simp [start0]
      simp [go_sem, hlt, aload, hp, topR_len, topR_getE, hself, aop, fillA, setCells, AV.cells, chunks, Ab.part]
      refine hstep 0 e0.symm fun v' H' tc hp' t1 t2 hw => ?_
      simp [go_sem, storeWp, astore, hp', t1, t2, topR_len, hb, hbase, ha, show a + 1 ≤ n from ha, topR_set, updC_twice, i64_suc (show a < 1000000 by omega)]
      exact hw
    · have e0 : start0 a b = 100 := by simp [start0, e]
      have e' : ¬ (a : Int) = (b : Int) := by omega
      simp [go_sem, hlt, ha, aload, hp, topR_len, topR_get, topR_getE, hself, aop, fillA, setCells, AV.cells, chunks, Ab.part, e, e']
      refine hstep 100 e0.symm fun v' H' tc hp' t1 t2 hw => ?_
      simp [go_sem, storeWp, astore, hp', t1, t2, topR_len, hb, hbase, ha, show a + 1 ≤ n from ha, topR_set, updC_twice, i64_suc (show b < 1000000 by omega)]
      exact hw
end Go.Proofs.YtoipleipokpnaaaGreat.Code
end
section
namespace Go.Proofs.YtoipleipokpnaaaGreat.Code
open Go Go.Ab
variable {pure : Bool} {base bar : Nat} {H : Heap} {Q : AV → Heap → Prop} {K : AV → Heap → List Nat → Prop}
theorem set_same {H : Heap} {p : Nat} {b : Blk} (h : H[p]? = some b) : H.set p b = H := by
  apply List.ext_getElem?
  intro j
  rw [List.getElem?_set]
  by_cases e : p = j
  · subst e
    rw [if_pos rfl, if_pos (List.getElem?_eq_some_iff.1 h).1, h]
  · rw [if_neg e]
theorem rowC_dc {n a : Nat} : nats (rowC n a) = dc n fun j => ((start0 a j : Nat) : Int) := by
  simp [nats, rowC, dc, Function.comp_def]
/-- row by row -/
theorem l31b {n p : Nat} {v1 : AV} {q : AV} {A : Heap} (hn : n ≤ 9) (h1 : 1 ≤ n) (hv1 : v1 = .ptr p 0 0) (hA : A[p]? = some (.row 0 [.int .i64 (n : Nat), q] 0 true)) (hAl : A.length = p + 1) (hb : bar ≤ p + 1) (hbase : base ≤ p + 1) {R : PQ} : ∀ (k a : Nat), a + k = n → ∀ (vs : Nat → Nat) (X : Heap), MB n (p + 1) a vs start0 A X →
    (∀ vs' H', MX n (p + 1) vs' start0 A H' → R (.exit 0) [(1, v1), (3, .vec (p + 1) 0 0 n 1), (16, .int .i64 (n : Nat)), (17, .int .i64 (n : Nat)), (18, .bool false)] H') →
    Wp E base bar (.loop c31_l1) [(1, v1), (3, .vec (p + 1) 0 0 n 1), (16, .int .i64 (n : Nat)), (17, .int .i64 (a : Nat))] X R := by
  intro k
  induction k with
  | zero =>
    intro a ha vs X hX h
    obtain rfl : a = n := by omega
    rw [wp_round c31_l1.eq_1]
    simp [go_sem]
    refine h vs X ⟨hX.base, by rw [hX.len], hX.low, ?_, hX.row⟩
    rw [hX.top]
    have : topR a (fun i => if i < a then AV.vec (p + 1 + 1 + i) (vs i) 0 a 1 else .nils) = topR a fun i => .vec (p + 1 + 1 + i) (vs i) 0 a 1 := by
      unfold topR
      refine List.map_congr_left fun i hi => ?_
      rw [if_pos (List.mem_range.1 hi)]
    rw [this]
  | succ k ih =>
    intro a ha vs X hX h
    have hlt : a < n := by omega
    subst hv1
    have hp : X[p]? = some (.row 0 [.int .i64 (n : Nat), q] 0 true) := by rw [hX.low p (by omega)]; exact hA
    have hXl := hX.len
    have hC : updC (fun i => if i < a then AV.vec (p + 1 + 1 + i) (vs i) 0 n 1 else .nils) a .nils = fun i => if i < a then AV.vec (p + 1 + 1 + i) (vs i) 0 n 1 else .nils := by
      have := updC_self (C := fun i => if i < a then AV.vec (p + 1 + 1 + i) (vs i) 0 n 1 else .nils) (i := a)
      simpa using this
    have la := fun {R : PQ} hR => l31a (R := R) (base := base) (bar := bar) (v1 := .ptr p 0 0) (C := fun i => if i < a then AV.vec (p + 1 + 1 + i) (vs i) 0 n 1 else .nils) (X := X) (p := p + 1) hn hlt (by omega) hb hbase n 0 (by omega) .nils X (by
      rw [hC, set_same hX.top]
      exact .inl ⟨rfl, rfl, rfl⟩) hR
    rw [wp_round c31_l1.eq_1]
    simp [go_sem, hlt, aload, hp, Ab.part]
    refine la fun v' H' g => ?_
    have hne : rowC n a ≠ [] := fun e => by
      have := congrArg List.length e
      simp [rowC] at this; omega
    have hrl : (rowC n a).length = n := by simp [rowC]
    rcases g with ⟨e, _, _⟩ | ⟨ver, _, hv', hH'⟩
    · exact absurd e hne
    · rw [List.length_set, hrl, hXl] at hv'
      have hMB : MB n (p + 1) (a + 1) (fun i => if i = a then ver else vs i) start0 A H' := by
        refine ⟨hX.base, by rw [hH']; simp; omega, fun j hj => ?_, ?_, fun i hi => ?_⟩
        · rw [hH', List.getElem?_append_left (by simp; omega), List.getElem?_set_ne (by omega)]
          exact hX.low j hj
        · rw [hH', List.getElem?_append_left (by simp; omega), List.getElem?_set_self (by omega)]
          have : (updC (fun i => if i < a then AV.vec (p + 1 + 1 + i) (vs i) 0 n 1 else .nils) a v') = fun i => if i < a + 1 then AV.vec (p + 1 + 1 + i) (if i = a then ver else vs i) 0 n 1 else .nils := by
            funext i
            unfold updC
            by_cases e : i = a
            · subst e; rw [if_pos rfl, if_pos (by omega), if_pos rfl, hv']
            · rw [if_neg e, if_neg e]
              by_cases e2 : i < a
              · have e3 : i < a + 1 := by omega
                simp [e2, e3]
              · have e3 : ¬ i < a + 1 := by omega
                simp [e2, e3]
          rw [this]
        · by_cases e : i = a
          · subst e
            rw [if_pos rfl, hH', List.getElem?_append_right (by simp; omega)]
            simp [hXl, rowC_dc]
          · rw [if_neg e, hH', List.getElem?_append_left (by simp; omega), List.getElem?_set_ne (by omega)]
            exact hX.row i (by omega)
      simp [go_sem, i64_suc (show a < 1000000 by omega)]
      exact ih (a + 1) (by omega) _ H' hMB h
/-- a number of the square is set -/
theorem MX.set {n p i j v : Nat} {vs : Nat → Nat} {M : Mat} {A : Heap} (h : MX n p vs M A H) (hi : i < n) : MX n p vs (up2 M i j v) A (H.set (p + 1 + i) (.row (vs i) (dc n (updZ (fun j => ((M i j : Nat) : Int)) j (v : Int))) 0 false)) := by
  have hl := h.len
  refine ⟨h.base, by rw [List.length_set]; exact hl, fun k hk => ?_, ?_, fun k hk => ?_⟩
  · rw [List.getElem?_set_ne (by omega)]; exact h.low k hk
  · rw [List.getElem?_set_ne (by omega)]; exact h.top
  · by_cases e : k = i
    · subst e
      rw [List.getElem?_set_self (by omega)]
      congr 3
      funext j'
      unfold updZ up2
      by_cases e2 : j' = j
      · subst e2; simp
      · simp [e2]
    · rw [List.getElem?_set_ne (by omega), h.row k hk]
      congr 3
      funext j'
      unfold up2
      rw [if_neg (fun e' => e e'.1)]
end Go.Proofs.YtoipleipokpnaaaGreat.Code
end
section
namespace Go.Proofs.YtoipleipokpnaaaGreat.Code
open Go Go.Ab
variable {pure : Bool} {base bar : Nat} {H : Heap} {Q : AV → Heap → Prop} {K : AV → Heap → List Nat → Prop}
theorem dc_set' {n i : Nat} {x : Int} {D : Nat → Int} (hi : i < n) : (dc n D).set i (.int .i64 x) = dc n (updZ D i x) := dc_set hi
abbrev cRow (M : Mat) (i : Nat) : Nat → Int := fun j => ((M i j : Nat) : Int)
theorem l31c {n p : Nat} {vs : Nat → Nat} {q : AV} {l : List ZZ} {A : Heap} (hq : isP q l) (hl : l.length < 1000) (hn : n ≤ 9) (hv : ∀ p ∈ l, okP n p) (hb : bar ≤ p) (hbase : base ≤ p) {R : PQ} : ∀ (k i : Nat), i + k = l.length → ∀ (M : Mat) (H : Heap), MX n p vs M A H →
    (∀ H', MX n p vs ((l.drop i).foldl tieM M) A H' → R (.exit 4) [(3, .vec p 0 0 n 1), (41, q), (42, .int .i64 (l.length : Nat)), (43, .int .i64 (l.length : Nat)), (44, .bool false)] H') →
    Wp E base bar (.loop c31_l2) [(3, .vec p 0 0 n 1), (41, q), (42, .int .i64 (l.length : Nat)), (43, .int .i64 (i : Nat))] H R := by
  intro k
  induction k with
  | zero =>
    intro i hi M H hX h
    obtain rfl : i = l.length := by omega
    rw [List.drop_length] at h
    rw [wp_round c31_l2.eq_1]
    simp [go_sem]
    exact h H hX
  | succ k ih =>
    intro i hi M H hX h
    have hlt : i < l.length := by omega
    rw [List.drop_eq_getElem_cons hlt, List.foldl_cons] at h
    have hvi := hv _ (List.getElem_mem hlt)
    have hix := fun (H : Heap) (K : AV → Heap → List Nat → Prop) => hq.ix (H := H) (K := K) (k := .i64) hlt
    obtain ⟨⟨x, y⟩, hp⟩ : ∃ p, l[i] = p := ⟨_, rfl⟩
    rw [hp] at hvi h
    simp only [hp, zc] at hix
    obtain ⟨q1, q2, q3, q4, q5⟩ := hvi
    simp only at q1 q2 q3 q4 q5
    obtain ⟨x, rfl⟩ := Int.eq_ofNat_of_zero_le q1
    obtain ⟨y, rfl⟩ := Int.eq_ofNat_of_zero_le q2
    have hx : x < n := by omega
    have hy : y < n := by omega
    have hxy : x ≠ y := by omega
    have hM1 := MX.set (v := 1) (j := y) hX hx
    have hM2 := MX.set (v := 1) (j := x) hM1 hy
    have hnext := ih (i + 1) (by omega) _ _ hM2 h
    have hXl := hX.len
    have g0 : ∀ G : Blk, (H ++ [G])[p]? = some (.row 0 (topR n fun i => .vec (p + 1 + i) (vs i) 0 n 1) 0 true) := fun G => by rw [List.getElem?_append_left (by omega)]; exact hX.top
    have g1 : ∀ (G : Blk), (H ++ [G])[p + 1 + x]? = some (.row (vs x) (dc n (cRow M x)) 0 false) := fun G => by rw [List.getElem?_append_left (by omega)]; exact hX.row x hx
    have s1 : ∀ (b G : Blk), (H ++ [G]).set (p + 1 + x) b = H.set (p + 1 + x) b ++ [G] := fun b G => by rw [List.set_append_left _ _ (by omega)]
    have g2 : ∀ (b G : Blk), (H.set (p + 1 + x) b ++ [G])[p + 1 + y]? = some (.row (vs y) (dc n (cRow M y)) 0 false) := fun b G => by
      rw [List.getElem?_append_left (by rw [List.length_set]; omega), List.getElem?_set_ne (by omega)]; exact hX.row y hy
    have g3 : ∀ (b G : Blk), (H.set (p + 1 + x) b ++ [G])[H.length]? = some G := fun b G => by
      rw [List.getElem?_append_right (by simp)]; simp
    have s2 : ∀ (b c G : Blk), (H.set (p + 1 + x) b ++ [G]).set (p + 1 + y) c = (H.set (p + 1 + x) b).set (p + 1 + y) c ++ [G] := fun b c G => by rw [List.set_append_left _ _ (by rw [List.length_set]; omega)]
    have s3 : ∀ (b c G : Blk), ((H.set (p + 1 + x) b).set (p + 1 + y) c ++ [G]).take H.length = (H.set (p + 1 + x) b).set (p + 1 + y) c := fun b c G => by
      rw [List.take_append_of_le_length (by simp), List.take_of_length_le (by simp)]
    have hqt := hq.top
    rw [wp_round c31_l2.eq_1]
    have c1 : y + 1 ≤ n := hy
    have c2 : x + 1 ≤ n := hx
    have c3 : bar ≤ p + 1 + x := by omega
    have c4 : bar ≤ p + 1 + y := by omega
    have c5 : ¬ H.length = p + 1 + x := by omega
    have c6 : max (p + 1) q.top ≤ H.length := by rw [hqt]; omega
    have d1 : ∀ (D : Nat → Int) (z : Int), (dc n D).set y (.int .i64 z) = dc n (updZ D y z) := fun D z => dc_set' hy
    have d2 : ∀ (D : Nat → Int) (z : Int), (dc n D).set x (.int .i64 z) = dc n (updZ D x z) := fun D z => dc_set' hx
    have hM1r : (up2 M x y 1) y = M y := by
      funext j; unfold up2; rw [if_neg (fun e => hxy e.1.symm)]
    rw [hM1r] at hnext
    simp [go_sem, hlt, hix, aload, setCells, AV.cells, storeWp, astore, AV.isTup, show bar ≤ H.length by omega, Ab.part, g0, g1, topR_len, topR_getE, hx, hy]
    simp [dc_len, c1, c2, c3, c4, d1, d2, s1, g2, s2, c5, c6, s3, i64_suc (show i < 1000000 by omega)]
    exact hnext
end Go.Proofs.YtoipleipokpnaaaGreat.Code
end
section
namespace Go.Proofs.YtoipleipokpnaaaGreat.Code
open Go Go.Ab
variable {pure : Bool} {base bar : Nat} {H : Heap} {Q : AV → Heap → Prop} {K : AV → Heap → List Nat → Prop}
def Le100 (M : Mat) : Prop := ∀ i j, M i j ≤ 100
theorem Le100.step {M : Mat} {k a b : Nat} (h : Le100 M) : Le100 (fwS k a M b) := fun i j => Nat.le_trans fwS_le (h i j)
theorem min_castG {m d : Nat} : (if d < m then (d : Int) else (m : Int)) = ((min m d : Nat) : Int) := by split <;> omega
theorem l31d {n p k0 a : Nat} {vs : Nat → Nat} {v66 v71 : AV} {A : Heap} (hn : n ≤ 9) (hk : k0 < n) (ha : a < n) (hb : bar ≤ p) (hbase : base ≤ p) {R : PQ} : ∀ (k b : Nat), b + k = n → ∀ (M : Mat) (H : Heap), Le100 M → MX n p vs M A H →
    (∀ H', MX n p vs ((List.range' b k).foldl (fwS k0 a) M) A H' → Le100 ((List.range' b k).foldl (fwS k0 a) M) → R (.exit 10) [(3, .vec p 0 0 n 1), (65, .int .i64 (n : Nat)), (66, v66), (9, .int .i64 (k0 : Nat)), (70, .int .i64 (n : Nat)), (71, v71), (10, .int .i64 (a : Nat)), (75, .int .i64 (n : Nat)), (76, .int .i64 (n : Nat)), (77, .bool false)] H') →
    Wp E base bar (.loop c31_l3) [(3, .vec p 0 0 n 1), (65, .int .i64 (n : Nat)), (66, v66), (9, .int .i64 (k0 : Nat)), (70, .int .i64 (n : Nat)), (71, v71), (10, .int .i64 (a : Nat)), (75, .int .i64 (n : Nat)), (76, .int .i64 (b : Nat))] H R := by
  intro k
  induction k with
  | zero =>
    intro b hb' M H hL hX h
    obtain rfl : b = n := by omega
    rw [List.range'_zero] at h
    rw [wp_round c31_l3.eq_1]
    simp [go_sem]
    exact h H hX hL
  | succ k ih =>
    intro b hb' M H hL hX h
    have hlt : b < n := by omega
    rw [List.range'_succ, List.foldl_cons] at h
    have hM1 := MX.set (v := min (M a b) (M a k0 + M k0 b)) (j := b) hX ha
    have hnext := ih (b + 1) (by omega) _ _ (hL.step (k := k0) (a := a) (b := b)) hM1 h
    have hXl := hX.len
    have g0 := hX.top
    have ga := hX.row a ha
    have gk := hX.row k0 hk
    have e1 := hL a k0
    have e2 := hL k0 b
    have e3 := hL a b
    have hw : IntKind.i64.wrap (((M a k0 : Nat) : Int) + ((M k0 b : Nat) : Int)) = ((M a k0 + M k0 b : Nat) : Int) := by rw [Go.IntWalk.i64_in _ (by omega)]; rfl
    have c1 : b + 1 ≤ n := hlt
    have c3 : bar ≤ p + 1 + a := by omega
    have c4 : base ≤ p + 1 + a := by omega
    have d1 : ∀ (D : Nat → Int) (z : Int), (dc n D).set b (.int .i64 z) = dc n (updZ D b z) := fun D z => dc_set' hlt
    have hM1' := hnext
    generalize M a k0 + M k0 b = S at *
    rw [wp_round c31_l3.eq_1]
    simp [go_sem, hlt, aload, g0, ga, gk, topR_len, topR_getE, dc_len, dc_getE, ha, hk, Ab.part]
    simp [go_sem, aop, Opd.ev, hw, min_castG]
    generalize min (M a b) S = z at *
    refine ⟨hlt, ?_⟩
    simp [go_sem, storeWp, astore, ga, AV.isTup, AV.cells, dc_len, c1, c3, c4, d1, i64_suc (show b < 1000000 by omega)]
    exact hM1'
/-- one knot for all -/
theorem l31e {n p k0 : Nat} {vs : Nat → Nat} {v66 : AV} {A : Heap} (hn : n ≤ 9) (hk : k0 < n) (hb : bar ≤ p) (hbase : base ≤ p) {R : PQ} : ∀ (k a : Nat), a + k = n → ∀ (M : Mat) (H : Heap), Le100 M → MX n p vs M A H →
    (∀ H', MX n p vs ((List.range' a k).foldl (fwA n k0) M) A H' → Le100 ((List.range' a k).foldl (fwA n k0) M) → R (.exit 8) [(3, .vec p 0 0 n 1), (65, .int .i64 (n : Nat)), (66, v66), (9, .int .i64 (k0 : Nat)), (70, .int .i64 (n : Nat)), (71, .int .i64 (n : Nat)), (72, .bool false)] H') →
    Wp E base bar (.loop c31_l4) [(3, .vec p 0 0 n 1), (65, .int .i64 (n : Nat)), (66, v66), (9, .int .i64 (k0 : Nat)), (70, .int .i64 (n : Nat)), (71, .int .i64 (a : Nat))] H R := by
  intro k
  induction k with
  | zero =>
    intro a ha M H hL hX h
    obtain rfl : a = n := by omega
    rw [List.range'_zero] at h
    rw [wp_round c31_l4.eq_1]
    simp [go_sem]
    exact h H hX hL
  | succ k ih =>
    intro a ha M H hL hX h
    have hlt : a < n := by omega
    rw [List.range'_succ, List.foldl_cons] at h
    have er : List.range' 0 n = List.range n := List.range_eq_range'.symm
    have ld := fun {R : PQ} {v71 : AV} hR => l31d (R := R) (base := base) (bar := bar) (k0 := k0) (v66 := v66) (v71 := v71) hn hk hlt hb hbase n 0 (by omega) M H hL hX hR
    rw [er] at ld
    rw [wp_round c31_l4.eq_1]
    simp [go_sem, hlt]
    refine ld fun H' hX' hL' => ?_
    have hnext := ih (a + 1) (by omega) _ H' hL' hX' h
    simp [go_sem, i64_suc (show a < 1000000 by omega)]
    exact hnext
theorem l31f {n p : Nat} {vs : Nat → Nat} {A : Heap} (hn : n ≤ 9) (hb : bar ≤ p) (hbase : base ≤ p) {R : PQ} : ∀ (k a : Nat), a + k = n → ∀ (M : Mat) (H : Heap), Le100 M → MX n p vs M A H →
    (∀ H', MX n p vs ((List.range' a k).foldl (fwK n) M) A H' → R (.exit 6) [(3, .vec p 0 0 n 1), (65, .int .i64 (n : Nat)), (66, .int .i64 (n : Nat)), (67, .bool false)] H') →
    Wp E base bar (.loop c31_l5) [(3, .vec p 0 0 n 1), (65, .int .i64 (n : Nat)), (66, .int .i64 (a : Nat))] H R := by
  intro k
  induction k with
  | zero =>
    intro a ha M H hL hX h
    obtain rfl : a = n := by omega
    rw [List.range'_zero] at h
    rw [wp_round c31_l5.eq_1]
    simp [go_sem]
    exact h H hX
  | succ k ih =>
    intro a ha M H hL hX h
    have hlt : a < n := by omega
    rw [List.range'_succ, List.foldl_cons] at h
    have er : List.range' 0 n = List.range n := List.range_eq_range'.symm
    have ld := fun {R : PQ} {v66 : AV} hR => l31e (R := R) (base := base) (bar := bar) (k0 := a) (v66 := v66) hn hlt hb hbase n 0 (by omega) M H hL hX hR
    rw [er] at ld
    rw [wp_round c31_l5.eq_1]
    simp [go_sem, hlt]
    refine ld fun H' hX' hL' => ?_
    have hnext := ih (a + 1) (by omega) _ H' hL' hX' h
    simp [go_sem, i64_suc (show a < 1000000 by omega)]
    exact hnext
/-- the square is frozen -/
theorem frz_rows {n p d : Nat} {vs : Nat → Nat} {M : Mat} (hb : bar ≤ p) : ∀ (L : List Nat) (H : Heap), (∀ i ∈ L, ∃ fz, H[p + 1 + i]? = some (.row (vs i) (dc n (cRow M i)) fz false)) → p < H.length →
    ∃ H', frzsW (Go.Ab.frz (d + 3) bar) H (L.map fun i => .vec (p + 1 + i) (vs i) 0 n 1) = some (L.map fun i => .lst 1 false (dc n (cRow M i)), H') ∧ H'.length = H.length ∧ ∀ j, j ≤ p → H'[j]? = H[j]?
  | [], H, _, _ => ⟨H, rfl, rfl, fun _ _ => rfl⟩
  | a :: L, H, h, hp => by
    obtain ⟨fz, ha⟩ := h a (List.mem_cons_self ..)
    have e1 := frz_vec (d := d + 2) (bar := bar) (H := H) (id := p + 1 + a) (ver := vs a) (off := 0) (len := n) (sz := 1) (cs := dc n (cRow M a)) (fz := fz) (ex := false) (xs := dc n (cRow M a)) (H' := H.set (p + 1 + a) (.row (vs a) (dc n (cRow M a)) (max fz (0 + n)) false)) ha (by simp [dc_len]) (by omega) (by
      have e1 : ((dc n (cRow M a)).drop 0).take (n * 1) = dc n (cRow M a) := by
        rw [List.drop_zero, Nat.mul_one, List.take_of_length_le (by rw [dc_len]; exact Nat.le_refl _)]
      rw [e1, plains dc_plain, Nat.mul_one])
    have e2 : chunks 1 n (dc n (cRow M a)) = dc n (cRow M a) := by have := chunks_one (l := dc n (cRow M a)); rwa [dc_len] at this
    rw [e2] at e1
    have hal := (List.getElem?_eq_some_iff.1 ha).1
    obtain ⟨H', f1, f2, f3⟩ := frz_rows (d := d) hb L (H.set (p + 1 + a) (.row (vs a) (dc n (cRow M a)) (max fz (0 + n)) false)) (fun i hi => by
      by_cases e : i = a
      · subst e; exact ⟨_, List.getElem?_set_self hal⟩
      · obtain ⟨fz', hi'⟩ := h i (List.mem_cons_of_mem _ hi)
        exact ⟨fz', by rw [List.getElem?_set_ne (by omega)]; exact hi'⟩) (by simpa using hp)
    refine ⟨H', ?_, by rw [f2, List.length_set], fun j hj => by rw [f3 j hj, List.getElem?_set_ne (by omega)]⟩
    rw [List.map_cons, frzsW, e1]
    simp only [f1]
    rfl
end Go.Proofs.YtoipleipokpnaaaGreat.Code
end
section
namespace Go.Proofs.YtoipleipokpnaaaGreat.Code
open Go Go.Ab
variable {pure : Bool} {base bar : Nat} {H : Heap} {Q : AV → Heap → Prop} {K : AV → Heap → List Nat → Prop}
/-- a square that can be read -/
def isSq (v : AV) (n : Nat) (M : Mat) : Prop := v = .lst 1 false ((List.range n).map fun i => .lst 1 false (dc n (cRow M i)))
theorem isSq.len {v : AV} {n : Nat} {M : Mat} (h : isSq v n M) : lenWp (some v) H K = K (.int .i64 (n : Int)) H [] := by
  subst h; rw [lenWp_lst]; simp
theorem isSq.frz {v : AV} {n : Nat} {M : Mat} (h : isSq v n M) {d : Nat} : Go.Ab.frz (d + 1) bar H v = some (v, H) := by subst h; rfl
theorem isSq.top {v : AV} {n : Nat} {M : Mat} (h : isSq v n M) : v.top = 0 := by
  subst h
  rw [top_lst]
  exact tops_zero fun x hx => by
    obtain ⟨i, _, rfl⟩ := List.mem_map.1 hx
    rw [top_lst]; exact dc_tops
theorem isSq.isTup {v : AV} {n : Nat} {M : Mat} (h : isSq v n M) : v.isTup = false := by subst h; rfl
theorem isSq.cells {v : AV} {n : Nat} {M : Mat} (h : isSq v n M) : v.cells = [v] := by subst h; rfl
theorem isSq.ix {v : AV} {n : Nat} {M : Mat} (h : isSq v n M) {i : Nat} {k : IntKind} (hi : i < n) : ixaSWp 1 (some v) (some (.int k (i : Int))) H K = K (.fp (.lst 1 false (dc n (cRow M i)))) H [] := by
  subst h
  rw [ixaSWp_lst]
  simp [hi, valWp_some]
theorem start_le : ∀ {l : List ZZ} {M : Mat}, Le100 M → Le100 (l.foldl tieM M)
  | [], _, h => h
  | p :: r, M, h => by
    rw [List.foldl_cons]
    refine start_le fun i j => ?_
    unfold tieM up2
    split
    · omega
    · split
      · omega
      · exact h i j
/-- far -/
theorem k31 {n : Nat} {q : AV} {l : List ZZ} (hq : isP q l) (hl : l.length < 1000) (hn : n ≤ 9) (h1 : 1 ≤ n) (hv : ∀ p ∈ l, okP n p) (hbar : bar ≤ H.length)
    (h : ∀ u, isSq u n (farF n l) → Q u H) : WpCall E pure base bar 31 [.agg [.int .i64 (n : Nat), q]] H Q := by
  rw [call31]
  have e0 : frzAll bar H [.agg [.int .i64 (n : Nat), q]] = some ([.agg [.int .i64 (n : Nat), q]], H) := by simp [frzAll, frz.frzs, frzsW, frz_agg, frz_int, hq.frz]
  rw [e0]
  have hb' : (if pure = true then H.length else bar) ≤ H.length := bar_if hbar
  have hz : List.flatten (List.replicate n [AV.nils]) = topR n fun _ => .nils := by
    simp [topR, List.flatten_replicate_singleton, List.map_const']
  have hbd : n * 24 ≤ 140737488355328 := by omega
  have hMB : MB n (H.length + 1) 0 (fun _ => 0) start0 (H ++ [.row 0 [.int .i64 (n : Nat), q] 0 true]) (H ++ [.row 0 [.int .i64 (n : Nat), q] 0 true, .row 0 (topR n fun _ => .nils) 0 true]) := by
    refine ⟨by simp, by simp, fun j hj => ?_, by simp, fun i hi => by omega⟩
    rw [show H ++ [Blk.row 0 [.int .i64 (n : Nat), q] 0 true, .row 0 (topR n fun _ => .nils) 0 true] = (H ++ [Blk.row 0 [.int .i64 (n : Nat), q] 0 true]) ++ [.row 0 (topR n fun _ => .nils) 0 true] by simp]
    rw [List.getElem?_append_left (by simp; omega)]
  have hL0 : Le100 start0 := fun i j => by unfold start0; split <;> omega
  have lb := fun {R : PQ} hb hbase hR => l31b (R := R) (base := H.length) (bar := if pure = true then H.length else bar) (p := H.length) (v1 := .ptr H.length 0 0) (q := q) (A := H ++ [.row 0 [.int .i64 (n : Nat), q] 0 true]) hn h1 rfl (by simp) (by simp) hb hbase n 0 (by omega) (fun _ => 0) _ hMB hR
  simp [go_sem, WpFun, c31, hq.isTup, hq.cells, aload, AV.isTup, AV.cells, Ab.part, aop, AV.asNat, hz, hbd]
  refine lb (by omega) (by omega) fun vs H1 hX => ?_
  have hp1 : H1[H.length]? = some (.row 0 [.int .i64 (n : Nat), q] 0 true) := by rw [hX.low H.length (by omega)]; simp
  have lc := fun {R : PQ} hb hbase hR => l31c (R := R) (base := H.length) (bar := if pure = true then H.length else bar) (p := H.length + 1) (vs := vs) hq hl hn hv hb hbase l.length 0 (by omega) start0 H1 hX hR
  rw [List.drop_zero] at lc
  simp [go_sem, aload, hp1, Ab.part, hq.len]
  refine lc (by omega) (by omega) fun H2 hX2 => ?_
  have lff := fun {R : PQ} hb hbase hR => l31f (R := R) (base := H.length) (bar := if pure = true then H.length else bar) (p := H.length + 1) (vs := vs) hn hb hbase n 0 (by omega) _ H2 (start_le hL0) hX2 hR
  rw [← List.range_eq_range'] at lff
  simp [go_sem]
  refine lff (by omega) (by omega) fun H3 hX3 => ?_
  have eF : (List.range n).foldl (fwK n) (l.foldl tieM start0) = farF n l := rfl
  rw [eF] at hX3
  have hlen := hX3.len
  obtain ⟨H4, r1, r2, r3⟩ := frz_rows (bar := if pure = true then H.length else bar) (p := H.length + 1) (d := 4) (n := n) (vs := vs) (M := farF n l) (by omega) (List.range n) (H3.set (H.length + 1) (.row 0 (topR n fun i => .vec (H.length + 1 + 1 + i) (vs i) 0 n 1) (max 0 (0 + n * 1)) true)) (fun i hi => by
    refine ⟨0, ?_⟩
    rw [List.getElem?_set_ne (by omega)]
    exact hX3.row i (List.mem_range.1 hi)) (by rw [List.length_set]; omega)
  have e1 := frz_vec (d := 7) (bar := if pure = true then H.length else bar) (H := H3) (id := H.length + 1) (ver := 0) (off := 0) (len := n) (sz := 1) (cs := topR n fun i => .vec (H.length + 1 + 1 + i) (vs i) 0 n 1) (fz := 0) (ex := true) (xs := (List.range n).map fun i => .lst 1 false (dc n (cRow (farF n l) i))) (H' := H4) hX3.top (by simp [topR_len]) (by omega) (by
    rw [List.drop_zero, Nat.mul_one, List.take_of_length_le (by rw [topR_len]; exact Nat.le_refl _), ← Nat.mul_one n]
    simpa [topR] using r1)
  have e2 : chunks 1 n ((List.range n).map fun i => AV.lst 1 false (dc n (cRow (farF n l) i))) = (List.range n).map fun i => AV.lst 1 false (dc n (cRow (farF n l) i)) := by
    have := chunks_one (l := (List.range n).map fun i => AV.lst 1 false (dc n (cRow (farF n l) i)))
    simpa using this
  rw [e2] at e1
  have hu : isSq (.lst 1 false ((List.range n).map fun i => .lst 1 false (dc n (cRow (farF n l) i)))) n (farF n l) := rfl
  have e3 : H4.take H.length = H := take_same (by rw [r2, List.length_set]; omega) fun j hj => by
    rw [r3 j (by omega), List.getElem?_set_ne (by omega), hX3.low j (by omega), List.getElem?_append_left hj]
  have hk := h _ hu
  simp [go_sem, e1, hu.top, tops_cons, tops_nil, e3]
  exact hk
end Go.Proofs.YtoipleipokpnaaaGreat.Code
end
section
namespace Go.Proofs.YtoipleipokpnaaaGreat.Code
open Go Go.Ab
variable {pure : Bool} {base bar : Nat} {H : Heap} {Q : AV → Heap → Prop} {K : AV → Heap → List Nat → Prop}
end Go.Proofs.YtoipleipokpnaaaGreat.Code
end
section
namespace Go.Proofs.YtoipleipokpnaaaGreat.Code
open Go Go.Ab
/-! a tie less: two sides -/
section
variable {V : Nat → Prop} {f : Nat → Nat → Bool} {D : Nat → Nat → Nat} {x y : Nat}
theorem TM.side (h : TM V f D) (hxy : f x y = true) {v : Nat} (hv : V v) : D v y = D v x + 1 ∨ D v x = D v y + 1 := h.step hv hxy
/-- a tie between the sides is the tie -/
theorem TM.cross (h : TM V f D) (hxy : f x y = true) {u v : Nat} (huv : f u v = true) (hu : D u y = D u x + 1) (hv : D v x = D v y + 1) : u = x ∧ v = y := by
  obtain ⟨vu, vv, huv'⟩ := h.inV huv
  obtain ⟨vx, vy, hxy'⟩ := h.inV hxy
  have s1 := h.step vx huv
  have s2 := h.step vy huv
  have e1 := h.sym vu vx
  have e2 := h.sym vu vy
  have e3 := h.sym vv vx
  have e4 := h.sym vv vy
  have hvy : v = y := by
    apply Decidable.byContradiction
    intro hne
    obtain ⟨c, c1, c2, _⟩ := h.par vy vv (fun e => hne e.symm)
    have vc := (h.inV c1).2.1
    have hcu : c ≠ u := fun e => by subst e; omega
    have hxv : x ≠ v := fun e => by subst e; rw [h.zero vx] at hv; omega
    obtain ⟨p, p1, p2, p3⟩ := h.par vx vv hxv
    have q1 := p3 u (h.symF huv) (by omega)
    have q2 : ¬ D x c + 1 = D x v := fun e => hcu ((p3 c c1 e).trans q1.symm)
    have s3 := h.step vx c1
    have s4 := h.side hxy vc
    have e5 := h.sym vc vx
    have e6 := h.sym vc vy
    omega
  subst hvy
  refine ⟨?_, rfl⟩
  have z := h.zero vv
  exact h.eq vu vx (by omega)
/-- the next knot towards x stays on x's side -/
theorem TM.toward (h : TM V f D) (hxy : f x y = true) {a c : Nat} (va : V a) (ha : D a y = D a x + 1) (hac : f a c = true) (hc : D x c + 1 = D x a) : D c y = D c x + 1 := by
  have vc := (h.inV hac).2.1
  obtain ⟨vx, vy, _⟩ := h.inV hxy
  rcases h.side hxy vc with e | e
  · exact e
  · obtain ⟨rfl, rfl⟩ := h.cross hxy hac ha e
    rw [h.zero va] at hc; omega
/-- what is on different sides is joined over the tie -/
theorem TM.over (h : TM V f D) (hxy : f x y = true) {a : Nat} (va : V a) (ha : D a y = D a x + 1) : ∀ (m b : Nat), D y b = m → V b → D b x = D b y + 1 → D a b = D a x + 1 + m := by
  obtain ⟨vx, vy, _⟩ := h.inV hxy
  have hyx := h.symF hxy
  intro m
  induction m using Nat.strongRecOn with
  | ind m ih =>
    intro b hm vb hb
    by_cases e : y = b
    · subst e
      rw [h.zero vy] at hm
      omega
    · obtain ⟨c, c1, c2, _⟩ := h.par vy vb e
      have vc := (h.inV c1).2.1
      have hc := h.toward hyx vb hb c1 c2
      have ihc := ih (D y c) (by omega) c rfl vc hc
      have hac : a ≠ c := fun e' => by subst e'; omega
      rcases h.step va c1 with s | s
      · -- D a c = D a b + 1
        exfalso
        obtain ⟨p, p1, p2, p3⟩ := h.par va vc hac
        have q1 := p3 b (h.symF c1) s.symm
        by_cases ec : y = c
        · subst ec
          have q2 := p3 x hyx (by omega)
          have : b = x := q1.trans q2.symm
          subst this
          rw [h.zero vb] at hb; omega
        · obtain ⟨c2', d1, d2, _⟩ := h.par vy vc ec
          have vd := (h.inV d1).2.1
          have hd := h.toward hyx vc hc d1 d2
          have ihd := ih (D y c2') (by omega) c2' rfl vd hd
          have q2 := p3 c2' d1 (by omega)
          have : b = c2' := q1.trans q2.symm
          subst this; omega
      · omega
end
/-- reach without the tie -/
theorem rch_side {n : Nat} {f f' : Nat → Nat → Bool} {D : Nat → Nat → Nat} {x y : Nat} (h : TM (fun v => v < n) f D) (hxy : f x y = true)
    (hf : ∀ u v, f' u v = true ↔ f u v = true ∧ ¬ ((u = x ∧ v = y) ∨ (u = y ∧ v = x))) {a b : Nat} (ha : a < n) (hb : b < n) :
    Rch f' a b ↔ ¬ (D a x + 1 + D y b = D a b ∨ D a y + 1 + D x b = D a b) := by
  obtain ⟨vx, vy, hne⟩ := h.inV hxy
  have hyx := h.symF hxy
  have tox : ∀ (m a : Nat), a < n → D x a = m → D a y = D a x + 1 → Rch f' a x := by
    intro m
    induction m with
    | zero =>
      intro a ha hm hs
      have := h.eq vx ha hm
      subst this; exact .refl _
    | succ m ih =>
      intro a ha hm hs
      have hxa : x ≠ a := fun e => by subst e; rw [h.zero vx] at hm; omega
      obtain ⟨c, c1, c2, _⟩ := h.par vx ha hxa
      have hc := h.toward hxy ha hs c1 c2
      have vc := (h.inV c1).2.1
      have st : f' a c = true := (hf a c).2 ⟨c1, fun e => by
        rcases e with ⟨rfl, _⟩ | ⟨rfl, rfl⟩
        · exact hxa rfl
        · rw [h.zero vy] at hs; omega⟩
      exact Rch.trans (.step (.refl _) st) (ih c vc (by omega) hc)
  have toy : ∀ (m a : Nat), a < n → D y a = m → D a x = D a y + 1 → Rch f' a y := by
    intro m
    induction m with
    | zero =>
      intro a ha hm hs
      have := h.eq vy ha hm
      subst this; exact .refl _
    | succ m ih =>
      intro a ha hm hs
      have hxa : y ≠ a := fun e => by subst e; rw [h.zero vy] at hm; omega
      obtain ⟨c, c1, c2, _⟩ := h.par vy ha hxa
      have hc := h.toward hyx ha hs c1 c2
      have vc := (h.inV c1).2.1
      have st : f' a c = true := (hf a c).2 ⟨c1, fun e => by
        rcases e with ⟨rfl, rfl⟩ | ⟨rfl, _⟩
        · rw [h.zero vx] at hs; omega
        · exact hxa rfl⟩
      exact Rch.trans (.step (.refl _) st) (ih c vc (by omega) hc)
  have symF' : ∀ u v, f' u v = f' v u := fun u v => by
    rw [Bool.eq_iff_iff, hf, hf]
    constructor
    · rintro ⟨h1, h2⟩; exact ⟨h.symF h1, fun e => h2 (by rcases e with ⟨e1, e2⟩ | ⟨e1, e2⟩; exact .inr ⟨e2, e1⟩; exact .inl ⟨e2, e1⟩)⟩
    · rintro ⟨h1, h2⟩; exact ⟨h.symF h1, fun e => h2 (by rcases e with ⟨e1, e2⟩ | ⟨e1, e2⟩; exact .inr ⟨e2, e1⟩; exact .inl ⟨e2, e1⟩)⟩
  have keep : ∀ {u v}, Rch f' u v → u < n → v < n ∧ ((D u y = D u x + 1 ∧ D v y = D v x + 1) ∨ (D u x = D u y + 1 ∧ D v x = D v y + 1)) := by
    intro u v hr hu
    induction hr with
    | refl =>
      rcases h.side hxy hu with e | e
      · exact ⟨hu, .inl ⟨e, e⟩⟩
      · exact ⟨hu, .inr ⟨e, e⟩⟩
    | step h1 h2 ih =>
      rename_i p q
      obtain ⟨hp, ih⟩ := ih
      obtain ⟨g1, g2⟩ := (hf p q).1 h2
      have hq := (h.inV g1).2.1
      refine ⟨hq, ?_⟩
      rcases ih with ⟨i1, i2⟩ | ⟨i1, i2⟩
      · rcases h.side hxy hq with e | e
        · exact .inl ⟨i1, e⟩
        · exact absurd (.inl (h.cross hxy g1 i2 e)) g2
      · rcases h.side hxy hq with e | e
        · exact absurd (.inr (h.cross hyx g1 i2 e)) g2
        · exact .inr ⟨i1, e⟩
  have ey := h.sym hb vy
  have ex := h.sym hb vx
  have ay := h.sym ha vy
  have ax := h.sym ha vx
  have t1 := h.tri ha vy (D y b) hb rfl
  have t2 := h.tri ha vx (D x b) hb rfl
  constructor
  · intro hr
    obtain ⟨_, hk⟩ := keep hr ha
    omega
  · intro hno
    rcases h.side hxy ha with e1 | e1
    · rcases h.side hxy hb with e2 | e2
      · exact Rch.trans (tox _ a ha rfl e1) (Rch.symm symF' (tox _ b hb rfl e2))
      · have := h.over hxy ha e1 _ b rfl hb e2
        exact absurd (.inl (by omega)) hno
    · rcases h.side hxy hb with e2 | e2
      · have := h.over hyx ha e1 _ b rfl hb e2
        exact absurd (.inr (by omega)) hno
      · exact Rch.trans (toy _ a ha rfl e1) (Rch.symm symF' (toy _ b hb rfl e2))
/-- the two sides and what joins them -/
theorem rch_join {n : Nat} {f f' : Nat → Nat → Bool} {D : Nat → Nat → Nat} {x y : Nat} (h : TM (fun v => v < n) f D) (hxy : f x y = true)
    (hf : ∀ u v, f' u v = true ↔ f u v = true ∧ ¬ ((u = x ∧ v = y) ∨ (u = y ∧ v = x))) {a b : Nat} (ha : a < n) (hb : b < n) (hno : ¬ Rch f' a b) {c : Nat} (hc : c < n) : Rch f' a c ∨ Rch f' b c := by
  have e1 := rch_side h hxy hf ha hb
  have e2 := rch_side h hxy hf ha hc
  have e3 := rch_side h hxy hf hb hc
  obtain ⟨vx, vy, hne⟩ := h.inV hxy
  apply Classical.byContradiction
  intro hno2
  have n1 : ¬ Rch f' a c := fun h' => hno2 (.inl h')
  have n2 : ¬ Rch f' b c := fun h' => hno2 (.inr h')
  rw [e1] at hno
  rw [e2] at n1
  rw [e3] at n2
  have n0 := Classical.not_not.1 hno
  have n1' := Classical.not_not.1 n1
  have n2' := Classical.not_not.1 n2
  have s1 := h.side hxy ha
  have s2 := h.side hxy hb
  have s3 := h.side hxy hc
  have q1 := h.sym ha vx
  have q2 := h.sym ha vy
  have q3 := h.sym hb vx
  have q4 := h.sym hb vy
  have q5 := h.sym hc vx
  have q6 := h.sym hc vy
  have t1 := h.tri ha vy (D y b) hb rfl
  have t2 := h.tri ha vx (D x b) hb rfl
  have t3 := h.tri ha vy (D y c) hc rfl
  have t4 := h.tri ha vx (D x c) hc rfl
  have t5 := h.tri hb vy (D y c) hc rfl
  have t6 := h.tri hb vx (D x c) hc rfl
  omega
end Go.Proofs.YtoipleipokpnaaaGreat.Code
end
section
namespace Go.Proofs.YtoipleipokpnaaaGreat.Code
open Go Go.Ab
/-! ties that differ -/
def sameT (p q : ZZ) : Prop := (p.1 = q.1 ∧ p.2 = q.2) ∨ (p.1 = q.2 ∧ p.2 = q.1)
theorem sameT.symm {p q : ZZ} (h : sameT p q) : sameT q p := by
  rcases h with ⟨h1, h2⟩ | ⟨h1, h2⟩
  · exact .inl ⟨h1.symm, h2.symm⟩
  · exact .inr ⟨h2.symm, h1.symm⟩
theorem tieB_same {n : Nat} {b : List ZZ} {p : ZZ} (hp : okP n p) : tieB b p.1.toNat p.2.toNat = true ↔ ∃ q ∈ b, sameT q p := by
  obtain ⟨q1, q2, _⟩ := hp
  rw [tieB_iff, Int.toNat_of_nonneg q1, Int.toNat_of_nonneg q2]
  constructor
  · rintro (h | h)
    · exact ⟨_, h, .inl ⟨rfl, rfl⟩⟩
    · exact ⟨_, h, .inr ⟨rfl, rfl⟩⟩
  · rintro ⟨⟨c, d⟩, h, ⟨h1, h2⟩ | ⟨h1, h2⟩⟩
    · simp only at h1 h2; subst h1 h2; exact .inl h
    · simp only at h1 h2; subst h1 h2; exact .inr h
theorem errL_iff {n : Nat} : ∀ {r b : List ZZ}, errL n b r = 0 ↔ (∀ p ∈ r, okP n p) ∧ (∀ p ∈ r, ∀ q ∈ b, ¬ sameT q p) ∧ r.Pairwise fun p q => ¬ sameT p q
  | [], b => by simp [errL]
  | p :: r, b => by
    unfold errL
    by_cases h1 : mayS n p = 0
    · rw [if_neg (by simp [h1])]
      have hp := mayS_ok.1 h1
      cases h2 : tieB b p.1.toNat p.2.toNat with
      | true =>
        rw [if_pos rfl]
        obtain ⟨q, hq, hs⟩ := (tieB_same hp).1 h2
        constructor
        · intro e; cases e
        · rintro ⟨_, h3, _⟩; exact absurd hs (h3 p (List.mem_cons_self ..) q hq)
      | false =>
        rw [if_neg (by decide), errL_iff]
        have h3 : ∀ q ∈ b, ¬ sameT q p := fun q hq hs => by
          have := (tieB_same hp).2 ⟨q, hq, hs⟩
          rw [h2] at this; cases this
        constructor
        · rintro ⟨g1, g2, g3⟩
          refine ⟨fun q hq => ?_, fun q hq c hc => ?_, List.pairwise_cons.2 ⟨fun q hq => g2 q hq p (by simp), g3⟩⟩
          · rcases List.mem_cons.1 hq with rfl | hq
            · exact hp
            · exact g1 q hq
          · rcases List.mem_cons.1 hq with rfl | hq
            · exact h3 c hc
            · exact g2 q hq c (List.mem_append_left _ hc)
        · rintro ⟨g1, g2, g3⟩
          obtain ⟨g4, g5⟩ := List.pairwise_cons.1 g3
          refine ⟨fun q hq => g1 q (List.mem_cons_of_mem _ hq), fun q hq c hc => ?_, g5⟩
          rcases List.mem_append.1 hc with hc | hc
          · exact g2 q (List.mem_cons_of_mem _ hq) c hc
          · rw [List.mem_singleton.1 hc]; exact g4 q hq
    · rw [if_pos h1]
      constructor
      · intro e; exact absurd e h1
      · rintro ⟨g1, _⟩; exact absurd (mayS_ok.2 (g1 p (List.mem_cons_self ..))) h1
/-- trees: no tie twice, a tie less than knots, all joined -/
structure Tre (n : Nat) (l : List ZZ) : Prop where
  one : 1 ≤ n
  nine : n ≤ 9
  ok : ∀ p ∈ l, okP n p
  dis : l.Pairwise fun p q => ¬ sameT p q
  len : l.length < n
  conn : Conn n l
theorem Tre.errL {n : Nat} {l : List ZZ} (h : Tre n l) : errL n [] l = 0 := errL_iff.2 ⟨h.ok, (fun _ _ _ hq => by cases hq), h.dis⟩
theorem Tre.errT {n : Nat} {l : List ZZ} (h : Tre n l) : errT n l = 0 := by
  have h1 := h.one
  have h2 := h.nine
  have h3 := h.len
  unfold Code.errT
  rw [if_neg (by simp; omega), if_neg (by simp [h.errL]), if_neg (by simp; omega), if_pos (by simpa using h.conn)]
theorem tre_of {n : Nat} {l : List ZZ} (h : Code.errT n l = 0) : Tre n l := by
  obtain ⟨m, em, h1, h9, hv, hE, hlen, hc⟩ := errT_ok h
  obtain rfl : n = m := by omega
  exact ⟨h1, h9, hv, (errL_iff.1 hE).2.2, hlen, hc⟩
theorem Tre.tm {n : Nat} {l : List ZZ} (h : Tre n l) : ∃ D, TM (fun x => x < n) (tieB l) D ∧ ∀ x y, x < n → y < n → D x y < n := by
  obtain ⟨w', k1, _⟩ := wd_sum h.nine (r := l) Wd.nil h.errL (by simp [bitsN_zero, Sm_zero])
  rw [List.nil_append] at k1
  exact tree_tm h.nine h.one k1 h.errL h.len h.conn
theorem erase_mem {l : List ZZ} {k : Nat} (hk : k < l.length) : l = l.take k ++ l[k] :: l.drop (k + 1) := by
  rw [← List.drop_eq_getElem_cons hk, List.take_append_drop]
def lessT (l : List ZZ) (k : Nat) : List ZZ := l.take k ++ l.drop (k + 1)
theorem lessT_sub {l : List ZZ} {k : Nat} : (lessT l k).Sublist l := by
  unfold lessT
  conv => rhs; rw [← List.take_append_drop k l]
  refine List.Sublist.append (List.Sublist.refl _) ?_
  rw [show k + 1 = 1 + k by omega, ← List.drop_drop]
  have := List.drop_sublist 1 (l.drop k)
  simpa [List.drop_drop, Nat.add_comm] using this
theorem lessT_len {l : List ZZ} {k : Nat} (hk : k < l.length) : (lessT l k).length + 1 = l.length := by
  unfold lessT
  rw [List.length_append, List.length_take, List.length_drop]; omega
/-- ties without one -/
theorem lessT_tie {n : Nat} {l : List ZZ} {k x y : Nat} (ht : Tre n l) (hk : k < l.length) (hp : l[k] = ((x : Int), (y : Int))) (u v : Nat) : tieB (lessT l k) u v = true ↔ tieB l u v = true ∧ ¬ ((u = x ∧ v = y) ∨ (u = y ∧ v = x)) := by
  have hl := erase_mem hk
  rw [hp] at hl
  have hd := ht.dis
  rw [hl, List.pairwise_append] at hd
  obtain ⟨_, d2, d3⟩ := hd
  obtain ⟨d4, _⟩ := List.pairwise_cons.1 d2
  have hno : ∀ q ∈ lessT l k, ¬ sameT q ((x : Int), (y : Int)) := fun q hq => by
    unfold lessT at hq
    rcases List.mem_append.1 hq with hq | hq
    · exact d3 q hq _ (List.mem_cons_self ..)
    · exact fun e => d4 q hq e.symm
  have hmem : ∀ q, q ∈ l ↔ q ∈ lessT l k ∨ q = ((x : Int), (y : Int)) := fun q => by
    conv => lhs; rw [hl]
    unfold lessT
    simp only [List.mem_append, List.mem_cons]
    constructor
    · rintro (h | h | h)
      · exact .inl (.inl h)
      · exact .inr h
      · exact .inl (.inr h)
    · rintro ((h | h) | h)
      · exact .inl h
      · exact .inr (.inr h)
      · exact .inr (.inl h)
  rw [tieB_iff, tieB_iff, hmem, hmem]
  constructor
  · intro h
    refine ⟨by rcases h with h | h; exact .inl (.inl h); exact .inr (.inl h), ?_⟩
    rintro (⟨rfl, rfl⟩ | ⟨rfl, rfl⟩)
    · rcases h with h | h
      · exact hno _ h (.inl ⟨rfl, rfl⟩)
      · exact hno _ h (.inr ⟨rfl, rfl⟩)
    · rcases h with h | h
      · exact hno _ h (.inr ⟨rfl, rfl⟩)
      · exact hno _ h (.inl ⟨rfl, rfl⟩)
  · rintro ⟨h, hn⟩
    rcases h with (h | h) | (h | h)
    · exact .inl h
    · injection h with h1 h2
      exact absurd (.inl ⟨by omega, by omega⟩) hn
    · exact .inr h
    · injection h with h1 h2
      exact absurd (.inr ⟨by omega, by omega⟩) hn
/-- another tie in its place -/
theorem swap_tree {n : Nat} {l : List ZZ} {k x y a b : Nat} (ht : Tre n l) (hk : k < l.length) (hp : l[k] = ((x : Int), (y : Int))) (ha : a < n) (hb : b < n) (hab : a ≠ b) (hno : ¬ Rch (tieB (lessT l k)) a b) : Tre n (lessT l k ++ [((a : Int), (b : Int))]) := by
  obtain ⟨D, hD, _⟩ := ht.tm
  have hxy : tieB l x y = true := by rw [tieB_iff]; exact .inl (by rw [← hp]; exact List.getElem_mem hk)
  have hf := lessT_tie ht hk hp
  have hnt : tieB (lessT l k) a b = false := by
    cases e : tieB (lessT l k) a b with
    | false => rfl
    | true => exact absurd (.step (.refl _) e) hno
  have hgrow : ∀ {u v}, Rch (tieB (lessT l k)) u v → Rch (tieB (lessT l k ++ [((a : Int), (b : Int))])) u v := by
    intro u v hr
    induction hr with
    | refl => exact .refl _
    | step h1 h2 ih => exact .step ih (by rw [tieB_snoc, h2]; rfl)
  refine ⟨ht.one, ht.nine, fun p hp' => ?_, ?_, ?_, ?_⟩
  · rcases List.mem_append.1 hp' with h | h
    · exact ht.ok p (lessT_sub.mem h)
    · rw [List.mem_singleton.1 h]
      exact ⟨by simp, by simp, by simp only; omega, by simp only; omega, by simp only; omega⟩
  · rw [List.pairwise_append]
    refine ⟨ht.dis.sublist lessT_sub, by simp, fun q hq c hc hs => ?_⟩
    rw [List.mem_singleton.1 hc] at hs
    have okc : okP n ((a : Int), (b : Int)) := ⟨by simp, by simp, by simp only; omega, by simp only; omega, by simp only; omega⟩
    have := (tieB_same okc).2 ⟨q, hq, hs⟩
    simp only [Int.toNat_natCast] at this
    rw [hnt] at this; cases this
  · have := lessT_len hk
    have := ht.len
    simp; omega
  · have hj := fun c hc => rch_join hD hxy hf ha hb hno (c := c) hc
    have hab' : Rch (tieB (lessT l k ++ [((a : Int), (b : Int))])) a b := .step (.refl _) (by rw [tieB_snoc]; simp)
    have hto : ∀ c, c < n → Rch (tieB (lessT l k ++ [((a : Int), (b : Int))])) a c := fun c hc => by
      rcases hj c hc with h | h
      · exact hgrow h
      · exact Rch.trans hab' (hgrow h)
    intro c hc
    exact Rch.trans (Rch.symm (fun u v => tieB_symm) (hto 0 ht.one)) (hto c hc)
end Go.Proofs.YtoipleipokpnaaaGreat.Code
end
section
namespace Go.Proofs.YtoipleipokpnaaaGreat.Code
open Go Go.Ab
/-! tidy ties in order -/
def ltZ (p q : ZZ) : Prop := p.1 < q.1 ∨ (p.1 = q.1 ∧ p.2 < q.2)
theorem ltZ.irr {p : ZZ} : ¬ ltZ p p := by unfold ltZ; omega
theorem ltZ.trans {p q r : ZZ} (h1 : ltZ p q) (h2 : ltZ q r) : ltZ p r := by unfold ltZ at *; omega
theorem ltZ.asymm {p q : ZZ} (h1 : ltZ p q) (h2 : ltZ q p) : False := ltZ.irr (h1.trans h2)
/-- lists in strict order with the same members are the same -/
theorem sort_unique : ∀ {L M : List ZZ}, L.Pairwise ltZ → M.Pairwise ltZ → (∀ p, p ∈ L ↔ p ∈ M) → L = M
  | [], [], _, _, _ => rfl
  | [], q :: M, _, _, h => by have := (h q).2 (List.mem_cons_self ..); cases this
  | p :: L, [], _, _, h => by have := (h p).1 (List.mem_cons_self ..); cases this
  | p :: L, q :: M, hL, hM, h => by
    obtain ⟨l1, l2⟩ := List.pairwise_cons.1 hL
    obtain ⟨m1, m2⟩ := List.pairwise_cons.1 hM
    have e : p = q := by
      rcases List.mem_cons.1 ((h p).1 (List.mem_cons_self ..)) with e | e
      · exact e
      · rcases List.mem_cons.1 ((h q).2 (List.mem_cons_self ..)) with e' | e'
        · exact e'.symm
        · exact (ltZ.asymm (l1 q e') (m1 p e)).elim
    subst e
    congr 1
    refine sort_unique l2 m2 fun r => ?_
    constructor
    · intro hr
      rcases List.mem_cons.1 ((h r).1 (List.mem_cons_of_mem _ hr)) with e' | e'
      · subst e'; exact (ltZ.irr (l1 r hr)).elim
      · exact e'
    · intro hr
      rcases List.mem_cons.1 ((h r).2 (List.mem_cons_of_mem _ hr)) with e' | e'
      · subst e'; exact (ltZ.irr (m1 r hr)).elim
      · exact e'
theorem mem_rowT {f : Nat → Nat → Bool} {a : Nat} {p : ZZ} : p ∈ rowT f a ↔ ∃ b : Nat, p = ((a : Int), (b : Int)) ∧ b < 9 ∧ a < b ∧ f a b = true := by
  unfold rowT
  constructor
  · intro h
    obtain ⟨b, hb, rfl⟩ := List.mem_map.1 h
    obtain ⟨h1, h2⟩ := List.mem_filter.1 hb
    simp only [Bool.and_eq_true, decide_eq_true_eq] at h2
    exact ⟨b, rfl, List.mem_range.1 h1, h2.2, h2.1⟩
  · rintro ⟨b, rfl, h1, h2, h3⟩
    exact List.mem_map.2 ⟨b, List.mem_filter.2 ⟨List.mem_range.2 h1, by simp [h2, h3]⟩, rfl⟩
theorem mem_tidyF {f : Nat → Nat → Bool} {n : Nat} {p : ZZ} : p ∈ tidyF f n ↔ ∃ a b : Nat, p = ((a : Int), (b : Int)) ∧ a < n ∧ b < 9 ∧ a < b ∧ f a b = true := by
  unfold tidyF
  rw [List.mem_flatMap]
  constructor
  · rintro ⟨a, ha, hp⟩
    obtain ⟨b, rfl, h1, h2, h3⟩ := mem_rowT.1 hp
    exact ⟨a, b, rfl, List.mem_range.1 ha, h1, h2, h3⟩
  · rintro ⟨a, b, rfl, h0, h1, h2, h3⟩
    exact ⟨a, List.mem_range.2 h0, mem_rowT.2 ⟨b, rfl, h1, h2, h3⟩⟩
theorem rowT_sorted {f : Nat → Nat → Bool} {a : Nat} : (rowT f a).Pairwise ltZ := by
  unfold rowT
  rw [List.pairwise_map]
  have h : ((List.range 9).filter fun b => f a b && decide (a < b)).Pairwise (· < ·) := (List.pairwise_lt_range).sublist List.filter_sublist
  refine h.imp fun {x y} hxy => .inr ⟨rfl, ?_⟩
  show (x : Int) < (y : Int)
  omega
theorem tidyF_sorted {f : Nat → Nat → Bool} : ∀ {n : Nat}, (tidyF f n).Pairwise ltZ
  | 0 => by simp [tidyF]
  | n + 1 => by
    rw [tidyF_suc, List.pairwise_append]
    refine ⟨tidyF_sorted, rowT_sorted, fun p hp q hq => ?_⟩
    obtain ⟨a, b, rfl, h1, _⟩ := mem_tidyF.1 hp
    obtain ⟨c, rfl, _⟩ := mem_rowT.1 hq
    unfold ltZ; simp only; omega
def normT (p : ZZ) : ZZ := (min p.1 p.2, max p.1 p.2)
theorem normT_or {p : ZZ} : normT p = p ∨ normT p = (p.2, p.1) := by
  unfold normT
  rcases Int.le_total p.1 p.2 with h | h
  · left; rw [Int.min_eq_left h, Int.max_eq_right h]
  · right; rw [Int.min_eq_right h, Int.max_eq_left h]
theorem normT_same {p q : ZZ} (h : normT p = normT q) : sameT p q := by
  rcases normT_or (p := p) with e1 | e1 <;> rcases normT_or (p := q) with e2 | e2
  · rw [e1, e2] at h; exact .inl ⟨by rw [h], by rw [h]⟩
  · rw [e1, e2] at h; exact .inr ⟨by rw [h], by rw [h]⟩
  · rw [e1, e2] at h
    exact .inr ⟨congrArg Prod.snd h, congrArg Prod.fst h⟩
  · rw [e1, e2] at h
    injection h with h1 h2
    exact .inl ⟨h2, h1⟩
/-- what sorting tidied ties gives -/
theorem tidied_eq {n : Nat} {l L : List ZZ} (ht : Tre n l) (hp : L.Perm (l.map normT)) (hs : L.Pairwise fun p q => ¬ ltZ q p) : L = tidyF (tieB l) n := by
  have hnd : (l.map normT).Nodup := by
    unfold List.Nodup
    rw [List.pairwise_map]
    exact ht.dis.imp fun {p q} h e => h (normT_same e)
  have hnd' : L.Nodup := hp.nodup_iff.2 hnd
  have hst : L.Pairwise ltZ := by
    have := hs.and hnd'
    refine this.imp fun {p q} h => ?_
    obtain ⟨h1, h2⟩ := h
    unfold ltZ at *
    have : ¬ (p.1 = q.1 ∧ p.2 = q.2) := fun e => h2 (Prod.ext e.1 e.2)
    omega
  refine sort_unique hst tidyF_sorted fun p => ?_
  rw [hp.mem_iff, mem_tidyF]
  have h9 := ht.nine
  constructor
  · intro h
    obtain ⟨q, hq, rfl⟩ := List.mem_map.1 h
    obtain ⟨q1, q2, q3, q4, q5⟩ := ht.ok q hq
    obtain ⟨c, d⟩ := q
    simp only at q1 q2 q3 q4 q5
    obtain ⟨c, rfl⟩ := Int.eq_ofNat_of_zero_le q1
    obtain ⟨d, rfl⟩ := Int.eq_ofNat_of_zero_le q2
    rcases Nat.lt_or_ge c d with hcd | hcd
    · exact ⟨c, d, by unfold normT; simp only; rw [Int.min_eq_left (by omega), Int.max_eq_right (by omega)], by omega, by omega, hcd, by rw [tieB_iff]; exact .inl hq⟩
    · exact ⟨d, c, by unfold normT; simp only; rw [Int.min_eq_right (by omega), Int.max_eq_left (by omega)], by omega, by omega, by omega, by rw [tieB_iff]; exact .inr hq⟩
  · rintro ⟨a, b, rfl, h1, h2, h3, h4⟩
    rw [tieB_iff] at h4
    rw [List.mem_map]
    rcases h4 with h4 | h4
    · exact ⟨_, h4, by unfold normT; simp only; rw [Int.min_eq_left (by omega), Int.max_eq_right (by omega)]⟩
    · exact ⟨_, h4, by unfold normT; simp only; rw [Int.min_eq_right (by omega), Int.max_eq_left (by omega)]⟩
theorem tidyF_tie {n : Nat} {f : Nat → Nat → Bool} (hs : ∀ a b, f a b = f b a) (hin : ∀ a b, f a b = true → a < n ∧ b < n ∧ a ≠ b) (hn : n ≤ 9) (u v : Nat) : tieB (tidyF f n) u v = f u v := by
  rw [Bool.eq_iff_iff, tieB_iff, mem_tidyF, mem_tidyF]
  constructor
  · rintro (⟨a, b, e, h1, h2, h3, h4⟩ | ⟨a, b, e, h1, h2, h3, h4⟩)
    · injection e with e1 e2
      obtain rfl : u = a := by omega
      obtain rfl : v = b := by omega
      exact h4
    · injection e with e1 e2
      obtain rfl : v = a := by omega
      obtain rfl : u = b := by omega
      rw [hs]; exact h4
  · intro h
    obtain ⟨h1, h2, h3⟩ := hin u v h
    rcases Nat.lt_or_ge u v with e | e
    · exact .inl ⟨u, v, rfl, h1, by omega, e, h⟩
    · exact .inr ⟨v, u, rfl, h2, by omega, by omega, by rw [hs]; exact h⟩
theorem Tre.inn {n : Nat} {l : List ZZ} (h : Tre n l) : ∀ a b, tieB l a b = true → a < n ∧ b < n ∧ a ≠ b := fun a b hab => tieB_lt h.ok hab
theorem Rch.congr {f g : Nat → Nat → Bool} (h : ∀ a b, f a b = g a b) {x y : Nat} (hr : Rch f x y) : Rch g x y := by
  obtain rfl : f = g := funext fun a => funext fun b => h a b
  exact hr
/-- the tidy tree is a tree -/
theorem Tre.tidy {n : Nat} {l : List ZZ} (h : Tre n l) (hlen : (tidyF (tieB l) n).length = l.length) : Tre n (tidyF (tieB l) n) := by
  have ht := tidyF_tie (fun a b => tieB_symm) h.inn h.nine
  refine ⟨h.one, h.nine, fun p hp => ?_, tidyF_sorted.imp_of_mem fun {p q} hp hq hlt hs => ?_, by rw [hlen]; exact h.len, fun x hx => (h.conn x hx).congr fun a b => (ht a b).symm⟩
  · obtain ⟨a, b, rfl, h1, h2, h3, h4⟩ := mem_tidyF.1 hp
    obtain ⟨g1, g2, g3⟩ := h.inn a b h4
    exact ⟨by simp, by simp, by simp only; omega, by simp only; omega, by simp only; omega⟩
  · obtain ⟨a, b, rfl, h1, h2, h3, h4⟩ := mem_tidyF.1 hp
    obtain ⟨c, d, rfl, g1, g2, g3, g4⟩ := mem_tidyF.1 hq
    unfold sameT at hs
    unfold ltZ at hlt
    simp only at hs hlt
    omega
/-- insertion sort of the plain kind, for lengths -/
theorem tidyF_length {n : Nat} {l : List ZZ} (h : Tre n l) : (tidyF (tieB l) n).length = l.length := by
  have hp := List.mergeSort_perm (l.map normT) (fun p q => decide (p.1 < q.1 ∨ (p.1 = q.1 ∧ p.2 ≤ q.2)))
  have hs := List.pairwise_mergeSort (le := fun p q : ZZ => decide (p.1 < q.1 ∨ (p.1 = q.1 ∧ p.2 ≤ q.2))) (fun a b c => by simp only [decide_eq_true_eq]; omega) (fun a b => by simp only [Bool.or_eq_true, decide_eq_true_eq]; omega) (l.map normT)
  rw [← tidied_eq h hp (hs.imp fun {p q} hpq hlt => by
    simp only [decide_eq_true_eq] at hpq
    unfold ltZ at hlt
    omega), hp.length_eq, List.length_map]
end Go.Proofs.YtoipleipokpnaaaGreat.Code
end
section
namespace Go.Proofs.YtoipleipokpnaaaGreat.Code
open Go Go.Ab
variable {pure : Bool} {base bar : Nat} {H : Heap} {Q : AV → Heap → Prop} {K : AV → Heap → List Nat → Prop}
/-! comparing lists -/
def cmpI (a b : Int) : Int := if a < b then -1 else if b < a then 1 else 0
theorem k96 {a : Int} (h : Q (.bool false) H) : WpCall E pure base bar 96 [.int .i64 a] H Q := by
  rw [call96]
  simp [go_sem, WpFun, c96]
  exact h
theorem k83 {a b : Int} (h : Q (.int .i64 (cmpI a b)) H) : WpCall E pure base bar 83 [.int .i64 a, .int .i64 b] H Q := by
  unfold cmpI at h
  rw [call83]
  simp [go_sem, WpFun, c83]
  refine k96 ?_
  simp [go_sem]
  refine k96 ?_
  by_cases h1 : a < b
  · rw [if_pos h1] at h
    simp [go_sem, h1]
    exact h
  · rw [if_neg h1] at h
    by_cases h2 : b < a
    · rw [if_pos h2] at h
      simp [go_sem, h1, h2]
      exact h
    · rw [if_neg h2] at h
      simp [go_sem, h1, h2]
      exact h
def cmpV : List Int → List Int → Int
  | [], [] => 0
  | [], _ :: _ => -1
  | _ :: _, [] => 1
  | x :: xs, y :: ys => if cmpI x y ≠ 0 then cmpI x y else cmpV xs ys
theorem l70 {v w : AV} {l m : List Int} (hv : isZ v l) (hw : isZ w m) (hl : l.length < 1000) {R : PQ} : ∀ (k i : Nat), i + k = l.length →
    (R .ret [(4, .int .i64 (cmpV (l.drop i) (m.drop i)))] H) → (l.length ≤ m.length → (l.length < m.length → cmpV (l.drop i) (m.drop i) = -1 → R (.exit 0) [(0, v), (1, w), (9, v), (10, .int .i64 (l.length : Nat)), (11, .int .i64 (l.length : Nat)), (12, .bool false)] H) ∧ (l.length = m.length → cmpV (l.drop i) (m.drop i) = 0 → R (.exit 0) [(0, v), (1, w), (9, v), (10, .int .i64 (l.length : Nat)), (11, .int .i64 (l.length : Nat)), (12, .bool false)] H)) →
    i ≤ m.length →
    Wp E base bar (.loop c70_l0) [(0, v), (1, w), (9, v), (10, .int .i64 (l.length : Nat)), (11, .int .i64 (i : Nat))] H R := by
  intro k
  induction k with
  | zero =>
    intro i hi h1 h2 hm
    obtain rfl : i = l.length := by omega
    rw [List.drop_length] at h2
    rw [wp_round c70_l0.eq_1]
    simp [go_sem]
    by_cases he : l.length = m.length
    · refine (h2 (by omega)).2 he ?_
      rw [he, List.drop_length]; rfl
    · have hlt : l.length < m.length := by omega
      refine (h2 (by omega)).1 hlt ?_
      rw [List.drop_eq_getElem_cons hlt]; rfl
  | succ k ih =>
    intro i hi h1 h2 hm
    have hlt : i < l.length := by omega
    rw [List.drop_eq_getElem_cons hlt] at h1 h2
    have hix := fun (K : AV → Heap → List Nat → Prop) (k : IntKind) => hv.ix (H := H) (K := K) (k := k) hlt
    have hs := i64_suc (show i < 1000000 by omega)
    rw [wp_round c70_l0.eq_1]
    by_cases him : m.length ≤ i
    · have him1 : (m.length : Int) ≤ (i : Int) := by omega
      rw [List.drop_eq_nil_of_le him] at h1
      simp [go_sem, hlt, hix, hw.len, him]
      exact h1
    · have him0 : i < m.length := by omega
      have hjx := fun (K : AV → Heap → List Nat → Prop) (k : IntKind) => hw.ix (H := H) (K := K) (k := k) him0
      rw [List.drop_eq_getElem_cons him0] at h1 h2
      generalize l[i] = x at *
      generalize m[i] = y at *
      simp only [cmpV] at h1 h2
      simp [go_sem, hlt, hix, hw.len, him, hjx]
      refine k83 ?_
      by_cases hc : cmpI x y = 0
      · simp only [hc, ne_eq, not_true_eq_false, if_false] at h1 h2
        have next := ih (i + 1) (by omega) h1 h2 (by omega)
        simp [go_sem, hc, hs]
        exact next
      · rw [if_pos hc] at h1
        simp [go_sem, hc]
        exact h1
theorem k70 {v w : AV} {l m : List Int} (hv : isZ v l) (hw : isZ w m) (hl : l.length < 1000) (h : Q (.int .i64 (cmpV l m)) H) : WpCall E pure base bar 70 [v, w] H Q := by
  rw [call70]
  simp [go_sem, WpFun, c70, hv.frz, hw.frz, hv.len]
  refine l70 hv hw hl l.length 0 (by omega) ?_ (fun hle => ⟨fun h1 h2 => ?_, fun h1 h2 => ?_⟩) (by omega)
  · rw [List.drop_zero, List.drop_zero]
    simp [go_sem]
    exact h
  · rw [List.drop_zero, List.drop_zero] at h2
    rw [h2] at h
    simp [go_sem, hv.len, hw.len, h1]
    exact h
  · rw [List.drop_zero, List.drop_zero] at h2
    rw [h2] at h
    simp [go_sem, hv.len, hw.len, h1]
    exact h
theorem cmp_lt {p q : ZZ} : cmpV [p.1, p.2] [q.1, q.2] < 0 ↔ ltZ p q := by
  unfold ltZ
  simp only [cmpV, cmpI]
  by_cases h1 : p.1 < q.1
  · simp [h1]
  · by_cases h2 : q.1 < p.1
    · simp [h1, h2]; omega
    · have e : p.1 = q.1 := by omega
      by_cases h3 : p.2 < q.2
      · simp [e, h3]
      · by_cases h4 : q.2 < p.2
        · simp [e, h3, h4]
        · simp [e, h3, h4]
theorem frz_two {id ver fz d : Nat} {ex : Bool} {a b : Int} (h : H[id]? = some (.row ver [.int .i64 a, .int .i64 b] fz ex)) (hbar : bar ≤ id) : Go.Ab.frz (d + 3) bar H (.vec id ver 0 2 1) = some (.lst 1 false [.int .i64 a, .int .i64 b], H.set id (.row ver [.int .i64 a, .int .i64 b] (max fz 2) ex)) := by
  have e := frz_vec (d := d + 2) (bar := bar) (H := H) (id := id) (ver := ver) (off := 0) (len := 2) (sz := 1) (cs := [.int .i64 a, .int .i64 b]) (fz := fz) (ex := ex) (xs := [.int .i64 a, .int .i64 b]) (H' := H.set id (.row ver [.int .i64 a, .int .i64 b] (max fz (0 + 2)) ex)) h (by simp) hbar (by
    have : ∀ c ∈ [AV.int .i64 a, AV.int .i64 b], Plain c := fun c hc => by
      simp at hc
      rcases hc with rfl | rfl <;> exact Plain.int
    simpa using plains this)
  exact e
theorem k70v {i j : Nat} {a b c d : Int} (hi : H[i]? = some (.row 0 [.int .i64 a, .int .i64 b] 0 true)) (hj : H[j]? = some (.row 0 [.int .i64 c, .int .i64 d] 0 true)) (hij : i ≠ j) (hbi : bar ≤ i) (hbj : bar ≤ j)
    (h : Q (.int .i64 (cmpV [a, b] [c, d])) ((H.set i (.row 0 [.int .i64 a, .int .i64 b] 2 true)).set j (.row 0 [.int .i64 c, .int .i64 d] 2 true))) : WpCall E pure base bar 70 [.vec i 0 0 2 1, .vec j 0 0 2 1] H Q := by
  have z1 : isZ (.lst 1 false [.int .i64 a, .int .i64 b]) [a, b] := .inr ⟨false, rfl⟩
  have z2 : isZ (.lst 1 false [.int .i64 c, .int .i64 d]) [c, d] := .inr ⟨false, rfl⟩
  have k := k70 (pure := pure) (base := base) (bar := bar) z1 z2 (by simp) h
  have hjl := (List.getElem?_eq_some_iff.1 hj).1
  have f1 := frz_two (d := 5) (bar := bar) hi hbi
  have f2 := frz_two (d := 5) (bar := bar) (H := H.set i (.row 0 [.int .i64 a, .int .i64 b] (max 0 2) true)) (by rw [List.getElem?_set_ne hij]; exact hj) hbj
  have e1 : frzAll bar H [.vec i 0 0 2 1, .vec j 0 0 2 1] = some ([.lst 1 false [.int .i64 a, .int .i64 b], .lst 1 false [.int .i64 c, .int .i64 d]], (H.set i (.row 0 [.int .i64 a, .int .i64 b] 2 true)).set j (.row 0 [.int .i64 c, .int .i64 d] 2 true)) := by
    simp only [frzAll, frz.frzs, frzsW, f1, f2]; rfl
  have e2 : ∀ G, frzAll bar G [.lst 1 false [.int .i64 a, .int .i64 b], .lst 1 false [.int .i64 c, .int .i64 d]] = some ([.lst 1 false [.int .i64 a, .int .i64 b], .lst 1 false [.int .i64 c, .int .i64 d]], G) := fun _ => rfl
  rw [call70, e2] at k
  rw [call70, e1]
  exact k
theorem k69 {p q : ZZ} (hbar : bar ≤ H.length) (h : Q (.int .i64 (cmpV [p.1, p.2] [q.1, q.2])) H) : WpCall E pure base bar 69 [.agg (zc p), .agg (zc q)] H Q := by
  rw [call69]
  have e0 : frzAll bar H [.agg (zc p), .agg (zc q)] = some ([.agg (zc p), .agg (zc q)], H) := by simp [frzAll, frz.frzs, frzsW, zc, frz_agg, frz_int]
  rw [e0]
  have hb' : (if pure = true then H.length else bar) ≤ H.length := bar_if hbar
  simp [go_sem, WpFun, c69, AV.isTup, AV.cells, aop, zc, Opd.evo, aslice, optBound]
  refine k70v (a := p.1) (b := p.2) (c := q.1) (d := q.2) (i := H.length) (j := H.length + 1) (by simp) (by simp) (by omega) (by omega) (by omega) ?_
  simp [go_sem, own_set, own_set0]
  exact h
/-! pairs in a block -/
theorem prs_drop {L : List ZZ} {i : Nat} : (prs L).drop (2 * i) = prs (L.drop i) := by
  induction i generalizing L with
  | zero => simp
  | succ i ih =>
    cases L with
    | nil => simp [prs]
    | cons p r =>
      rw [List.drop_succ_cons, ← ih]
      show ((zc p) ++ prs r).drop (2 * (i + 1)) = _
      rw [show 2 * (i + 1) = (zc p).length + 2 * i by simp [zc]; omega, ← List.drop_drop, List.drop_left]
theorem prs_part {L : List ZZ} {i : Nat} (hi : i < L.length) : Ab.part ⟨true, 2⟩ (prs L) (2 * i) = some (.agg (zc L[i])) := by
  have hl := prs_length (l := L)
  have e : ((prs L).drop (2 * i)).take 2 = zc L[i] := by
    rw [prs_drop, List.drop_eq_getElem_cons hi]
    show (zc L[i] ++ prs _).take 2 = _
    simp [zc]
  have hlt : 2 * i + 2 ≤ (prs L).length := by omega
  simp [Ab.part, e, hlt]
theorem prs_set {L : List ZZ} {i : Nat} {p : ZZ} (hi : i < L.length) : setCells (prs L) (2 * i) (zc p) = prs (L.set i p) := by
  induction i generalizing L with
  | zero =>
    cases L with
    | nil => simp at hi
    | cons q r => simp [prs, setCells, zc]
  | succ i ih =>
    cases L with
    | nil => simp at hi
    | cons q r =>
      have := ih (L := r) (by simpa using hi)
      rw [List.set_cons_succ]
      show setCells (zc q ++ prs r) (2 * (i + 1)) (zc p) = zc q ++ prs (r.set i p)
      rw [← this]
      simp [zc, setCells, show 2 * (i + 1) = 2 * i + 1 + 1 by omega]
end Go.Proofs.YtoipleipokpnaaaGreat.Code
end
section
namespace Go.Proofs.YtoipleipokpnaaaGreat.Code
open Go Go.Ab
variable {pure : Bool} {base bar : Nat} {H : Heap} {Q : AV → Heap → Prop} {K : AV → Heap → List Nat → Prop}
/-! insertion sort -/
def srt (L : List ZZ) : Prop := L.Pairwise fun p q => ¬ ltZ q p
theorem zc_tops {p : ZZ} (n : Nat) : AV.top.tops (zc p) ≤ n := by simp [zc, AV.top.tops, AV.top]
theorem ltZ.le {x y z : ZZ} (h1 : ¬ ltZ y x) (h2 : ¬ ltZ z y) : ¬ ltZ z x := by unfold ltZ at *; omega
theorem l86a {id ver n i : Nat} {ex : Bool} {x : ZZ} {C : List ZZ} {H0 : Heap} (hid : id < H0.length) (hb : bar ≤ id) (hn : n < 1000) {R : PQ} : ∀ (A B : List ZZ), A.length + B.length + C.length + 1 = n → srt (A ++ B) → (∀ b ∈ B, ltZ x b) →
    (∀ S : List ZZ, S.Perm (A ++ x :: B) → srt S → ∀ v, R (.exit 2) [(0, .vec id ver 0 n 2), (1, .int .i64 0), (2, .int .i64 (n : Nat)), (3, .fn 69 [] []), (8, .int .i64 (i : Nat)), (9, v), (34, .bool false)] (H0.set id (.row ver (prs (S ++ C)) 0 ex))) →
    Wp E base bar (.loop c86_l0) [(0, .vec id ver 0 n 2), (1, .int .i64 0), (2, .int .i64 (n : Nat)), (3, .fn 69 [] []), (8, .int .i64 (i : Nat)), (9, .int .i64 (A.length : Nat))] (H0.set id (.row ver (prs (A ++ x :: B ++ C)) 0 ex)) R := by
  intro A
  obtain ⟨m, hm⟩ : ∃ m, A.length = m := ⟨_, rfl⟩
  induction m generalizing A with
  | zero =>
    intro B hl hs hB h
    have : A = [] := List.length_eq_zero_iff.1 hm
    subst this
    have hh := h (x :: B) (List.Perm.refl _) (List.pairwise_cons.2 ⟨fun b hb hlt => ltZ.asymm hlt (hB b hb), hs⟩)
    rw [wp_round c86_l0.eq_1]
    simp [go_sem]
    exact hh _
  | succ m ih =>
    intro B hl hs hB h
    obtain ⟨A', y, rfl⟩ : ∃ A' y, A = A' ++ [y] := by
      rcases List.eq_nil_or_concat A with e | ⟨A', y, e⟩
      · subst e; simp at hm
      · exact ⟨A', y, by rw [e, List.concat_eq_append]⟩
    have hm' : A'.length = m := by simpa using hm
    rw [hm]
    have eL : A' ++ [y] ++ x :: B ++ C = A' ++ y :: x :: (B ++ C) := by simp
    have hlen : (A' ++ y :: x :: (B ++ C)).length = n := by simp at hl ⊢; omega
    have hx : (A' ++ y :: x :: (B ++ C))[m + 1]'(by simp; omega) = x := by
      rw [List.getElem_append_right (by omega)]
      simp [hm']
    have hy : (A' ++ y :: x :: (B ++ C))[m]'(by simp; omega) = y := by
      rw [List.getElem_append_right (by omega)]
      simp [hm']
    have hset : ((A' ++ y :: x :: (B ++ C)).set (m + 1) y).set m x = A' ++ x :: (y :: B) ++ C := by
      rw [List.set_append_right _ _ (by omega), List.set_append_right _ _ (by omega)]
      simp [hm']
    have hr1 := prs_part (L := A' ++ y :: x :: (B ++ C)) (i := m + 1) (by omega)
    have hr2 := prs_part (L := A' ++ y :: x :: (B ++ C)) (i := m) (by omega)
    rw [hx] at hr1
    rw [hy] at hr2
    have hs1 := prs_set (L := A' ++ y :: x :: (B ++ C)) (i := m + 1) (p := y) (by omega)
    have hs2 := prs_set (L := (A' ++ y :: x :: (B ++ C)).set (m + 1) y) (i := m) (p := x) (by rw [List.length_set]; omega)
    rw [hset] at hs2
    have hw : IntKind.i64.wrap (((m + 1 : Nat) : Int) - 1) = ((m : Nat) : Int) := by rw [Go.IntWalk.i64_in _ (by omega)]; omega
    have hpl := prs_length (l := A' ++ y :: x :: (B ++ C))
    rw [hlen] at hpl
    have hpl2 := prs_length (l := (A' ++ y :: x :: (B ++ C)).set (m + 1) y)
    rw [List.length_set, hlen] at hpl2
    have hsA : srt (A' ++ (y :: B)) := by simpa using hs
    have hgo := fun (hyx : ltZ x y) => ih A' hm' (y :: B) (by simp at hl ⊢; omega) hsA (fun b hb => by
      rcases List.mem_cons.1 hb with rfl | hb
      · exact hyx
      · exact hB b hb) (fun S hS => h S (hS.trans (by simpa using (List.Perm.append_left A' (List.Perm.swap y x B)))))
    rw [hm'] at hgo
    have hstop : ¬ ltZ x y → srt (A' ++ [y] ++ x :: B) := fun hno => by
      unfold srt at hs ⊢
      rw [List.pairwise_append] at hs ⊢
      obtain ⟨s1, s2, s3⟩ := hs
      refine ⟨s1, List.pairwise_cons.2 ⟨fun b hb hlt => ltZ.asymm hlt (hB b hb), s2⟩, fun a ha b hb => ?_⟩
      rcases List.mem_cons.1 hb with rfl | hb
      · rcases List.mem_append.1 ha with ha | ha
        · rw [List.pairwise_append] at s1
          exact ltZ.le (s1.2.2 a ha y (by simp)) hno
        · rw [List.mem_singleton.1 ha]; exact hno
      · exact s3 a ha b hb
    rw [eL]
    have hg : (H0.set id (.row ver (prs (A' ++ y :: x :: (B ++ C))) 0 ex))[id]? = some (.row ver (prs (A' ++ y :: x :: (B ++ C))) 0 ex) := List.getElem?_set_self hid
    have hset2 : ∀ b c : Blk, (H0.set id b).set id c = H0.set id c := fun b c => by rw [List.set_set]
    have hfin := fun hno v => h _ (List.Perm.refl _) (hstop hno) v
    rw [eL] at hfin
    rw [← hs2, ← hs1] at hgo
    clear hx hy hset hs2 hs1 hpl2 eL
    generalize A' ++ y :: x :: (B ++ C) = L at *
    have i1 : m + 1 < n := by simp at hl; omega
    have i2 : m < n := by omega
    have hA1 : aload (H0.set id (.row ver (prs L) 0 ex)) ⟨true, 2⟩ (.ptr id ver ((m + 1) * 2)) = some (.agg (zc x)) := by rw [aload_ptr hg, Nat.mul_comm]; exact hr1
    have hA2 : aload (H0.set id (.row ver (prs L) 0 ex)) ⟨true, 2⟩ (.ptr id ver (m * 2)) = some (.agg (zc y)) := by rw [aload_ptr hg, Nat.mul_comm]; exact hr2
    have c1 : (m + 1) * 2 + 2 ≤ (prs L).length := by omega
    have c2 : m * 2 + 2 ≤ (prs L).length := by omega
    have hl0 : (H0.set id (.row ver (prs L) 0 ex)).length = H0.length := by simp
    rw [Nat.mul_comm 2 (m + 1), Nat.mul_comm 2 m] at hgo
    have hbl : bar ≤ H0.length := by omega
    have hj0 : 0 < m + 1 := by omega
    clear hr1 hr2 hl hpl hlen
    generalize m + 1 = j at *
    rw [wp_round c86_l0.eq_1]
    simp [go_sem, i1, i2, hw, hA1, hA2, hj0]
    refine k69 (p := x) (q := y) (by rw [hl0]; exact hbl) ?_
    by_cases hlt : ltZ x y
    · have hc := cmp_lt.2 hlt
      have hh := hgo hlt
      generalize cmpV [x.1, x.2] [y.1, y.2] = z at *
      simp [go_sem, hc, i1, i2, hw, hA1, hA2]
      rw [storeWp_ptr (size := 2) hg rfl rfl (by omega) (by omega) hb (.inr (zc_tops _)), hset2]
      have hg2 : (H0.set id (.row ver (setCells (prs L) (j * 2) (zc y)) 0 ex))[id]? = some (.row ver (setCells (prs L) (j * 2) (zc y)) 0 ex) := List.getElem?_set_self hid
      have hcl : (AV.agg (zc y)).cells = zc y := rfl
      have hcx : (AV.agg (zc x)).cells = zc x := rfl
      rw [hcl]
      simp [go_sem, i1, i2, hw]
      rw [storeWp_ptr (size := 2) hg2 rfl rfl (by omega) (by rw [setCells_length]; omega) hb (.inr (zc_tops _)), hset2, hcx]
      simp [go_sem, hw]
      exact hh
    · have hc : ¬ cmpV [x.1, x.2] [y.1, y.2] < 0 := fun e => hlt (cmp_lt.1 e)
      generalize cmpV [x.1, x.2] [y.1, y.2] = z at *
      simp [go_sem, hc]
      exact hfin hlt _
end Go.Proofs.YtoipleipokpnaaaGreat.Code
end
section
namespace Go.Proofs.YtoipleipokpnaaaGreat.Code
open Go Go.Ab
variable {pure : Bool} {base bar : Nat} {H : Heap} {Q : AV → Heap → Prop} {K : AV → Heap → List Nat → Prop}
theorem l86b {id ver n : Nat} {ex : Bool} {L0 : List ZZ} {H0 : Heap} (hid : id < H0.length) (hb : bar ≤ id) (hn : n < 1000) {R : PQ} 
    (h : ∀ S : List ZZ, S.Perm L0 → srt S → R (.exit 0) [(0, .vec id ver 0 n 2), (1, .int .i64 0), (2, .int .i64 (n : Nat)), (3, .fn 69 [] []), (8, .int .i64 (n : Nat)), (14, .bool false)] (H0.set id (.row ver (prs S) 0 ex))) :
    ∀ (k i : Nat) (L : List ZZ), i + k = n → 1 ≤ i → L.Perm L0 → L.length = n → srt (L.take i) →
    Wp E base bar (.loop c86_l1) [(0, .vec id ver 0 n 2), (1, .int .i64 0), (2, .int .i64 (n : Nat)), (3, .fn 69 [] []), (8, .int .i64 (i : Nat))] (H0.set id (.row ver (prs L) 0 ex)) R := by
  intro k
  induction k with
  | zero =>
    intro i L hi h1 hp hl hs
    obtain rfl : i = n := by omega
    rw [List.take_of_length_le (by omega)] at hs
    rw [wp_round c86_l1.eq_1]
    simp [go_sem]
    exact h L hp hs
  | succ k ih =>
    intro i L hi h1 hp hl hs
    have hlt : i < L.length := by omega
    have hin : i < n := by omega
    have e1 : L.take i ++ L[i] :: [] ++ L.drop (i + 1) = L := by
      rw [List.append_assoc, List.cons_append, List.nil_append, ← List.drop_eq_getElem_cons hlt, List.take_append_drop]
    have htl : (L.take i).length = i := by rw [List.length_take]; omega
    have hw := i64_suc (show i < 1000000 by omega)
    rw [wp_round c86_l1.eq_1]
    simp [go_sem, hin]
    have hin' := fun (R : PQ) => l86a (base := base) (bar := bar) (ver := ver) (n := n) (i := i) (ex := ex) (x := L[i]) (C := L.drop (i + 1)) hid hb hn (R := R) (L.take i) [] (by simp; omega) (by simpa using hs) (by simp)
    rw [e1, htl] at hin'
    refine hin' _ fun S hS hsS v => ?_
    simp [go_sem, hw]
    have hSl : S.length = i + 1 := by rw [hS.length_eq]; simp; omega
    refine ih (i + 1) _ (by omega) (by omega) ?_ ?_ ?_
    · refine ((List.Perm.append_right _ hS).trans ?_).trans hp
      rw [e1]
    · rw [List.length_append, hSl, List.length_drop]; omega
    · rw [List.take_append_of_le_length (by omega), List.take_of_length_le (by omega)]; exact hsS
theorem k86 {id ver n : Nat} {ex : Bool} {L : List ZZ} (h : H[id]? = some (.row ver (prs L) 0 ex)) (hl : L.length = n) (h1 : 1 ≤ n) (hn : n < 1000) (hb : bar ≤ id) 
    (k : ∀ S : List ZZ, S.Perm L → srt S → Q (.tup []) (H.set id (.row ver (prs S) 0 ex))) : WpCall E false base bar 86 [.vec id ver 0 n 2, .int .i64 0, .int .i64 (n : Nat), .fn 69 [] []] H Q := by
  have hid := (List.getElem?_eq_some_iff.1 h).1
  rw [call86]
  have hw : IntKind.i64.wrap 1 = ((1 : Nat) : Int) := rfl
  simp [go_sem, WpFun, c86, hw]
  have hset : H.set id (.row ver (prs L) 0 ex) = H := set_same h
  have := fun (R : PQ) hR => l86b (base := H.length) (bar := bar) (ver := ver) (n := n) (ex := ex) (L0 := L) hid hb hn (R := R) hR (n - 1) 1 L (by omega) (by omega) (List.Perm.refl _) hl (by
    obtain _ | ⟨p, L⟩ := L
    · simp at hl; omega
    · simp [srt])
  rw [hset] at this
  refine this _ fun S hS hsS => ?_
  simp [go_sem]
  rw [show (H.set id (.row ver (prs S) 0 ex)).take H.length = H.set id (.row ver (prs S) 0 ex) by rw [List.take_of_length_le (by simp)]]
  exact k S hS hsS
theorem bytesOf_size {l : List Nat} : (bytesOf l).size = l.length := by unfold bytesOf; simp [ByteArray.size]
set_option maxRecDepth 4000 in
theorem c95_size : c95_b0.size = 256 := by
  unfold c95_b0
  rw [bytesOf_size]
  rfl
theorem k95 {n : Nat} (hn : n ≤ 12) (h : ∀ r : Int, Q (.int .i64 r) H) : WpCall E pure base bar 95 [.int .u64 (n : Nat)] H Q := by
  rw [call95]
  have e0 : frzAll bar H [.int .u64 (n : Nat)] = some ([.int .u64 (n : Nat)], H) := rfl
  rw [e0]
  have hw : IntKind.u8.wrap ((n : Nat) : Int) = ((n : Nat) : Int) := by rw [show IntKind.u8.wrap ((n : Nat) : Int) = (n : Int) from Go.IntWalk.u8_in _ (by omega)]
  have hb : n < c95_b0.size := by rw [c95_size]; omega
  obtain ⟨b, hb⟩ : ∃ b, c95_b0[n]? = some b := ⟨_, getElem?_pos c95_b0 n hb⟩
  unfold c95
  generalize c95_b0 = B at *
  simp [go_sem, WpFun, hw, show ¬ (4294967296 : Int) ≤ (n : Int) by omega, show ¬ (65536 : Int) ≤ (n : Int) by omega, show ¬ (256 : Int) ≤ (n : Int) by omega]
  simp [go_sem, aop, Opd.ev, AV.asNat, hb]
  exact h _
theorem k82 {n : Nat} (hn : n ≤ 12) (h : ∀ r : Int, Q (.int .i64 r) H) : WpCall E pure base bar 82 [.int .u64 (n : Nat)] H Q := by
  rw [call82]
  have e0 : frzAll bar H [.int .u64 (n : Nat)] = some ([.int .u64 (n : Nat)], H) := rfl
  rw [e0]
  simp [go_sem, WpFun, c82]
  refine k95 hn fun r => ?_
  simp [go_sem]
  exact h r
theorem k81 {id ver n : Nat} {ex : Bool} {L : List ZZ} {r : Int} (h : H[id]? = some (.row ver (prs L) 0 ex)) (hl : L.length = n) (h1 : 1 ≤ n) (hn : n ≤ 12) (hb : bar ≤ id) 
    (k : ∀ S : List ZZ, S.Perm L → srt S → Q (.tup []) (H.set id (.row ver (prs S) 0 ex))) : WpCall E false base bar 81 [.vec id ver 0 n 2, .int .i64 0, .int .i64 (n : Nat), .int .i64 r, .fn 69 [] []] H Q := by
  rw [call81]
  have hw : IntKind.i64.wrap ((n : Nat) : Int) = (n : Nat) := Go.IntWalk.i64_in _ (by omega)
  simp [go_sem, WpFun, c81]
  rw [wp_round c81_l0.eq_1]
  simp [go_sem, hw, show (n : Int) ≤ 12 by omega]
  refine k86 h hl h1 (by omega) hb fun S hS hsS => ?_
  simp [go_sem]
  rw [show (H.set id (.row ver (prs S) 0 ex)).take H.length = H.set id (.row ver (prs S) 0 ex) by rw [List.take_of_length_le (by simp)]]
  exact k S hS hsS
theorem k68 {id ver n : Nat} {ex : Bool} {L : List ZZ} (h : H[id]? = some (.row ver (prs L) 0 ex)) (hl : L.length = n) (h1 : 1 ≤ n) (hn : n ≤ 12) (hb : bar ≤ id) 
    (k : ∀ S : List ZZ, S.Perm L → srt S → Q (.tup []) (H.set id (.row ver (prs S) 0 ex))) : WpCall E false base bar 68 [.vec id ver 0 n 2, .fn 69 [] []] H Q := by
  rw [call68]
  have hw : IntKind.u64.wrap ((n : Nat) : Int) = ((n : Nat) : Int) := by rw [show IntKind.u64.wrap ((n : Nat) : Int) = (n : Int) from Go.IntWalk.u64_in _ (by omega)]
  simp [go_sem, WpFun, c68, hw]
  refine k82 hn fun r => ?_
  simp [go_sem]
  refine k81 h hl h1 (by omega) hb fun S hS hsS => ?_
  simp [go_sem]
  rw [show (H.set id (.row ver (prs S) 0 ex)).take H.length = H.set id (.row ver (prs S) 0 ex) by rw [List.take_of_length_le (by simp)]]
  exact k S hS hsS
theorem k68n (k : Q (.tup []) H) : WpCall E false base bar 68 [.nils, .fn 69 [] []] H Q := by
  rw [call68]
  simp [go_sem, WpFun, c68]
  refine k82 (n := 0) (by omega) fun r => ?_
  simp [go_sem]
  rw [call81]
  simp [go_sem, WpFun, c81]
  rw [wp_round c81_l0.eq_1]
  simp [go_sem]
  rw [call86]
  simp [go_sem, WpFun, c86]
  rw [wp_round c86_l1.eq_1]
  simp [go_sem]
  exact k
end Go.Proofs.YtoipleipokpnaaaGreat.Code
end
section
namespace Go.Proofs.YtoipleipokpnaaaGreat.Code
open Go Go.Ab
variable {pure : Bool} {base bar : Nat} {H : Heap} {Q : AV → Heap → Prop} {K : AV → Heap → List Nat → Prop}
/-! ties of a list under construction, never frozen -/
def O0 (k : Nat) (l : List ZZ) (v : AV) (H : Heap) : Prop := (l = [] ∧ v = .nils) ∨ ∃ id ver, l ≠ [] ∧ k ≤ id ∧ v = .vec id ver 0 l.length 2 ∧ H[id]? = some (.row ver (prs l) 0 false)
theorem O0.more {k : Nat} {l : List ZZ} {v : AV} {G : Heap} (g : O0 k l v H) : O0 k l v (H ++ G) := by
  rcases g with h | ⟨id, ver, h1, h2, h3, h4⟩
  · exact .inl h
  · exact .inr ⟨id, ver, h1, h2, h3, by rw [List.getElem?_append_left (List.getElem?_eq_some_iff.1 h4).1]; exact h4⟩
theorem O0.pair {k : Nat} {l : List ZZ} {v : AV} {p : ZZ} {ex : Bool} (g : O0 k l v H) (hk : k ≤ H.length) (hb : bar ≤ k) (hbase : base ≤ k) (hlen : l.length < 1000)
    (h : ∀ v' H' tc, O0 k (l ++ [p]) v' H' → H.length ≤ H'.length → (∀ j, j < k → H'[j]? = H[j]?) → K v' H' tc) : appWp base bar 2 16 (some v) (some (.lst 2 ex [.agg (zc p)])) H K := by
  have hz : frzAll bar H (zc p) = some (zc p, H) := rfl
  have hpl : (prs l).length = l.length * 2 := by rw [prs_length, Nat.mul_comm]
  have e2 : prs l ++ zc p = prs (l ++ [p]) := by rw [prs_append, prs_one]
  simp only [appWp, asrc_lst]
  rw [show [AV.agg (zc p)].flatMap AV.cells = zc p from rfl, hz]
  rcases g with ⟨rfl, rfl⟩ | ⟨id, ver, h1, h2, rfl, h4⟩
  · have := h (.vec H.length 0 0 1 2) (H ++ [.row 0 (zc p) 0 false]) [] (.inr ⟨H.length, 0, by simp, hk, rfl, by simp [prs_one]⟩) (by simp) fun j hj => List.getElem?_append_left (by omega)
    simpa [aappend, zc, AV.noVec, AV.noVec.noVecs] using this
  · have hid := (List.getElem?_eq_some_iff.1 h4).1
    have := h (.vec id (ver + 1) 0 (l.length + 1) 2) (H.set id (.row (ver + 1) (prs l ++ zc p) 0 false)) [id] (.inr ⟨id, ver + 1, by simp, h2, by simp, by rw [List.getElem?_set_self hid, e2]⟩) (by simp) fun j hj => List.getElem?_set_ne (by omega)
    have hle : ¬ (140737488355328 < (l.length + 1) * 16) := by omega
    have htk : (prs l).take (l.length * 2) = prs l := List.take_of_length_le (by omega)
    have c1 : ¬ (prs l).length < 0 + l.length * 2 := by omega
    have c2 : ¬ (0 + (l.length + 1) * 2 ≤ (prs l).length) := by omega
    have hbi : bar ≤ id := by omega
    have hba : base ≤ id := by omega
    have hzl : (zc p).length = 2 := rfl
    simp only [aappend, h4, hzl, ne_eq, not_true_eq_false, if_false, false_or, c1, c2, htk, hbi, hba]
    simpa [aappend, h4, hle, htk, zc, AV.noVec, AV.noVec.noVecs, hbi, hba] using this
theorem O0.frz {k d : Nat} {l : List ZZ} {v : AV} (g : O0 k l v H) (hb : bar ≤ k) : ∃ u H', frz (d + 3) bar H v = some (u, H') ∧ isP u l ∧ H'.length = H.length ∧ (∀ j, j < k → H'[j]? = H[j]?) := by
  have : Own k 2 (prs l) v H := by
    rcases g with ⟨rfl, rfl⟩ | ⟨id, ver, h1, h2, h3, h4⟩
    · exact .inl ⟨rfl, rfl⟩
    · exact .inr ⟨id, ver, 0, fun e => h1 (by
        have := congrArg List.length e
        rw [prs_length] at this
        exact List.length_eq_zero_iff.1 (by simp at this; omega)), h2, by omega, by rw [h3, prs_length, Nat.mul_div_cancel_left _ (by omega)], h4⟩
  obtain ⟨H', e1, e2, e3, e4⟩ := this.frz (d := d) (bar := bar) (by omega) ⟨l.length, prs_length⟩ prs_plain hb
  refine ⟨_, H', e1, isP.out, e3, fun j hj => e4 j fun hid => ?_⟩
  have := (this.lt hid).1
  omega
theorem l34 {q : AV} {l : List ZZ} {H0 : Heap} (hq : isP q l) (hl : l.length < 1000) (hb : bar ≤ H0.length) (hbase : base ≤ H0.length) {R : PQ} : ∀ (k i : Nat), i + k = l.length → ∀ (v : AV) (H : Heap), 
    O0 H0.length ((l.take i).map normT) v H → H0.length ≤ H.length → (∀ j, j < H0.length → H[j]? = H0[j]?) →
    (∀ v' H', O0 H0.length (l.map normT) v' H' → H0.length ≤ H'.length → (∀ j, j < H0.length → H'[j]? = H0[j]?) → R (.exit 0) [(3, v'), (6, q), (7, .int .i64 (l.length : Nat)), (8, .int .i64 (l.length : Nat)), (9, .bool false)] H') →
    Wp E base bar (.loop c34_l0) [(3, v), (6, q), (7, .int .i64 (l.length : Nat)), (8, .int .i64 (i : Nat))] H R := by
  intro k
  induction k with
  | zero =>
    intro i hi v H g hH hlow h
    obtain rfl : i = l.length := by omega
    rw [List.take_length] at g
    rw [wp_round c34_l0.eq_1]
    simp [go_sem]
    exact h v H g hH hlow
  | succ k ih =>
    intro i hi v H g hH hlow h
    have hlt : i < l.length := by omega
    have htk : l.take (i + 1) = l.take i ++ [l[i]] := by rw [List.take_add_one, List.getElem?_eq_getElem hlt]; rfl
    have hix := fun (H : Heap) (K : AV → Heap → List Nat → Prop) => hq.ix (H := H) (K := K) (k := .i64) hlt
    obtain ⟨⟨a, b⟩, hp⟩ : ∃ p, l[i] = p := ⟨_, rfl⟩
    rw [hp] at htk hix
    have hw := i64_suc (show i < 1000000 by omega)
    have hnext := ih (i + 1) (by omega)
    rw [htk, List.map_append] at hnext
    have hlen : ((l.take i).map normT).length < 1000 := by simp; omega
    rw [wp_round c34_l0.eq_1]
    have hbH : bar ≤ H.length := by omega
    have hnt : [(a, b)].map normT = [(if b < a then b else a, if a < b then b else a)] := by
      rw [List.map_singleton, normT]
      simp only [List.cons.injEq, Prod.mk.injEq, and_true]
      omega
    rw [hnt] at hnext
    simp [go_sem, hlt, hix, zc, aload, Ab.part, storeWp, astore, AV.isTup, AV.cells, setCells, hbH, aop, evs, Opd.ev, fillA, chunks]
    refine (g.more (G := [.row 0 [.int .i64 a, .int .i64 b] 0 true])).pair (p := (if b < a then b else a, if a < b then b else a)) (by simp; omega) hb hbase hlen fun v' H' tc g' hl' hlow' => ?_
    simp [go_sem, hw]
    simp at hl'
    refine hnext v' H' g' (by omega) (fun j hj => ?_) h
    rw [hlow' j hj, List.getElem?_append_left (by omega), hlow j hj]
theorem k34 {q : AV} {l : List ZZ} (hq : isP q l) (hl : l.length ≤ 12) (hbar : bar ≤ H.length) (k : ∀ u S, isP u S → S.Perm (l.map normT) → srt S → Q u H) : WpCall E pure base bar 34 [q] H Q := by
  rw [call34]
  have e0 : frzAll bar H [q] = some ([q], H) := by simp [frzAll, frz.frzs, frzsW, hq.frz]
  rw [e0]
  have hb' := bar_if (pure := pure) hbar
  have hlen := fun (H : Heap) (K : AV → Heap → List Nat → Prop) => hq.len (H := H) (K := K)
  simp [go_sem, WpFun, c34, hlen]
  refine l34 (H0 := H) hq (by omega) hb' (by omega) l.length 0 (by omega) .nils H (by simp [O0]) (by omega) (fun _ _ => rfl) fun v H1 g hH1 hlow => ?_
  simp [go_sem]
  have hfin : ∀ (S : List ZZ) (H2 : Heap), S.Perm (l.map normT) → srt S → O0 H.length S v H2 → H2.length = H1.length → (∀ j, j < H.length → H2[j]? = H[j]?) → retWp 0 H.length (if pure = true then H.length else bar) [.tmp 2] Q .ret [(2, v)] H2 := by
    intro S H2 hp hs g2 h2 hlow2
    obtain ⟨u, H3, f1, f2, f3, f4⟩ := g2.frz (d := 5) (bar := if pure = true then H.length else bar) hb'
    have hk := k u S f2 hp hs
    have htake : H3.take H.length = H := take_same (by omega) fun j hj => by rw [f4 j hj, hlow2 j hj]
    simp [go_sem, f1, f2.top, htake]
    exact hk
  rcases g with ⟨e1, rfl⟩ | ⟨id, ver, h1, h2, rfl, h4⟩
  · refine k68n ?_
    simp [go_sem]
    exact hfin [] H1 (by rw [e1]) (by simp [srt]) (.inl ⟨rfl, rfl⟩) rfl hlow
  · refine k68 h4 rfl (by have := List.length_pos_iff.2 h1; omega) (by simpa using hl) (by omega) fun S hS hsS => ?_
    have hid := (List.getElem?_eq_some_iff.1 h4).1
    simp [go_sem]
    have := hfin S (H1.set id (.row ver (prs S) 0 false)) hS hsS (.inr ⟨id, ver, fun e => h1 (by rw [e] at hS; exact hS.symm.eq_nil), h2, by rw [hS.length_eq], List.getElem?_set_self hid⟩) (by simp) fun j hj => by
      rw [List.getElem?_set_ne (by omega), hlow j hj]
    simpa [go_sem] using this
end Go.Proofs.YtoipleipokpnaaaGreat.Code
end
section
namespace Go.Proofs.YtoipleipokpnaaaGreat.Code
open Go Go.Ab
variable {pure : Bool} {base bar : Nat} {H : Heap} {Q : AV → Heap → Prop} {K : AV → Heap → List Nat → Prop}
/-! a tie less, on the masks -/
theorem wd_untie {n k x y : Nat} {l : List ZZ} {w : Nat → Nat} (ht : Tre n l) (hk : k < l.length) (hp : l[k] = ((x : Int), (y : Int))) (hw : Wd n l w) : Wd n (lessT l k) (tieW w x y) := by
  have hok := ht.ok _ (List.getElem_mem hk)
  rw [hp] at hok
  obtain ⟨_, _, g1, g2, g3⟩ := hok
  simp only at g1 g2 g3
  have h9 := ht.nine
  have hne : y ≠ x := fun e => g3 (by rw [e])
  have hca : upd w x (bxor (w x) (pw y)) y = w y := by unfold upd; rw [if_neg hne]
  have hin := hw.inn
  have hxy : tieB l x y = true := tieB_iff.2 (.inl (by rw [← hp]; exact List.getElem_mem hk))
  refine ⟨fun i => ?_, fun u v => ?_, fun p hp => ?_⟩
  · unfold tieW
    rw [hca]
    unfold upd
    split
    · exact bxor9 (hw.lt y) (pw9 (by omega))
    · split
      · exact bxor9 (hw.lt x) (pw9 (by omega))
      · exact hw.lt i
  · have hlt := lessT_tie ht hk hp u v
    have hb := hw.bit u v
    have e : (tieW w x y u).testBit v = (tieB l u v && !decide ((u = x ∧ v = y) ∨ (u = y ∧ v = x))) := by
      rw [← hb]
      unfold tieW
      rw [hca]
      simp only [upd]
      by_cases h1 : u = y
      · rw [if_pos h1, testBit_bxor, testBit_pw]
        by_cases h2 : x = v
        · have : (w u).testBit v = true := by rw [hb, h1, ← h2, tieB_symm]; exact hxy
          have h3 : (w y).testBit v = true := by rw [← h1]; exact this
          simp [this, h2, h1, h3]
        · subst h1
          simp [h2, show ¬ v = x from fun e => h2 e.symm, hne]
      · rw [if_neg h1]
        by_cases h2 : u = x
        · rw [if_pos h2, testBit_bxor, testBit_pw]
          by_cases h3 : y = v
          · have : (w u).testBit v = true := by rw [hb, h2, ← h3]; exact hxy
            have h4 : (w x).testBit v = true := by rw [← h2]; exact this
            simp [this, h2, h3, h4]
          · subst h2
            simp [h3, show ¬ v = y from fun e => h3 e.symm, h1]
        · rw [if_neg h2]
          simp [h1, h2]
    rw [e]
    cases hq : tieB (lessT l k) u v
    · have : ¬ (tieB l u v = true ∧ ¬ ((u = x ∧ v = y) ∨ (u = y ∧ v = x))) := fun h => by rw [hlt.2 h] at hq; cases hq
      cases h5 : tieB l u v
      · rfl
      · rw [Bool.true_and, Bool.not_eq_false', decide_eq_true_eq]
        exact Classical.byContradiction fun hn => this ⟨h5, hn⟩
    · obtain ⟨h5, h6⟩ := hlt.1 hq
      rw [h5, Bool.true_and, Bool.not_eq_true', decide_eq_false_iff_not]
      exact h6
  · exact hw.val p (lessT_sub.subset hp)
theorem tieB_false_of {l : List ZZ} {a b : Nat} (h : ¬ Rch (tieB l) a b) : tieB l a b = false := by
  cases hq : tieB l a b
  · rfl
  · exact absurd (Rch.step (.refl a) hq) h
theorem k30 {n : Nat} {q : AV} {l : List ZZ} {i : Int} {p : ZZ} (hq : isP q l) (ht : Tre n l) (hbar : bar ≤ H.length)
    (h1 : ¬ (0 ≤ i ∧ i ≤ (l.length : Int) - 1) → Q (.tup [.agg [.int .i64 0, .nils], .int .i64 1]) H)
    (h2 : (0 ≤ i ∧ i ≤ (l.length : Int) - 1) → mayS n p ≠ 0 → Q (.tup [.agg [.int .i64 0, .nils], .int .i64 (mayS n p)]) H)
    (h3 : ∀ (k a b : Nat), i = k → k < l.length → p = ((a : Int), (b : Int)) → a < n → b < n → a ≠ b → Rch (tieB (lessT l k)) a b → Q (.tup [.agg [.int .i64 0, .nils], .int .i64 12]) H)
    (h4 : ∀ (k a b : Nat), i = k → k < l.length → p = ((a : Int), (b : Int)) → a < n → b < n → a ≠ b → ¬ Rch (tieB (lessT l k)) a b → ∀ u, isT u n (tidyF (tieB (lessT l k ++ [((a : Int), (b : Int))])) n) → Q (.tup [u, .int .i64 0]) H) :
    WpCall E pure base bar 30 [.agg [.int .i64 (n : Nat), q], .int .i64 i, .agg [.int .i64 p.1, .int .i64 p.2]] H Q := by
  rw [call30]
  have e0 : frzAll bar H [.agg [.int .i64 (n : Nat), q], .int .i64 i, .agg [.int .i64 p.1, .int .i64 p.2]] = some ([.agg [.int .i64 (n : Nat), q], .int .i64 i, .agg [.int .i64 p.1, .int .i64 p.2]], H) := by simp [frzAll, frz.frzs, frzsW, frz_agg, frz_int, hq.frz]
  rw [e0]
  have hb' := bar_if (pure := pure) hbar
  have hlen := fun (H : Heap) (K : AV → Heap → List Nat → Prop) => hq.len (H := H) (K := K)
  have h9 := ht.nine
  have hl := ht.len
  have hH3 : ∀ G : Heap, bar ≤ (H ++ G).length := fun G => by rw [List.length_append]; omega
  simp [go_sem, WpFun, c30, aload, AV.isTup, AV.cells]
  refine k55 hq (by omega) (by simp; omega) (fun G he => absurd ht.errT he) fun m w hm _ _ hw _ => ?_
  obtain rfl : m = n := by omega
  have e31 : H.length + 3 + 1 = H.length + 4 := rfl
  simp [go_sem, k46, aload, hlen, e31]
  rw [Go.IntWalk.i64_in _ (by omega)]
  generalize (if pure = true then H.length else bar) = br at *
  have hb2 : br ≤ H.length + 2 := by omega
  have hb4 : br ≤ H.length + 4 := by omega
  by_cases hi : 0 ≤ i ∧ i ≤ (l.length : Int) - 1
  · obtain ⟨k, rfl⟩ := Int.eq_ofNat_of_zero_le hi.1
    have hk : k < l.length := by omega
    rw [if_neg (by omega)]
    have hrw : RW (.vec (H.length + 4) 0 0 m 1) m w (H ++ ([.row 0 [.int .i64 (m : Nat), q] 0 true, .row 0 [.int .i64 p.1, .int .i64 p.2] 0 true, .row 0 [.int .i64 0, .nils] 0 true, .row 0 [.int .i64 (m : Nat), q] 0 true, .row 0 (wc m w) 0 true])) := RW.vec (fz := 0) (ex := true) (by simp)
    refine k64 hrw h9 ?_
    by_cases hp : mayS m p = 0
    · have hok := mayS_ok.1 hp
      obtain ⟨⟨x, y⟩, hxy⟩ : ∃ x, l[k] = x := ⟨_, rfl⟩
      have hokl := ht.ok _ (List.getElem_mem hk)
      rw [hxy] at hokl
      obtain ⟨g1, g2, g3, g4, g5⟩ := hokl
      simp only at g1 g2 g3 g4 g5
      obtain ⟨x, rfl⟩ := Int.eq_ofNat_of_zero_le g1
      obtain ⟨y, rfl⟩ := Int.eq_ofNat_of_zero_le g2
      obtain ⟨a, b⟩ := p
      obtain ⟨q1, q2, q3, q4, q5⟩ := hok
      simp only at q1 q2 q3 q4 q5
      obtain ⟨a, rfl⟩ := Int.eq_ofNat_of_zero_le q1
      obtain ⟨b, rfl⟩ := Int.eq_ofNat_of_zero_le q2
      have hix := fun (H : Heap) (K : AV → Heap → List Nat → Prop) => hq.ix (H := H) (K := K) (k := .i64) hk
      rw [hxy] at hix
      have w1 := wd_untie ht hk hxy hw
      simp [go_sem, hp, hix, zc, aload]
      refine k65 (id := H.length + 4) (ver := 0) (ex := true) (w := w) (by simp) h9 hw.lt (by omega) (by omega) hb4 ?_
      have e1 : ∀ G, (H ++ G).set (H.length + 4) (.row 0 (wc m (tieW w x y)) 0 true) = H ++ G.set 4 (.row 0 (wc m (tieW w x y)) 0 true) := fun G => by
        rw [List.set_append_right _ _ (by omega)]; congr 2; omega
      simp [go_sem, e1, aload]
      refine k66 (n := m) (w := tieW w x y) (RW.vec (fz := 0) (ex := true) (by simp)) h9 (by omega) w1.lt (fun a b h => (w1.inn a b h).2.1) (by simp; omega) fun R hR => ?_
      have k67' := fun (pure : Bool) (base bar : Nat) (H : Heap) (Q : AV → Heap → Prop) => k67 (pure := pure) (base := base) (bar := bar) (H := H) (Q := Q) hR.lt (show b < 9 by omega)
      have nv : ∀ w, AV.noVec.noVecs (wc m w) = true := fun w => noVecs_plainW
      simp [go_sem, aload, k67', nv, flatV, idsV]
      have hrch := hR.rch w1 (x := b)
      by_cases hb : R.testBit b = true
      · have := h3 k a b rfl hk rfl (by omega) (by omega) (by omega) (hrch.1 hb)
        simp [go_sem, hb, nv, flatV, idsV, storeWp, astore, AV.isTup, AV.cells, setCells, aload, Ab.part, hb2]
        exact this
      · have hno : ¬ Rch (tieB (lessT l k)) a b := fun h => hb (hrch.2 h)
        have hh := h4 k a b rfl hk rfl (by omega) (by omega) (by omega) hno
        have w2 := w1.tie h9 (show a < m by omega) (show b < m by omega) (by omega) (tieB_false_of hno)
        have e2 : tieB (lessT l k ++ [((a : Int), (b : Int))]) = fun u v => (tieW (tieW w x y) a b u).testBit v := funext fun u => funext fun v => (w2.bit u v).symm
        simp [go_sem, hb, aload, Ab.part, nv, flatV, idsV]
        refine k65 (id := H.length + 4) (ver := 0) (ex := true) (w := tieW w x y) (by simp) h9 w1.lt (by omega) (by omega) hb4 ?_
        have e3 : ∀ G, (H ++ G).set (H.length + 4) (.row 0 (wc m (tieW (tieW w x y) a b)) 0 true) = H ++ G.set 4 (.row 0 (wc m (tieW (tieW w x y) a b)) 0 true) := fun G => by
          rw [List.set_append_right _ _ (by omega)]; congr 2; omega
        rw [e3]
        simp [go_sem, aload]
        refine k49 (id := H.length + 4) (ver := 0) (fz := 0) (ex := true) (w := tieW (tieW w x y) a b) (by simp) h9 w2.lt hb4 fun u hu c => ?_
        rw [← e2] at hu
        have hk := hh u hu
        obtain ⟨q', hq', rfl⟩ := hu
        have e4 : ∀ G, (H ++ G).set (H.length + 4) c = H ++ G.set 4 c := fun G => by
          rw [List.set_append_right _ _ (by omega)]; congr 2; omega
        simp [go_sem, e4, storeWp, astore, AV.isTup, AV.cells, setCells, aload, Ab.part, hb2, hq'.isTup, hq'.cells, hq'.frz, hq'.top, AV.top, AV.top.tops]
        exact hk
    · have := h2 hi hp
      generalize mayS m p = e at *
      simp [go_sem, storeWp, astore, AV.isTup, AV.cells, setCells, aload, Ab.part, hp, hb2]
      exact this
  · rw [if_pos (by omega)]
    have := h1 hi
    simp [go_sem, storeWp, astore, AV.isTup, AV.cells, setCells, aload, Ab.part, hb2, frzAll, frz.frzs, frzsW]
    exact this
end Go.Proofs.YtoipleipokpnaaaGreat.Code
end
section
namespace Go.Proofs.YtoipleipokpnaaaGreat.Code
open Go Go.Ab
variable {pure : Bool} {base bar : Nat} {H : Heap} {Q : AV → Heap → Prop} {K : AV → Heap → List Nat → Prop}
/-! ties of a list under construction that may begin as an empty literal -/
def O1 (k : Nat) (l : List ZZ) (v : AV) (H : Heap) : Prop := O0 k l v H ∨ (l = [] ∧ v = .lst 2 true [])
theorem prs_ne {l : List ZZ} (h : l ≠ []) : prs l ≠ [] := fun e => h (prs_eq_nil.1 e)
theorem prs_noVec {l : List ZZ} : AV.noVec.noVecs (prs l) = true := by
  induction l with
  | nil => rfl
  | cons p r ih => rw [show prs (p :: r) = zc p ++ prs r from rfl]; simpa [zc, AV.noVec, AV.noVec.noVecs] using ih
theorem asrc_P {q : AV} {r : List ZZ} (hq : isP q r) : Ab.asrc H 2 q = some (prs r) := by
  rcases hq with ⟨rfl, rfl⟩ | ⟨ex, rfl⟩
  · rfl
  · rw [asrc_lst]
    congr 1
    induction r with
    | nil => rfl
    | cons p r ih => rw [show prA (p :: r) = .agg (zc p) :: prA r from rfl, List.flatMap_cons, ih]; rfl
theorem O1.app {k : Nat} {l r : List ZZ} {v q : AV} (g : O1 k l v H) (hq : isP q r) (hk : k ≤ H.length) (hb : bar ≤ k) (hbase : base ≤ k) (hlen : l.length + r.length < 1000)
    (h : ∀ v' H' tc, O1 k (l ++ r) v' H' → H.length ≤ H'.length → (∀ j, j < k → H'[j]? = H[j]?) → (∀ i ∈ tc, k ≤ i) → K v' H' tc) : appWp base bar 2 16 (some v) (some q) H K := by
  have hz : frzAll bar H (prs r) = some (prs r, H) := plains (d := 6) prs_plain
  have hpr : (prs r).length = r.length * 2 := by rw [prs_length, Nat.mul_comm]
  have hpl : (prs l).length = l.length * 2 := by rw [prs_length, Nat.mul_comm]
  have hdv : (prs r).length / 2 = r.length := by omega
  have hd2 : 2 ∣ (prs r).length := ⟨r.length, prs_length⟩
  simp only [appWp, asrc_P hq, hz]
  by_cases hr : r = []
  · subst hr
    rw [List.append_nil] at h
    rcases g with (⟨rfl, rfl⟩ | ⟨id, ver, h1, h2, rfl, h4⟩) | ⟨rfl, rfl⟩
    · simpa [prs, aappend, AV.noVec.noVecs] using h .nils H [] (.inl (.inl ⟨rfl, rfl⟩)) (Nat.le_refl _) (fun _ _ => rfl) (by simp)
    · have := h _ H [] (.inl (.inr ⟨id, ver, h1, h2, rfl, h4⟩)) (Nat.le_refl _) (fun _ _ => rfl) (by simp)
      have c1 : ¬ (prs l).length < l.length * 2 := by omega
      have c2 : ¬ 140737488355328 < l.length * 16 := by omega
      simpa [prs_nil, aappend, AV.noVec.noVecs, h4, c1, c2] using this
    · simpa [prs, aappend, AV.noVec.noVecs] using h (.lst 2 true []) H [] (.inr ⟨rfl, rfl⟩) (Nat.le_refl _) (fun _ _ => rfl) (by simp)
  · have hpos := List.length_pos_iff.2 hr
    have hne := prs_ne hr
    have hle : r.length * 16 ≤ 140737488355328 := by omega
    have hnew := h (.vec H.length 0 0 r.length 2) (H ++ [.row 0 (prs r) 0 false]) []
    rcases g with (⟨rfl, rfl⟩ | ⟨id, ver, h1, h2, rfl, h4⟩) | ⟨rfl, rfl⟩
    · have := hnew (.inl (.inr ⟨H.length, 0, by simpa using hr, hk, by simp, by simp⟩)) (by simp) (fun j hj => List.getElem?_append_left (by omega)) (by simp)
      simpa [aappend, hne, hdv, hle, prs_noVec, hd2] using this
    · have hid := (List.getElem?_eq_some_iff.1 h4).1
      have := h (.vec id (ver + 1) 0 (l.length + r.length) 2) (H.set id (.row (ver + 1) (prs l ++ prs r) 0 false)) [id] (.inl (.inr ⟨id, ver + 1, by simp [h1], h2, by simp, by rw [List.getElem?_set_self hid, prs_append]⟩)) (by simp) (fun j hj => List.getElem?_set_ne (by omega)) (by simpa using h2)
      have hle2 : ¬ (140737488355328 < (l.length + r.length) * 16) := by omega
      have htk : (prs l).take (l.length * 2) = prs l := List.take_of_length_le (by omega)
      have c1 : ¬ (prs l).length < 0 + l.length * 2 := by omega
      have c2 : ¬ (0 + (l.length + r.length) * 2 ≤ (prs l).length) := by omega
      have hbi : bar ≤ id := by omega
      have hba : base ≤ id := by omega
      have hie : ((prs r).isEmpty) = false := by simpa using hne
      simp only [aappend, h4, hdv, ne_eq, not_true_eq_false, if_false, false_or, c1, c2, hle2, htk, hbi, hba, hie, prs_noVec]
      simpa [hbi, hba, hd2] using this
    · have := hnew (.inl (.inr ⟨H.length, 0, by simpa using hr, hk, by simp, by simp⟩)) (by simp) (fun j hj => List.getElem?_append_left (by omega)) (by simp)
      simpa [aappend, hne, hdv, hle, prs_noVec, hd2] using this
theorem O1.frz {k d : Nat} {l : List ZZ} {v : AV} (g : O1 k l v H) (hb : bar ≤ k) : ∃ u H', Go.Ab.frz (d + 3) bar H v = some (u, H') ∧ isP u l ∧ H'.length = H.length ∧ (∀ j, j < k → H'[j]? = H[j]?) := by
  rcases g with g | ⟨rfl, rfl⟩
  · exact g.frz hb
  · exact ⟨_, H, rfl, .inr ⟨true, rfl⟩, rfl, fun _ _ => rfl⟩
theorem k32 {q : AV} {l : List ZZ} (hq : isP q l) (hl : l.length < 1000) (h : ∀ v G, O1 H.length l v (H ++ G) → Q v (H ++ G)) : WpCall E pure base bar 32 [q] H Q := by
  rw [call32]
  have e0 : frzAll bar H [q] = some ([q], H) := by simp [frzAll, frz.frzs, frzsW, hq.frz]
  rw [e0]
  have hq' := hq
  rcases hq with ⟨rfl, rfl⟩ | ⟨ex, rfl⟩
  · have := h .nils [] (.inl (.inl ⟨rfl, rfl⟩))
    rw [List.append_nil] at this
    have eq_nn : ∀ {H : Heap} {K : AV → Heap → List Nat → Prop}, eqWp false .nilS (some .nils) (some .nils) H K = K (.bool true) H [] := (rfl)
    simp [go_sem, WpFun, c32, eq_nn]
    exact this
  · have eq_ln : ∀ {l : List AV} {H : Heap} {K : AV → Heap → List Nat → Prop}, eqWp false .nilS (some (.lst 2 ex l)) (some .nils) H K = K (.bool false) H [] := (rfl)
    simp [go_sem, WpFun, c32, aop, fillA, chunks, eq_ln]
    have hpr : (prs l).length = l.length * 2 := by rw [prs_length, Nat.mul_comm]
    have hdv : (prs l).length / 2 = l.length := by omega
    have hd2 : 2 ∣ (prs l).length := ⟨l.length, prs_length⟩
    have hz : ∀ b, frzsW (frz 8 b) H (prs l) = some (prs l, H) := fun b => plains (d := 6) prs_plain
    have ha := asrc_P (H := H) hq'
    have hle : l.length * 16 ≤ 140737488355328 := by omega
    by_cases hn : l = []
    · subst hn
      have := h (.lst 2 true []) [] (.inr ⟨rfl, rfl⟩)
      rw [List.append_nil] at this
      simp [Opd.ev, go_sem, appWp, ha, aappend, prs_nil, AV.noVec.noVecs]
      exact this
    · have := h (.vec H.length 0 0 l.length 2) [.row 0 (prs l) 0 false] (.inl (.inr ⟨H.length, 0, hn, Nat.le_refl _, rfl, by simp⟩))
      simp [Opd.ev, go_sem, appWp, ha, aappend, prs_ne hn, hz, hdv, hle, prs_noVec, hd2]
      exact this
end Go.Proofs.YtoipleipokpnaaaGreat.Code
end
section
namespace Go.Proofs.YtoipleipokpnaaaGreat.Code
open Go Go.Ab
variable {pure : Bool} {base bar : Nat} {H : Heap} {Q : AV → Heap → Prop} {K : AV → Heap → List Nat → Prop}
theorem dc_congr {n : Nat} {D D' : Nat → Int} (h : ∀ x, x < n → D x = D' x) : dc n D = dc n D' := by
  unfold dc
  exact List.map_congr_left fun x hx => by rw [h x (List.mem_range.1 hx)]
theorem isSq.congr {v : AV} {n : Nat} {M M' : Mat} (h : isSq v n M) (hM : ∀ a b, a < n → b < n → M a b = M' a b) : isSq v n M' := by
  subst h
  unfold isSq
  congr 1
  refine List.map_congr_left fun i hi => ?_
  rw [dc_congr fun x hx => by rw [cRow, hM i x (List.mem_range.1 hi) hx]]
theorem k34v {k : Nat} {v : AV} {l : List ZZ} (g : O1 k l v H) (hk : bar ≤ k) (hkl : k ≤ H.length) (hl : l.length ≤ 12) (h : ∀ u S H', isP u S → S.Perm (l.map normT) → srt S → H'.length = H.length → (∀ j, j < k → H'[j]? = H[j]?) → Q u H') : WpCall E pure base bar 34 [v] H Q := by
  obtain ⟨u, H', e1, e2, e3, e4⟩ := g.frz (d := 5) hk
  have kk := k34 (pure := pure) (base := base) (bar := bar) (H := H') (Q := Q) e2 hl (by omega) fun u S h1 h2 h3 => h u S H' h1 h2 h3 e3 e4
  have f1 : frzAll bar H [v] = some ([u], H') := by simp only [frzAll, frz.frzs, frzsW, e1]
  have f2 : frzAll bar H' [u] = some ([u], H') := by simp only [frzAll, frz.frzs, frzsW, e2.frz]
  rw [call34, f2] at kk
  rw [call34, f1]
  exact kk
/-- a tie put back -/
theorem swap_back {n : Nat} {l L : List ZZ} {k x y a b j : Nat} (ht : Tre n l) (hk : k < l.length) (hp : l[k] = ((x : Int), (y : Int))) (ha : a < n) (hb : b < n) (hab : a ≠ b) (hno : ¬ Rch (tieB (lessT l k)) a b)
    (hL : L = tidyF (tieB (lessT l k ++ [((a : Int), (b : Int))])) n) (hj : j < L.length) (hLj : L[j] = (((min a b : Nat) : Int), ((max a b : Nat) : Int))) : 
    Tre n L ∧ ¬ Rch (tieB (lessT L j)) x y ∧ tieB (lessT L j ++ [((x : Int), (y : Int))]) = tieB l := by
  have ht' := swap_tree ht hk hp ha hb hab hno
  have htL : Tre n L := by rw [hL]; exact ht'.tidy (tidyF_length ht')
  have hsym : ∀ {l : List ZZ} a b, tieB l a b = tieB l b a := fun a b => tieB_symm
  have hff := tieB_false_of hno
  have hff' : tieB (lessT l k) b a = false := by rw [tieB_symm]; exact hff
  have e2 : tieB (lessT L j) = tieB (lessT l k) := funext fun u => funext fun v => by
    have h1 := lessT_tie htL hj hLj u v
    have h2 : tieB L u v = tieB (lessT l k ++ [((a : Int), (b : Int))]) u v := by rw [hL]; exact tidyF_tie (fun a b => tieB_symm) ht'.inn ht.nine u v
    rw [h2, tieB_snoc] at h1
    rw [Bool.eq_iff_iff, h1]
    simp only [Bool.or_eq_true, Bool.and_eq_true, beq_iff_eq]
    constructor
    · rintro ⟨h3 | h3, h4⟩
      · exact h3
      · exact absurd (by omega) h4
    · intro h3
      refine ⟨.inl h3, fun h4 => ?_⟩
      have : (u = a ∧ v = b) ∨ (u = b ∧ v = a) := by omega
      rcases this with ⟨rfl, rfl⟩ | ⟨rfl, rfl⟩
      · rw [hff] at h3; cases h3
      · rw [hff'] at h3; cases h3
  have hxy : tieB l x y = true := tieB_iff.2 (.inl (by rw [← hp]; exact List.getElem_mem hk))
  obtain ⟨D, hD, _⟩ := ht.tm
  have hin := ht.inn x y hxy
  refine ⟨htL, ?_, funext fun u => funext fun v => ?_⟩
  · rw [e2, rch_side hD hxy (lessT_tie ht hk hp) hin.1 hin.2.1]
    have d1 := hD.zero hin.1
    have d2 := hD.zero hin.2.1
    have d3 := hD.step hin.1 hxy
    omega
  · rw [tieB_snoc, e2, Bool.eq_iff_iff]
    simp only [Bool.or_eq_true, Bool.and_eq_true, beq_iff_eq, lessT_tie ht hk hp u v]
    constructor
    · rintro (h | h)
      · exact h.1
      · have : (u = x ∧ v = y) ∨ (u = y ∧ v = x) := by omega
        rcases this with ⟨rfl, rfl⟩ | ⟨rfl, rfl⟩
        · exact hxy
        · rw [tieB_symm]; exact hxy
    · intro h
      by_cases hc : (u = x ∧ v = y) ∨ (u = y ∧ v = x)
      · right; omega
      · exact .inl ⟨h, hc⟩
theorem swap_at {n a b : Nat} {l : List ZZ} (ht : Tre n l) (ha : a < n) (hb : b < n) (hab : a ≠ b) (htie : tieB l a b = true) : ∃ j, ∃ (hj : j < (tidyF (tieB l) n).length), (tidyF (tieB l) n)[j] = (((min a b : Nat) : Int), ((max a b : Nat) : Int)) := by
  have hm : (((min a b : Nat) : Int), ((max a b : Nat) : Int)) ∈ tidyF (tieB l) n := by
    have h9 := ht.nine
    refine mem_tidyF.2 ⟨min a b, max a b, rfl, by omega, by omega, by omega, ?_⟩
    rcases Nat.le_total a b with h | h
    · rw [Nat.min_eq_left h, Nat.max_eq_right h]; exact htie
    · rw [Nat.min_eq_right h, Nat.max_eq_left h, tieB_symm]; exact htie
  obtain ⟨j, hj, e⟩ := List.mem_iff_getElem.1 hm
  exact ⟨j, hj, e⟩
theorem l5 {p9 p15 p18 n x y a b j : Nat} {mn mx : Int} {q qL : AV} {l L : List ZZ} (hq : isP q l) (hqL : isP qL L) (ht : Tre n l) (htL : Tre n L) (hj : j < L.length) (hLj : L[j] = (mn, mx))
    (mm1 : (if b < a then ((b : Nat) : Int) else ((a : Nat) : Int)) = mn) (mm2 : (if a < b then ((b : Nat) : Int) else ((a : Nat) : Int)) = mx)
    (hno : ¬ Rch (tieB (lessT L j)) x y) (hx : x < n) (hy : y < n) (hxy : x ≠ y) (hback : tieB (lessT L j ++ [((x : Int), (y : Int))]) = tieB l)
    (h9 : H[p9]? = some (.row 0 [.int .i64 (n : Nat), q] 0 true)) (h15 : H[p15]? = some (.row 0 [.int .i64 (n : Nat), qL] 0 true)) (h18 : H[p18]? = some (.row 0 [.int .i64 (x : Nat), .int .i64 (y : Nat)] 0 true)) (hb : bar ≤ H.length) {R : PQ} 
    (h : ∀ H', R .ret [(8, .bool true)] H') : ∀ (k i : Nat), i + k = j → 
    Wp E base bar (.loop c5_l0) [(9, .ptr p9 0 0), (13, .int .i64 (a : Nat)), (14, .int .i64 (b : Nat)), (15, .ptr p15 0 0), (18, .ptr p18 0 0), (187, qL), (188, .int .i64 (L.length : Nat)), (189, .int .i64 (i : Nat))] H R := by
  intro k
  have hL9 := htL.len
  have hn9 := htL.nine
  have l9 := (List.getElem?_eq_some_iff.1 h9).1
  have l15 := (List.getElem?_eq_some_iff.1 h15).1
  have l18 := (List.getElem?_eq_some_iff.1 h18).1
  have g9 : ∀ G, (H ++ G)[p9]? = some (.row 0 [.int .i64 (n : Nat), q] 0 true) := fun G => by rw [List.getElem?_append_left l9, h9]
  have g15 : ∀ G, (H ++ G)[p15]? = some (.row 0 [.int .i64 (n : Nat), qL] 0 true) := fun G => by rw [List.getElem?_append_left l15, h15]
  have g18 : ∀ G, (H ++ G)[p18]? = some (.row 0 [.int .i64 (x : Nat), .int .i64 (y : Nat)] 0 true) := fun G => by rw [List.getElem?_append_left l18, h18]
  have htop := hqL.top
  induction k with
  | zero =>
    intro i hi
    obtain rfl : i = j := by omega
    have hix := fun (H : Heap) (K : AV → Heap → List Nat → Prop) => hqL.ix (H := H) (K := K) (k := .i64) hj
    rw [hLj] at hix
    rw [wp_round c5_l0.eq_1]
    simp [go_sem, hj, hix, zc, aload, Ab.part, storeWp, astore, AV.isTup, AV.cells, setCells, hb, aop, evs, Opd.ev, mm1, mm2, eqWp_flat2, g9, g15, g18]
    refine k30 (p := ((x : Int), (y : Int))) hqL htL (by simp; omega) (fun he => absurd ⟨by omega, by omega⟩ he) (fun _ he => absurd (mayS_ok.2 ⟨by simp, by simp, by simp only; omega, by simp only; omega, by simp only; omega⟩) he)
      (fun k a' b' e1 e2 e3 e4 e5 e6 e7 => ?_) fun k a' b' e1 e2 e3 e4 e5 e6 e7 u hu => ?_
    · injection e3 with f1 f2
      obtain rfl : x = a' := by omega
      obtain rfl : y = b' := by omega
      obtain rfl : i = k := by omega
      exact absurd e7 hno
    · injection e3 with f1 f2
      obtain rfl : x = a' := by omega
      obtain rfl : y = b' := by omega
      obtain rfl : i = k := by omega
      rw [hback] at hu
      obtain ⟨q', hq', rfl⟩ := hu
      simp [go_sem, hq'.isTup, hq'.cells, aload, Ab.part, storeWp, astore, AV.isTup, AV.cells, setCells, g9, show bar ≤ H.length + 1 by omega]
      refine k34 hq (by have := ht.len; omega) (by simp; omega) fun u S hu hS hsS => ?_
      obtain rfl := tidied_eq ht hS hsS
      simp [go_sem, aload]
      refine k33 hq' hu (by rw [tidyF_length ht]; have := ht.len; omega) ?_
      simp [go_sem, call8]
      exact ⟨.inl hq.noVec, h _⟩
  | succ k ih =>
    intro i hi
    have hlt : i < L.length := by omega
    have hix := fun (H : Heap) (K : AV → Heap → List Nat → Prop) => hqL.ix (H := H) (K := K) (k := .i64) hlt
    obtain ⟨⟨c, d⟩, hcd⟩ : ∃ x, L[i] = x := ⟨_, rfl⟩
    rw [hcd] at hix
    have hnext := ih (i + 1) (by omega)
    have hne : ¬ (c = mn ∧ d = mx) := fun e => by
      have := (List.pairwise_iff_getElem.1 htL.dis) i j hlt hj (by omega)
      rw [hcd, hLj, e.1, e.2] at this
      exact this (.inl ⟨rfl, rfl⟩)
    have hw := i64_suc (show i < 1000000 by omega)
    rw [wp_round c5_l0.eq_1]
    simp [go_sem, hlt, hix, zc, aload, Ab.part, storeWp, astore, AV.isTup, AV.cells, setCells, hb, aop, evs, Opd.ev, mm1, mm2, eqWp_flat2, hne, hw, htop]
    exact ⟨by omega, by simpa using hnext⟩
end Go.Proofs.YtoipleipokpnaaaGreat.Code
end
section
namespace Go.Proofs.YtoipleipokpnaaaGreat.Code
open Go Go.Ab

-- law 5: BranchSwapped
theorem cutL {q : AV} {l : List ZZ} (hq : isP q l) {i : Nat} (hi : i < l.length) : ∃ q', (∀ H, aslice H (.slc 2) q none (some (.int .i64 (i : Int))) none = some q') ∧ isP q' (l.take i) := by
  rcases hq with ⟨rfl, rfl⟩ | ⟨ex, rfl⟩
  · simp at hi
  · refine ⟨.lst 2 (ex && i == l.length) (prA (l.take i)), fun H => ?_, .inr ⟨_, rfl⟩⟩
    have hl : (prA l).length = l.length := by simp [prA]
    simp [aslice, optBound, bound1, AV.asNat, hl, Nat.le_of_lt hi]
    simp [prA, List.map_take]
theorem cutR {q : AV} {l : List ZZ} (hq : isP q l) {i : Nat} (hi : i < l.length) : ∃ q', (∀ H, aslice H (.slc 2) q (some (.int .i64 ((i + 1 : Nat) : Int))) none none = some q') ∧ isP q' (l.drop (i + 1)) := by
  rcases hq with ⟨rfl, rfl⟩ | ⟨ex, rfl⟩
  · simp at hi
  · refine ⟨.lst 2 ex (prA (l.drop (i + 1))), fun H => ?_, .inr ⟨_, rfl⟩⟩
    have hl : (prA l).length = l.length := by simp [prA]
    have ht : (prA l).take l.length = prA l := List.take_of_length_le (by omega)
    have h1 : i + 1 ≤ l.length := hi
    simp [aslice, optBound, bound1, AV.asNat, hl, ht, show (0 : Int) ≤ (i : Int) + 1 by omega, h1]
    simp [prA]
/-- law 5: BranchSwapped -/
theorem O1.flat {k j : Nat} {l : List ZZ} {v : AV} {H : Heap} (g : O1 k l v H) (hj : j < k) : v.noVec = true ∨ ¬ j ∈ if flatV H v = true then idsV [v] else List.range H.length := by
  rcases g with (⟨rfl, rfl⟩ | ⟨id, ver, h1, h2, rfl, h4⟩) | ⟨rfl, rfl⟩
  · exact .inl rfl
  · right
    have : flatV H (.vec id ver 0 l.length 2) = true := by simp [flatV, h4, prs_noVec]
    rw [if_pos this]
    simp [idsV]
    omega
  · exact .inl rfl
set_option maxHeartbeats 2000000 in
set_option maxRecDepth 20000 in
theorem swapped_true {f : Nat → Nat} {e a b : Nat} (hf : ∀ i, f i < 256) (he : e < 256) (ha : a < 256) (hb : b < 256) : ∃ f' H', acall E f' 5 [.agg (tw f), .int .u8 (e : Nat), .int .u8 (a : Nat), .int .u8 (b : Nat)] [] = some (.bool true, H') := by
  have key : WpCall E false 0 0 5 [.agg (tw f), .int .u8 (e : Nat), .int .u8 (a : Nat), .int .u8 (b : Nat)] [] (fun v _ => v = .bool true) := by
    rw [call5]
    have e0 : frzAll 0 [] [.agg (tw f), .int .u8 (e : Nat), .int .u8 (a : Nat), .int .u8 (b : Nat)] = some ([.agg (tw f), .int .u8 (e : Nat), .int .u8 (a : Nat), .int .u8 (b : Nat)], []) := by
      simp [frzAll, frz.frzs, frzsW, frz_agg, frz_int, plains (d := 5) tw_plain]
    rw [e0]
    obtain ⟨n, hN⟩ : ∃ N, N = f 0 % 9 + 1 := ⟨_, rfl⟩
    have hn : n ≤ 9 := by omega
    have h1 : 1 ≤ n := by omega
    have hT := tre_of (errT_tw (f := f) h1 hn)
    have hTl : (twT f n).length + 1 = n := by simp [twT]; omega
    have we : IntKind.i64.wrap ((e : Nat) : Int) = ((e : Nat) : Int) := Go.IntWalk.i64_in _ (by omega)
    have wa : IntKind.i64.wrap ((a : Nat) : Int) = ((a : Nat) : Int) := Go.IntWalk.i64_in _ (by omega)
    have wb : IntKind.i64.wrap ((b : Nat) : Int) = ((b : Nat) : Int) := Go.IntWalk.i64_in _ (by omega)
    simp [go_sem, WpFun, c5, aload, AV.isTup, AV.cells, tw_len, List.take_of_length_le]
    refine k29 (m := 9) hf (by omega) (by omega) hN (by simp) fun u hu => ?_
    generalize twT f n = l at *
    obtain ⟨q, hq, rfl⟩ := hu
    have qlen := fun (H : Heap) (K : AV → Heap → List Nat → Prop) => hq.len (H := H) (K := K)
    simp [go_sem, AV.isTup, AV.cells, hq.isTup, hq.cells, storeWp, astore, aload]
    by_cases hn2 : n < 2
    · have hl0 : l.length = 0 := by omega
      simp [go_sem, show (n : Int) < 2 by omega, aload, Ab.part]
      refine k30 (p := ((0 : Int), (0 : Int))) hq hT (by simp) (fun _ => ?_) (fun hi => absurd hi (by omega)) (fun k a b e1 e2 => absurd e2 (by omega)) (fun k a b e1 e2 => absurd e2 (by omega))
      simp [go_sem, aload, Ab.part, AV.isTup, AV.cells, storeWp, astore, call8]
    · have hl0 : ¬ l.length = 0 := by omega
      have hn0 : ¬ n = 0 := by omega
      have r1 := rem_n (x := e) hl0
      have r2 := rem_n (x := a) hn0
      have r3 := rem_n (x := b) hn0
      have hei : e % l.length < l.length := Nat.mod_lt _ (by omega)
      have hai : a % n < n := Nat.mod_lt _ (by omega)
      have hbi : b % n < n := Nat.mod_lt _ (by omega)
      generalize e % l.length = i at *
      generalize a % n = a' at *
      generalize b % n = b' at *
      have r1' := fun (H : Heap) (K : AV → Heap → List Nat → Prop) => show valWp (abin .rem (.int .i64 (e : Int)) (.int .i64 (l.length : Int))) H K = K (.int .i64 (i : Nat)) H [] by rw [r1]; rfl
      simp [go_sem, show ¬ (n : Int) < 2 by omega, aload, Ab.part, we, wa, wb, qlen, r1, r2, r3]
      have hir : (0 ≤ (i : Int) ∧ (i : Int) ≤ (l.length : Int) - 1) := ⟨by omega, by omega⟩
      by_cases hab : a' = b'
      · subst hab
        have hm : mayS n ((a' : Int), (a' : Int)) = 13 := by
          unfold mayS
          rw [if_neg (by simp only; omega), if_pos rfl]
        refine k30 (p := ((a' : Int), (a' : Int))) hq hT (by simp) (fun he => absurd hir he) (fun _ _ => ?_) (fun k a b e1 e2 e3 e4 e5 e6 => ?_) (fun k a b e1 e2 e3 e4 e5 e6 => ?_)
        · rw [hm]
          simp [go_sem, aload, Ab.part, AV.isTup, AV.cells, storeWp, astore, call8, setCells]
        · injection e3 with f1 f2; omega
        · injection e3 with f1 f2; omega
      · obtain ⟨⟨x, y⟩, hxy⟩ : ∃ x, l[i] = x := ⟨_, rfl⟩
        have hokl := hT.ok _ (List.getElem_mem hei)
        rw [hxy] at hokl
        obtain ⟨g1, g2, g3, g4, g5⟩ := hokl
        simp only at g1 g2 g3 g4 g5
        obtain ⟨x, rfl⟩ := Int.eq_ofNat_of_zero_le g1
        obtain ⟨y, rfl⟩ := Int.eq_ofNat_of_zero_le g2
        have hx : x < n := by omega
        have hy : y < n := by omega
        have hix := fun (H : Heap) (K : AV → Heap → List Nat → Prop) => hq.ix (H := H) (K := K) (k := .i64) hei
        rw [hxy] at hix
        have htie : tieB l x y = true := tieB_iff.2 (.inl (by rw [← hxy]; exact List.getElem_mem hei))
        obtain ⟨D, hD, hDn⟩ := hT.tm
        have hside := rch_side hD htie (lessT_tie hT hei hxy) hai hbi
        have hok0 : mayS n ((a' : Int), (b' : Int)) = 0 := mayS_ok.2 ⟨by simp, by simp, by simp only; omega, by simp only; omega, by simp only; omega⟩
        have hlk : ∀ (sq : AV), isSq sq n D → ∀ (H : Heap) (K : AV → Heap → List Nat → Prop) (u : Nat), u < n → ixaSWp 1 (some sq) (some (.int .i64 (u : Nat))) H K = K (.fp (.lst 1 false (dc n (cRow D u)))) H [] := fun sq h H K u hu => h.ix hu
        have hdd : ∀ (H : Heap) (K : AV → Heap → List Nat → Prop) (u v : Nat), v < n → ixaSWp 1 (some (.lst 1 false (dc n (cRow D u)))) (some (.int .i64 (v : Nat))) H K = K (.fp (.int .i64 ((D u v : Nat) : Int))) H [] := fun H K u v hv => by
          rw [ixaSWp_lst]; simp [hv, valWp_some, dc_get, cRow]
        have add1 : ∀ u v, u < n → v < n → IntKind.i64.wrap (((D u v : Nat) : Int) + 1) = ((D u v + 1 : Nat) : Int) := fun u v hu hv => by
          have := hDn u v hu hv
          rw [Go.IntWalk.i64_in _ (by omega)]; omega
        have add2 : ∀ u v u' v', u < n → v < n → u' < n → v' < n → IntKind.i64.wrap (((D u v : Nat) : Int) + 1 + ((D u' v' : Nat) : Int)) = ((D u v + 1 + D u' v' : Nat) : Int) := fun u v u' v' hu hv hu' hv' => by
          have := hDn u v hu hv
          have := hDn u' v' hu' hv'
          rw [Go.IntWalk.i64_in _ (by omega)]; omega
        have hfar := fun u v (hu : u < n) (hv : v < n) => farF_tm hD hT.ok (fun x y hx hy => by have := hDn x y hx hy; omega) hu hv
        have w1 : IntKind.i64.wrap (((D a' x : Nat) : Int) + 1 + ((D y b' : Nat) : Int)) = ((D a' x : Nat) : Int) + 1 + ((D y b' : Nat) : Int) := by
          have := hDn a' x hai hx
          have := hDn y b' hy hbi
          rw [Go.IntWalk.i64_in _ (by omega)]
        have w2 : IntKind.i64.wrap (((D a' y : Nat) : Int) + 1 + ((D x b' : Nat) : Int)) = ((D a' y : Nat) : Int) + 1 + ((D x b' : Nat) : Int) := by
          have := hDn a' y hai hy
          have := hDn x b' hx hbi
          rw [Go.IntWalk.i64_in _ (by omega)]
        have habz : ¬ ((a' : Nat) : Int) = ((b' : Nat) : Int) := by omega
        by_cases hr : Rch (tieB (lessT l i)) a' b'
        · have hs := hside.1 hr
          refine k30 (p := ((a' : Int), (b' : Int))) hq hT (by simp) (fun he => absurd hir he) (fun _ he => absurd hok0 he) (fun k a b e1 e2 e3 e4 e5 e6 e7 => ?_) (fun k a b e1 e2 e3 e4 e5 e6 e7 => ?_)
          · simp [go_sem, aload, Ab.part, AV.isTup, AV.cells, storeWp, astore, call8, setCells, habz]
            refine k31 hq (by omega) hn h1 hT.ok (Nat.zero_le _) fun sq hsq => ?_
            have hsq := hsq.congr fun u v hu hv => hfar u v hu hv
            have hlk' := hlk sq hsq
            have c1 : ¬ (((D a' x : Nat) : Int) + 1 + ((D y b' : Nat) : Int) = ((D a' b' : Nat) : Int)) := fun e => hs (.inl (by omega))
            have c2 : ¬ (((D a' y : Nat) : Int) + 1 + ((D x b' : Nat) : Int) = ((D a' b' : Nat) : Int)) := fun e => hs (.inr (by omega))
            simp [go_sem, aload, Ab.part, AV.isTup, AV.cells, storeWp, astore, call8, setCells, hix, zc, hlk', hdd, hai, hbi, hx, hy, add1, w1, w2, c1, c2]
          · injection e3 with f1 f2
            obtain rfl : a' = a := by omega
            obtain rfl : b' = b := by omega
            obtain rfl : i = k := by omega
            exact absurd hr e7
        · have hs : D a' x + 1 + D y b' = D a' b' ∨ D a' y + 1 + D x b' = D a' b' := Classical.byContradiction fun h => hr (hside.2 h)
          refine k30 (p := ((a' : Int), (b' : Int))) hq hT (by simp) (fun he => absurd hir he) (fun _ he => absurd hok0 he) (fun k a b e1 e2 e3 e4 e5 e6 e7 => ?_) (fun k a b e1 e2 e3 e4 e5 e6 e7 u hu => ?_)
          · injection e3 with f1 f2
            obtain rfl : a' = a := by omega
            obtain rfl : b' = b := by omega
            obtain rfl : i = k := by omega
            exact absurd e7 hr
          · injection e3 with f1 f2
            obtain rfl : a' = a := by omega
            obtain rfl : b' = b := by omega
            obtain rfl : i = k := by omega
            obtain ⟨qL, hqL, rfl⟩ := hu
            simp [go_sem, aload, Ab.part, AV.isTup, AV.cells, storeWp, astore, call8, setCells, habz]
            refine k31 hq (by omega) hn h1 hT.ok (Nat.zero_le _) fun sq hsq => ?_
            have hsq := hsq.congr fun u v hu hv => hfar u v hu hv
            have hlk' := hlk sq hsq
            have c : ¬ (((D a' x : Nat) : Int) + 1 + ((D y b' : Nat) : Int) = ((D a' b' : Nat) : Int)) → ((D a' y : Nat) : Int) + 1 + ((D x b' : Nat) : Int) = ((D a' b' : Nat) : Int) := fun h => by omega
            have wi : IntKind.i64.wrap (((i : Nat) : Int) + 1) = ((i + 1 : Nat) : Int) := i64_suc (show i < 1000000 by omega)
            obtain ⟨qa, ca, hqa⟩ := cutL hq hei
            obtain ⟨qb, cb, hqb⟩ := cutR hq hei
            simp only [Int.natCast_add, Int.cast_ofNat_Int] at cb wi
            have wD : IntKind.i64.wrap ((D a' b' : Nat) : Int) = ((D a' b' : Nat) : Int) := by
              have := hDn a' b' hai hbi
              exact Go.IntWalk.i64_in _ (by omega)
            by_cases hP : ((D a' x : Nat) : Int) + 1 + ((D y b' : Nat) : Int) = ((D a' b' : Nat) : Int)
            case' neg => have hP2 := c hP
            case' pos => have hP2 := hP
            all_goals
              simp [go_sem, aload, Ab.part, AV.isTup, AV.cells, storeWp, astore, call8, setCells, hix, zc, hlk', hdd, hai, hbi, hx, hy, add1, w1, w2, wD, hP, hP2]
              simp [go_sem, aop, Opd.ev, Opd.evo, ca]
              refine k32 hqa (by rw [List.length_take]; omega) fun v20 G1 hO1 => ?_
              have hqan := hqa.noVec
              have hrs : readSl (some q) = some none := by rcases hq with ⟨rfl, _⟩ | ⟨ex, rfl⟩ <;> rfl
              have hqbn := hqb.noVec
              simp [go_sem, aload, aop, Opd.ev, Opd.evo, wi, cb, hqan, hrs]
              refine O1.app (k := 4) hO1 hqb (by simp) (by omega) (by omega) (by rw [List.length_take, List.length_drop]; omega) fun v20 H2 tc hO2 hH2 hlow2 htc => ?_
              have z1 : H2[1]? = some (.row 0 [.int .i64 (n : Nat), q] 0 true) := by rw [hlow2 1 (by omega)]; rfl
              have z2 : H2[2]? = some (.row 0 [.int .i64 (n : Nat), qL] 0 true) := by rw [hlow2 2 (by omega)]; rfl
              have z3 : H2[3]? = some (.row 0 [.int .i64 (x : Nat), .int .i64 (y : Nat)] 0 true) := by rw [hlow2 3 (by omega)]; rfl
              have hlL : (l.take i ++ l.drop (i + 1)).length + 1 = l.length := by rw [List.length_append, List.length_take, List.length_drop]; omega
              have hst := swap_tree hT hei hxy hai hbi hab hr
              have hH24 : 4 ≤ H2.length := by simp at hH2; omega
              simp [go_sem, aload, z1, z2, aop, fillA, chunks, evs, Opd.ev]
              refine O1.app (k := 4) (r := [((a' : Int), (b' : Int))]) hO2 (.inr ⟨_, rfl⟩) hH24 (by omega) (by omega) (by rw [List.length_singleton]; omega) fun v34 H3 tc3 hO3 hH3 hlow3 htc3 => ?_
              simp [go_sem, aload, z1, z2]
              refine k34v hO3 (by omega) (by omega) (by rw [List.length_append, List.length_singleton]; omega) fun u S H4 hu hS hsS hH4 hlow4 => ?_
              obtain rfl := tidied_eq hst hS hsS
              simp [go_sem]
              refine k33 hqL hu (by rw [tidyF_length hst]; have := hst.len; omega) ?_
              simp [go_sem]
              refine ⟨⟨fun hc => by have := htc3 _ hc; omega, hO3.flat (by omega)⟩, ?_⟩
              have y1 : H4[1]? = some (.row 0 [.int .i64 (n : Nat), q] 0 true) := by rw [hlow4 1 (by omega), hlow3 1 (by omega), z1]
              have y2 : H4[2]? = some (.row 0 [.int .i64 (n : Nat), qL] 0 true) := by rw [hlow4 2 (by omega), hlow3 2 (by omega), z2]
              have y3 : H4[3]? = some (.row 0 [.int .i64 (x : Nat), .int .i64 (y : Nat)] 0 true) := by rw [hlow4 3 (by omega), hlow3 3 (by omega), z3]
              have hLlen := fun (H : Heap) (K : AV → Heap → List Nat → Prop) => hqL.len (H := H) (K := K)
              obtain ⟨j, hj, hLj⟩ := swap_at hst hai hbi hab (by rw [tieB_snoc]; simp)
              obtain ⟨m1, m2, m3⟩ := swap_back hT hei hxy hai hbi hab hr rfl hj hLj
              simp [go_sem, aload, y2, hLlen]
              refine l5 (p9 := 1) (p15 := 2) (p18 := 3) hq hqL hT m1 hj hLj (by split <;> omega) (by split <;> omega) m2 hx hy (by omega) m3 y1 y2 y3 (by omega) (fun H' => ?_) j 0 (by omega)
              simp [go_sem]
  obtain ⟨f, v, H', h1, rfl⟩ := key
  exact ⟨f, H', h1⟩
end Go.Proofs.YtoipleipokpnaaaGreat.Code
end
