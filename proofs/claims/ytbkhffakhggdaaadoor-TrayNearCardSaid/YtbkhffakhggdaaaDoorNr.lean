/-
  Parts of the proofs about this chapter, joined: contracts of functions and plain laws.
-/
import Derived.Test.YtbkhffakhggdaaaDoorNra
import Derived.KernelRfl
import Derived.Sort.AssemblyPlain
set_option linter.all false
section
namespace Go.Proofs.YtbkhffakhggdaaaDoor.Code
open Go Go.Ab Go.Sort
variable {p : Bool} {base bar : Nat} {H : Heap} {Q : AV → Heap → Prop} {K : AV → Heap → List Nat → Prop}
variable {α : Type} [Inhabited α] {val : α → AV} {lt : α → α → Bool} {cv : FuncId} {id ver n : Nat} {ex : Bool}
/-! sorting in place: what is sorted, by which order -/
structure SO (val : α → AV) (lt : α → α → Bool) (cv : FuncId) : Prop where
  tup : ∀ x, (val x).isTup = false
  cells : ∀ x, (val x).cells = [val x]
  top : ∀ x, (val x).top = 0
  noVec : ∀ x, (val x).noVec = true
  call : ∀ x y (p : Bool) base bar H Q, (∀ c : Int, decide (c < 0) = lt x y → Q (.int .i64 c) H) → WpCall E p base bar cv [val x, val y] H Q
def acells (val : α → AV) (d : Array α) : List AV := d.toList.map val
/-- the heap, with the elements in their block -/
def putA (val : α → AV) (id ver : Nat) (ex : Bool) (H : Heap) (d : Array α) : Heap := H.set id (.row ver (acells val d) 0 ex)
theorem putA_len {d : Array α} : (putA val id ver ex H d).length = H.length := by simp [putA]
theorem putA_get {d : Array α} (h : id < H.length) : (putA val id ver ex H d)[id]? = some (.row ver (acells val d) 0 ex) := by simp [putA, h]
theorem putA_ne {d : Array α} {j : Nat} (h : id ≠ j) : (putA val id ver ex H d)[j]? = H[j]? := by simp [putA, h]
theorem putA_app {d : Array α} {l : Heap} (h : id < H.length) : putA val id ver ex H d ++ l = putA val id ver ex (H ++ l) d := by simp [putA, h]
theorem putA_take {d : Array α} {l : Heap} (h : id < H.length) : (putA val id ver ex (H ++ l) d).take H.length = putA val id ver ex H d := by
  rw [← putA_app h]; rw [List.take_append_of_le_length (by rw [putA_len]; exact Nat.le_refl _), List.take_of_length_le (by rw [putA_len]; exact Nat.le_refl _)]
theorem putA_self {d : Array α} : (putA val id ver ex H d).take H.length = putA val id ver ex H d := List.take_of_length_le (by rw [putA_len]; exact Nat.le_refl _)
theorem acells_get {d : Array α} {i : Nat} (h : i < d.size) : (acells val d)[i]? = some (val d[i]!) := by
  simp [acells, h]
theorem ldA {d : Array α} {i s : Nat} (hid : id < H.length) (h : i < d.size) : aload (putA val id ver ex H d) ⟨false, s⟩ (.ptr id ver i) = some (val d[i]!) := by
  rw [aload_ptr (putA_get hid), part_one, acells_get h]
theorem stA {d : Array α} {i : Nat} {x : α} (so : SO val lt cv) (hid : id < H.length) (h : i < d.size) (hb : bar ≤ id) :
    storeWp base bar 1 (.ptr id ver i) (val x) (putA val id ver ex H d) K = K (.tup []) (putA val id ver ex H (d.setIfInBounds i x)) [id] := by
  rw [storeWp_ptr (putA_get hid) (so.tup x) (by rw [so.cells]; rfl) (by omega) (by simp [acells]; omega) hb (.inr (by simp [so.cells, tops_cons, tops_nil, so.top]))]
  congr 1
  simp [putA, so.cells, setCells, acells, List.map_set]
/-- both stores of an exchange -/
theorem stS {d : Array α} {i j : Nat} (so : SO val lt cv) (hid : id < H.length) (hi : i < d.size) (hj : j < d.size) (hb : bar ≤ id) :
    (∀ base K, storeWp base bar 1 (.ptr id ver i) (val d[j]!) (putA val id ver ex H d) K = K (.tup []) (putA val id ver ex H (d.setIfInBounds i d[j]!)) [id]) ∧
    (∀ base K, storeWp base bar 1 (.ptr id ver j) (val d[i]!) (putA val id ver ex H (d.setIfInBounds i d[j]!)) K = K (.tup []) (putA val id ver ex H (swp d i j)) [id]) :=
  ⟨fun _ _ => stA so hid hi hb, fun _ _ => stA so hid (by simpa using hj) hb⟩
theorem swp_size {d : Array α} {i j : Nat} : (swp d i j).size = d.size := by simp [swp]
theorem w64 {x : Int} (h : -4611686018427387904 ≤ x ∧ x < 4611686018427387904) : IntKind.i64.wrap x = x := Go.IntWalk.i64_in _ (by omega)
theorem quoN {x y : Nat} (hy : 0 < y) (hx : x < 4611686018427387904) : abin .quo (.int .i64 (x : Int)) (.int .i64 (y : Int)) = some (.int .i64 ((x / y : Nat) : Int)) := by
  have hle : x / y ≤ x := Nat.div_le_self _ _
  rw [abin_quo (by omega), show (x : Int).tdiv (y : Int) = ((x / y : Nat) : Int) from rfl]
  generalize x / y = q at *
  rw [w64 (by omega)]
end Go.Proofs.YtbkhffakhggdaaaDoor.Code
end
section
namespace Go.Proofs.YtbkhffakhggdaaaDoor.Code
open Go Go.Ab Go.Sort
variable {p : Bool} {base bar : Nat} {H : Heap} {Q : AV → Heap → Prop} {K : AV → Heap → List Nat → Prop}
variable {α : Type} [Inhabited α] {val : α → AV} {lt : α → α → Bool} {cv : FuncId} {id ver n : Nat} {ex : Bool}
theorem ltT {c : Int} {b : Bool} (h : decide (c < 0) = b) (hb : b = true) : c < 0 := by subst hb; exact of_decide_eq_true h
theorem ltF {c : Int} {b : Bool} (h : decide (c < 0) = b) (hb : b = false) : ¬ c < 0 := by subst hb; exact of_decide_eq_false h
/-! 127: insertion -/
theorem l127_0 (so : SO val lt cv) (hid : id < H.length) (hb : bar ≤ id) (hn : n < 1000000) {a : Nat} {vb vi : AV} {R : PQ} : ∀ (j : Nat) (d : Array α), d.size = n → j < n →
    (∀ (j' : Int), R (.exit 2) [(0, .vec id ver 0 n 1), (1, .int .i64 (a : Int)), (2, vb), (3, .fn cv [] []), (8, vi), (9, .int .i64 j'), (34, .bool false)] (putA val id ver ex H (insInner lt a j d))) →
    Wp E base bar (.loop c127_l0) [(0, .vec id ver 0 n 1), (1, .int .i64 (a : Int)), (2, vb), (3, .fn cv [] []), (8, vi), (9, .int .i64 (j : Int))] (putA val id ver ex H d) R := by
  intro j
  induction j with
  | zero =>
    intro d hd hj h
    rw [wp_round c127_l0.eq_1]
    simp [go_sem]
    exact h 0
  | succ j ih =>
    intro d hd hj h
    unfold insInner at h
    have e0 := w64 (x := (j : Int)) (by omega)
    have ld1 := ldA (val := val) (ver := ver) (ex := ex) (s := 1) (d := d) (i := j + 1) hid (by omega)
    have ld0 := ldA (val := val) (ver := ver) (ex := ex) (s := 1) (d := d) (i := j) hid (by omega)
    obtain ⟨st1, st2⟩ := stS (ver := ver) (ex := ex) (d := d) (i := j + 1) (j := j) so hid (by omega) (by omega) hb
    have hj0 : j < n := by omega
    by_cases ha : a < j + 1
    · have ha1 : (a : Int) < (j : Int) + 1 := by omega
      have hj1 : (0 : Int) ≤ (j : Int) + 1 := by omega
      rw [wp_round c127_l0.eq_1]
      simp [go_sem, ha1, hj1, e0, hj, hj0, ld1, ld0]
      refine so.call _ _ _ _ _ _ _ fun c hc => ?_
      cases hl : lt d[j + 1]! d[j]!
      · have hc1 := ltF hc hl
        rw [if_neg (by simp [hl])] at h
        simp [go_sem, hc1]
        exact h _
      · have hc1 := ltT hc hl
        rw [if_pos (by simp [hl, ha])] at h
        have next := ih (swp d (j + 1) j) (by rw [swp_size]; exact hd) hj0 h
        simp [go_sem, hc1, hj1, e0, hj, hj0, ld1, ld0, st1, st2]
        exact next
    · have ha1 : ¬ (a : Int) < (j : Int) + 1 := by omega
      rw [if_neg (by simp [ha])] at h
      rw [wp_round c127_l0.eq_1]
      simp [go_sem, ha1]
      exact h _
theorem insInner_size {a : Nat} : ∀ {j : Nat} {d : Array α}, (insInner lt a j d).size = d.size
  | 0, d => rfl
  | j + 1, d => by
    unfold insInner
    split
    · rw [insInner_size, swp_size]
    · rfl
theorem l127_1 (so : SO val lt cv) (hid : id < H.length) (hb : bar ≤ id) (hn : n < 1000000) {a b : Nat} (hbn : b ≤ n) {R : PQ} : ∀ (k i : Nat) (d : Array α), d.size = n → b ≤ i + k → i ≤ 1000000 →
    (∀ fr, R (.exit 0) fr (putA val id ver ex H (insOuter lt a b i d))) →
    Wp E base bar (.loop c127_l1) [(0, .vec id ver 0 n 1), (1, .int .i64 (a : Int)), (2, .int .i64 (b : Int)), (3, .fn cv [] []), (8, .int .i64 (i : Int))] (putA val id ver ex H d) R := by
  intro k
  have stop : ∀ (i : Nat) (d : Array α), b ≤ i → (∀ fr, R (.exit 0) fr (putA val id ver ex H (insOuter lt a b i d))) → Wp E base bar (.loop c127_l1) [(0, .vec id ver 0 n 1), (1, .int .i64 (a : Int)), (2, .int .i64 (b : Int)), (3, .fn cv [] []), (8, .int .i64 (i : Int))] (putA val id ver ex H d) R := by
    intro i d hi h
    have hlt : ¬ (i : Int) < (b : Int) := by omega
    unfold insOuter at h
    rw [if_neg (by omega)] at h
    rw [wp_round c127_l1.eq_1]
    simp [go_sem, hlt]
    exact h _
  induction k with
  | zero =>
    intro i d hd hi _ h
    exact stop i d hi h
  | succ k ih =>
    intro i d hd hi hi2 h
    by_cases hib : i < b
    · have hlt : (i : Int) < (b : Int) := by omega
      unfold insOuter at h
      rw [if_pos (by omega)] at h
      have e0 := i64_suc (show i < 1000000 by omega)
      rw [wp_round c127_l1.eq_1]
      simp [go_sem, hlt]
      refine l127_0 so hid hb hn i d hd (by omega) fun j' => ?_
      simp [go_sem, e0]
      exact ih (i + 1) _ (by rw [insInner_size]; exact hd) (by omega) (by omega) h
    · exact stop i d (by omega) h
theorem k127 (so : SO val lt cv) (hid : id < H.length) (hb : bar ≤ id) (hn : n < 1000000) {a b : Nat} (hbn : b ≤ n) {d : Array α} (hd : d.size = n) (han : a ≤ n)
    (h : Q (.tup []) (putA val id ver ex H (insertionSort lt d a b))) : WpCall E false base bar 127 [.vec id ver 0 n 1, .int .i64 (a : Int), .int .i64 (b : Int), .fn cv [] []] (putA val id ver ex H d) Q := by
  have e0 := i64_suc (show a < 1000000 by omega)
  rw [call127]
  simp [go_sem, WpFun, c127, e0]
  unfold insertionSort at h
  refine l127_1 so hid hb hn hbn b (a + 1) d hd (by omega) (by omega) fun fr => ?_
  simp [go_sem, putA_len, putA_self]
  exact h
/-! 140, 128: the heap -/
theorem l140_0 (so : SO val lt cv) (hid : id < H.length) (hb : bar ≤ id) (hn : n < 1000000) {hi first : Nat} (hf : first + hi ≤ n) {R : PQ} : ∀ (k root : Nat) (d : Array α), d.size = n → hi ≤ root + k → root < 1000000 →
    (∀ e fr, e = .exit 0 ∨ e = .ret → R e fr (putA val id ver ex H (siftDown lt hi first root d))) →
    Wp E base bar (.loop c140_l0) [(0, .vec id ver 0 n 1), (2, .int .i64 (hi : Int)), (3, .int .i64 (first : Int)), (4, .fn cv [] []), (10, .int .i64 (root : Int))] (putA val id ver ex H d) R := by
  intro k
  have stop : ∀ (root : Nat) (d : Array α), hi ≤ 2 * root + 1 → root < 1000000 → (∀ e fr, e = .exit 0 ∨ e = .ret → R e fr (putA val id ver ex H (siftDown lt hi first root d))) →
      Wp E base bar (.loop c140_l0) [(0, .vec id ver 0 n 1), (2, .int .i64 (hi : Int)), (3, .int .i64 (first : Int)), (4, .fn cv [] []), (10, .int .i64 (root : Int))] (putA val id ver ex H d) R := by
    intro root d hr hr2 h
    have e1 := w64 (x := 2 * (root : Int)) (by omega)
    have e2 := w64 (x := 2 * (root : Int) + 1) (by omega)
    have hlt : (hi : Int) ≤ 2 * (root : Int) + 1 := by omega
    unfold siftDown at h
    rw [dif_pos (by omega)] at h
    rw [wp_round c140_l0.eq_1]
    simp [go_sem, e1, e2, hlt]
    exact h _ _ (.inl rfl)
  induction k with
  | zero =>
    intro root d hd hr hr2 h
    exact stop root d (by omega) hr2 h
  | succ k ih =>
    intro root d hd hr hr2 h
    by_cases hs : hi ≤ 2 * root + 1
    · exact stop root d hs hr2 h
    have h' := h
    unfold siftDown at h'
    rw [dif_neg (by omega)] at h'
    obtain ⟨ch, hch⟩ : ∃ ch, ch = 2 * root + 1 := ⟨_, rfl⟩
    obtain ⟨c2, hc2⟩ : ∃ c2, c2 = ch + 1 := ⟨_, rfl⟩
    obtain ⟨x0, hx0⟩ : ∃ x, x = first + root := ⟨_, rfl⟩
    obtain ⟨x1, hx1⟩ : ∃ x, x = first + ch := ⟨_, rfl⟩
    obtain ⟨x2, hx2⟩ : ∃ x, x = first + c2 := ⟨_, rfl⟩
    have g1 : first + (2 * root + 1) = x1 := by omega
    have g2 : first + (2 * root + 1) + 1 = x2 := by omega
    have g3 : 2 * root + 1 + 1 = c2 := by omega
    have g4 : 2 * root + 2 = c2 := by omega
    have g5 : first + c2 = x2 := by omega
    simp only [g2] at h'
    simp only [g1, g3, g4, g5, ← hx0] at h'
    rw [← hch] at h'
    have e1 := w64 (x := 2 * (root : Int)) (by omega)
    have e2 : IntKind.i64.wrap (2 * (root : Int) + 1) = (ch : Int) := by rw [w64 (by omega)]; omega
    have e3 : IntKind.i64.wrap ((ch : Int) + 1) = (c2 : Int) := by rw [w64 (by omega)]; omega
    have e4 : IntKind.i64.wrap ((first : Int) + (root : Int)) = (x0 : Int) := by rw [w64 (by omega)]; omega
    have e5 : IntKind.i64.wrap ((first : Int) + (ch : Int)) = (x1 : Int) := by rw [w64 (by omega)]; omega
    have e6 : IntKind.i64.wrap ((x1 : Int) + 1) = (x2 : Int) := by rw [w64 (by omega)]; omega
    have e7 : IntKind.i64.wrap ((first : Int) + (c2 : Int)) = (x2 : Int) := by rw [w64 (by omega)]; omega
    have h1 : ¬ (hi : Int) ≤ (ch : Int) := by omega
    have b0 : x0 < n := by omega
    have b1 : x1 < n := by omega
    have ld0 := ldA (val := val) (ver := ver) (ex := ex) (s := 1) (d := d) (i := x0) hid (by omega)
    have ld1 := ldA (val := val) (ver := ver) (ex := ex) (s := 1) (d := d) (i := x1) hid (by omega)
    obtain ⟨st1, st2⟩ := stS (ver := ver) (ex := ex) (d := d) (i := x0) (j := x1) so hid (by omega) (by omega) hb
    have one : (∀ e fr, e = .exit 0 ∨ e = .ret → R e fr (putA val id ver ex H (if (!lt d[x0]! d[x1]!) = true then d else siftDown lt hi first ch (swp d x0 x1)))) →
        lt d[x0]! d[x1]! = false → ∀ e fr, e = .exit 0 ∨ e = .ret → R e fr (putA val id ver ex H d) := fun h hl => by
      rw [hl] at h; exact h
    rw [wp_round c140_l0.eq_1]
    by_cases hA : c2 < hi
    · have hA1 : (c2 : Int) < (hi : Int) := by omega
      have b2 : x2 < n := by omega
      have ld2 := ldA (val := val) (ver := ver) (ex := ex) (s := 1) (d := d) (i := x2) hid (by omega)
      obtain ⟨st3, st4⟩ := stS (ver := ver) (ex := ex) (d := d) (i := x0) (j := x2) so hid (by omega) (by omega) hb
      simp [go_sem, e1, e2, h1, e3, hA1, e5, e6, b1, b2, ld1, ld2]
      refine so.call _ _ _ _ _ _ _ fun c hc => ?_
      cases hl : lt d[x1]! d[x2]!
      · have hc1 := ltF hc hl
        rw [if_neg (by simp [hl])] at h'
        simp [go_sem, hc1, e3, e4, e5, b0, b1, ld0, ld1]
        refine so.call _ _ _ _ _ _ _ fun c' hc' => ?_
        cases hl' : lt d[x0]! d[x1]!
        · have hc2 := ltF hc' hl'
          rw [if_pos (by simp [hl'])] at h'
          simp [go_sem, hc2]
          exact h' _ _ (.inr rfl)
        · have hc2 := ltT hc' hl'
          rw [if_neg (by simp [hl'])] at h'
          have next := ih ch (swp d x0 x1) (by rw [swp_size]; exact hd) (by omega) (by omega) h'
          simp [go_sem, hc2, e4, e5, b0, b1, ld0, ld1, st1, st2]
          exact next
      · have hc1 := ltT hc hl
        rw [if_pos (by simp [hl, hA]), dif_pos hA] at h'
        simp [go_sem, hc1, e3, e4, e7, b0, b2, ld0, ld2]
        refine so.call _ _ _ _ _ _ _ fun c' hc' => ?_
        cases hl' : lt d[x0]! d[x2]!
        · have hc2 := ltF hc' hl'
          rw [if_pos (by simp [hl'])] at h'
          simp [go_sem, hc2]
          exact h' _ _ (.inr rfl)
        · have hc2 := ltT hc' hl'
          rw [if_neg (by simp [hl'])] at h'
          have next := ih c2 (swp d x0 x2) (by rw [swp_size]; exact hd) (by omega) (by omega) h'
          simp [go_sem, hc2, e4, e7, b0, b2, ld0, ld2, st3, st4]
          exact next
    · have hA1 : ¬ (c2 : Int) < (hi : Int) := by omega
      rw [if_neg (by simp [hA])] at h'
      simp [go_sem, e1, e2, h1, e3, hA1, e4, e5, b0, b1, ld0, ld1]
      refine so.call _ _ _ _ _ _ _ fun c' hc' => ?_
      cases hl' : lt d[x0]! d[x1]!
      · have hc2 := ltF hc' hl'
        rw [if_pos (by simp [hl'])] at h'
        simp [go_sem, hc2]
        exact h' _ _ (.inr rfl)
      · have hc2 := ltT hc' hl'
        rw [if_neg (by simp [hl'])] at h'
        have next := ih ch (swp d x0 x1) (by rw [swp_size]; exact hd) (by omega) (by omega) h'
        simp [go_sem, hc2, e4, e5, b0, b1, ld0, ld1, st1, st2]
        exact next
theorem k140 (so : SO val lt cv) (hid : id < H.length) (hb : bar ≤ id) (hn : n < 1000000) {root hi first : Nat} (hf : first + hi ≤ n) (hr : root < 1000000) {d : Array α} (hd : d.size = n)
    (h : Q (.tup []) (putA val id ver ex H (siftDown lt hi first root d))) : WpCall E false base bar 140 [.vec id ver 0 n 1, .int .i64 (root : Int), .int .i64 (hi : Int), .int .i64 (first : Int), .fn cv [] []] (putA val id ver ex H d) Q := by
  rw [call140]
  simp [go_sem, WpFun, c140]
  refine l140_0 so hid hb hn hf hi root d hd (by omega) hr fun e fr he => ?_
  rcases he with rfl | rfl <;> simp [go_sem, putA_len, putA_self] <;> exact h
end Go.Proofs.YtbkhffakhggdaaaDoor.Code
end
section
namespace Go.Proofs.YtbkhffakhggdaaaDoor.Code
open Go Go.Ab Go.Sort
variable {p : Bool} {base bar : Nat} {H : Heap} {Q : AV → Heap → Prop} {K : AV → Heap → List Nat → Prop}
variable {α : Type} [Inhabited α] {val : α → AV} {lt : α → α → Bool} {cv : FuncId} {id ver n : Nat} {ex : Bool}
theorem siftDown_size (hi first : Nat) : ∀ (k root : Nat) (d : Array α), hi ≤ root + k → (siftDown lt hi first root d).size = d.size := by
  intro k
  induction k with
  | zero =>
    intro root d h
    unfold siftDown
    rw [dif_pos (by omega)]
  | succ k ih =>
    intro root d h
    unfold siftDown
    split
    · rfl
    · split
      · split
        · rfl
        · split
          · rw [ih _ _ (by omega), swp_size]
          · rfl
      · split
        · rfl
        · rw [ih _ _ (by omega), swp_size]
theorem heapBuild_size {hi first : Nat} : ∀ (k : Nat) (d : Array α), (heapBuild lt hi first k d).size = d.size
  | 0, d => rfl
  | k + 1, d => by unfold heapBuild; rw [heapBuild_size, siftDown_size hi first hi _ _ (by omega)]
theorem l128_0 (so : SO val lt cv) (hid : id < H.length) (hb : bar ≤ id) (hn : n < 1000000) {hi first : Nat} (hf : first + hi ≤ n) {R : PQ} : ∀ (k : Nat) (x : Int) (d : Array α), d.size = n → x = (k : Int) - 1 → k ≤ 1000000 →
    (∀ fr, R (.exit 0) (fr) (putA val id ver ex H (heapBuild lt hi first k d)) ∨ fr ≠ [(0, .vec id ver 0 n 1), (3, .fn cv [] []), (8, .int .i64 (first : Int)), (9, .int .i64 0), (10, .int .i64 (hi : Int)), (11, .int .i64 (-1)), (21, .bool false)]) →
    Wp E base bar (.loop c128_l0) [(0, .vec id ver 0 n 1), (3, .fn cv [] []), (8, .int .i64 (first : Int)), (9, .int .i64 0), (10, .int .i64 (hi : Int)), (11, .int .i64 x)] (putA val id ver ex H d) R := by
  intro k
  induction k with
  | zero =>
    intro x d hd hx _ h
    obtain rfl : x = -1 := by omega
    rw [wp_round c128_l0.eq_1]
    simp [go_sem]
    rcases h [(0, .vec id ver 0 n 1), (3, .fn cv [] []), (8, .int .i64 (first : Int)), (9, .int .i64 0), (10, .int .i64 (hi : Int)), (11, .int .i64 (-1)), (21, .bool false)] with h | h
    · exact h
    · exact (h rfl).elim
  | succ k ih =>
    intro x d hd hx hk h
    obtain rfl : x = (k : Int) := by omega
    have e0 := w64 (x := (k : Int) - 1) (by omega)
    have h0 : (0 : Int) ≤ (k : Int) := by omega
    rw [wp_round c128_l0.eq_1]
    simp [go_sem]
    refine k140 so hid hb hn hf (by omega) hd ?_
    have next := ih ((k : Int) - 1) (siftDown lt hi first k d) (by rw [siftDown_size hi first hi _ _ (by omega)]; exact hd) rfl (by omega) h
    simp [go_sem, e0]
    exact next
theorem l128_1 (so : SO val lt cv) (hid : id < H.length) (hb : bar ≤ id) (hn : n < 1000000) {first : Nat} {R : PQ} : ∀ (k : Nat) (x : Int) (d : Array α), d.size = n → x = (k : Int) - 1 → first + k ≤ n →
    (∀ fr, R (.exit 2) fr (putA val id ver ex H (heapPop lt first k d))) →
    Wp E base bar (.loop c128_l1) [(0, .vec id ver 0 n 1), (3, .fn cv [] []), (8, .int .i64 (first : Int)), (9, .int .i64 0), (12, .int .i64 x)] (putA val id ver ex H d) R := by
  intro k
  induction k with
  | zero =>
    intro x d hd hx _ h
    obtain rfl : x = -1 := by omega
    rw [wp_round c128_l1.eq_1]
    simp [go_sem]
    exact h _
  | succ k ih =>
    intro x d hd hx hk h
    obtain rfl : x = (k : Int) := by omega
    obtain ⟨xk, hxk⟩ : ∃ x, x = first + k := ⟨_, rfl⟩
    have e0 := w64 (x := (k : Int) - 1) (by omega)
    have e1 : IntKind.i64.wrap ((first : Int) + (k : Int)) = (xk : Int) := by rw [w64 (by omega)]; omega
    have b0 : first < n := by omega
    have b1 : xk < n := by omega
    have ld0 := ldA (val := val) (ver := ver) (ex := ex) (s := 1) (d := d) (i := first) hid (by omega)
    have ld1 := ldA (val := val) (ver := ver) (ex := ex) (s := 1) (d := d) (i := xk) hid (by omega)
    obtain ⟨st1, st2⟩ := stS (ver := ver) (ex := ex) (d := d) (i := first) (j := xk) so hid (by omega) (by omega) hb
    unfold heapPop at h
    rw [← hxk] at h
    rw [wp_round c128_l1.eq_1]
    simp [go_sem, e1, b0, b1, ld0, ld1, st1, st2]
    refine k140 (root := 0) so hid hb hn (hi := k) (first := first) (by omega) (by omega) (by rw [swp_size]; exact hd) ?_
    have next := ih ((k : Int) - 1) (siftDown lt k first 0 (swp d first xk)) (by rw [siftDown_size k first k _ _ (by omega), swp_size]; exact hd) rfl (by omega) h
    simp [go_sem, e0]
    exact next
theorem k128 (so : SO val lt cv) (hid : id < H.length) (hb : bar ≤ id) (hn : n < 1000000) {a b : Nat} (hab : a < b) (hbn : b ≤ n) {d : Array α} (hd : d.size = n)
    (h : Q (.tup []) (putA val id ver ex H (heapSort lt d a b))) : WpCall E false base bar 128 [.vec id ver 0 n 1, .int .i64 (a : Int), .int .i64 (b : Int), .fn cv [] []] (putA val id ver ex H d) Q := by
  obtain ⟨hi, hhi⟩ : ∃ x, x = b - a := ⟨_, rfl⟩
  obtain ⟨m, hm⟩ : ∃ x, x = (hi - 1) / 2 := ⟨_, rfl⟩
  have e1 : IntKind.i64.wrap ((b : Int) - (a : Int)) = (hi : Int) := by rw [w64 (by omega)]; omega
  have e2 : IntKind.i64.wrap ((hi : Int) - 1) = ((hi - 1 : Nat) : Int) := by rw [w64 (by omega)]; omega
  have e3 := quoN (x := hi - 1) (y := 2) (by omega) (by omega)
  rw [← hm] at e3
  unfold heapSort at h
  rw [← hhi, ← hm] at h
  rw [call128]
  simp [go_sem, WpFun, c128, e1, e2]
  rw [show (2 : Int) = ((2 : Nat) : Int) from rfl, e3]
  simp [go_sem]
  refine l128_0 so hid hb hn (hi := hi) (first := a) (by omega) (m + 1) (m : Int) d hd (by omega) (by omega) fun fr => ?_
  by_cases hfr : fr = [(0, .vec id ver 0 n 1), (3, .fn cv [] []), (8, .int .i64 (a : Int)), (9, .int .i64 0), (10, .int .i64 (hi : Int)), (11, .int .i64 (-1)), (21, .bool false)]
  · refine .inl ?_
    subst hfr
    simp [go_sem, e2]
    refine l128_1 so hid hb hn (first := a) hi _ _ (by rw [heapBuild_size]; exact hd) (by omega) (by omega) fun fr => ?_
    simp [go_sem, putA_len, putA_self]
    exact h
  · exact .inr hfr
/-! 131: the other way round -/
theorem l131_0 (so : SO val lt cv) (hid : id < H.length) (hb : bar ≤ id) (hn : n < 1000000) {R : PQ} : ∀ (k i j : Nat) (d : Array α), d.size = n → j ≤ i + k → i < n → j < n →
    (∀ fr, R (.exit 0) fr (putA val id ver ex H (reverseLoop i j d))) →
    Wp E base bar (.loop c131_l0) [(0, .vec id ver 0 n 1), (8, .int .i64 (i : Int)), (9, .int .i64 (j : Int))] (putA val id ver ex H d) R := by
  intro k
  have stop : ∀ (i j : Nat) (d : Array α), ¬ i < j → (∀ fr, R (.exit 0) fr (putA val id ver ex H (reverseLoop i j d))) →
      Wp E base bar (.loop c131_l0) [(0, .vec id ver 0 n 1), (8, .int .i64 (i : Int)), (9, .int .i64 (j : Int))] (putA val id ver ex H d) R := by
    intro i j d hij h
    have hlt : ¬ (i : Int) < (j : Int) := by omega
    unfold reverseLoop at h
    rw [if_neg hij] at h
    rw [wp_round c131_l0.eq_1]
    simp [go_sem, hlt]
    exact h _
  induction k with
  | zero =>
    intro i j d hd hk hi hj h
    exact stop i j d (by omega) h
  | succ k ih =>
    intro i j d hd hk hi hj h
    by_cases hij : i < j
    · have hlt : (i : Int) < (j : Int) := by omega
      have h' := h
      unfold reverseLoop at h'
      rw [if_pos hij] at h'
      have e0 := i64_suc (show i < 1000000 by omega)
      have e1 : IntKind.i64.wrap ((j : Int) - 1) = ((j - 1 : Nat) : Int) := by rw [w64 (by omega)]; omega
      have ld0 := ldA (val := val) (ver := ver) (ex := ex) (s := 1) (d := d) (i := i) hid (by omega)
      have ld1 := ldA (val := val) (ver := ver) (ex := ex) (s := 1) (d := d) (i := j) hid (by omega)
      obtain ⟨st1, st2⟩ := stS (ver := ver) (ex := ex) (d := d) (i := i) (j := j) so hid (by omega) (by omega) hb
      have next := ih (i + 1) (j - 1) (swp d i j) (by rw [swp_size]; exact hd) (by omega) (by omega) (by omega) h'
      rw [wp_round c131_l0.eq_1]
      simp [go_sem, hlt, e0, e1, hi, hj, ld0, ld1, st1, st2]
      exact next
    · exact stop i j d hij h
theorem k131 (so : SO val lt cv) (hid : id < H.length) (hb : bar ≤ id) (hn : n < 1000000) {a b : Nat} (hab : a < b) (hbn : b ≤ n) {d : Array α} (hd : d.size = n)
    (h : Q (.tup []) (putA val id ver ex H (reverseRange d a b))) : WpCall E false base bar 131 [.vec id ver 0 n 1, .int .i64 (a : Int), .int .i64 (b : Int), .fn cv [] []] (putA val id ver ex H d) Q := by
  have e1 : IntKind.i64.wrap ((b : Int) - 1) = ((b - 1 : Nat) : Int) := by rw [w64 (by omega)]; omega
  rw [call131]
  simp [go_sem, WpFun, c131, e1]
  refine l131_0 so hid hb hn b a (b - 1) d hd (by omega) (by omega) (by omega) fun fr => ?_
  simp [go_sem, putA_len, putA_self]
  exact h
end Go.Proofs.YtbkhffakhggdaaaDoor.Code
end
section
namespace Go.Proofs.YtbkhffakhggdaaaDoor.Code
open Go Go.Ab Go.Sort
variable {p : Bool} {base bar : Nat} {H : Heap} {Q : AV → Heap → Prop} {K : AV → Heap → List Nat → Prop}
variable {α : Type} [Inhabited α] {val : α → AV} {lt : α → α → Bool} {cv : FuncId} {id ver n : Nat} {ex : Bool}
/-! 132: a part that is almost sorted -/
theorem l132_0 (so : SO val lt cv) (hid : id < H.length) (hn : n < 1000000) {a b : Nat} (hbn : b ≤ n) {vs : AV} {R : PQ} {d : Array α} (hd : d.size = n) : ∀ (k i : Nat) (fr : Ab.Frame), b ≤ i + k → 1 ≤ i → i ≤ 1000000 → (fr = [(0, .vec id ver 0 n 1), (1, .int .i64 (a : Int)), (2, .int .i64 (b : Int)), (3, .fn cv [] []), (9, .int .i64 (i : Int)), (10, vs)] ∨ fr = [(0, .vec id ver 0 n 1), (1, .int .i64 (a : Int)), (2, .int .i64 (b : Int)), (3, .fn cv [] []), (9, .int .i64 (i : Int)), (10, vs), (16, .bool true)]) →
    R (.exit 2) [(0, .vec id ver 0 n 1), (1, .int .i64 (a : Int)), (2, .int .i64 (b : Int)), (3, .fn cv [] []), (9, .int .i64 (scanSorted lt d b i : Nat)), (10, vs), (36, .bool false)] (putA val id ver ex H d) →
    Wp E base bar (.loop c132_l0) fr (putA val id ver ex H d) R := by
  intro k
  have stop : ∀ (i : Nat) (fr : Ab.Frame), ¬ i < b → (fr = [(0, .vec id ver 0 n 1), (1, .int .i64 (a : Int)), (2, .int .i64 (b : Int)), (3, .fn cv [] []), (9, .int .i64 (i : Int)), (10, vs)] ∨ fr = [(0, .vec id ver 0 n 1), (1, .int .i64 (a : Int)), (2, .int .i64 (b : Int)), (3, .fn cv [] []), (9, .int .i64 (i : Int)), (10, vs), (16, .bool true)]) → R (.exit 2) [(0, .vec id ver 0 n 1), (1, .int .i64 (a : Int)), (2, .int .i64 (b : Int)), (3, .fn cv [] []), (9, .int .i64 (scanSorted lt d b i : Nat)), (10, vs), (36, .bool false)] (putA val id ver ex H d) →
      Wp E base bar (.loop c132_l0) fr (putA val id ver ex H d) R := by
    intro i fr hi hfr h
    have hlt : ¬ (i : Int) < (b : Int) := by omega
    unfold scanSorted at h
    rw [if_neg (by simp [hi])] at h
    rw [wp_round c132_l0.eq_1]
    rcases hfr with rfl | rfl <;> simp [go_sem, hlt] <;> exact h
  induction k with
  | zero =>
    intro i fr hi _ _ hfr h
    exact stop i fr (by omega) hfr h
  | succ k ih =>
    intro i fr hi h1 h2 hfr h
    by_cases hib : i < b
    · have hlt : (i : Int) < (b : Int) := by omega
      have hin : i < n := by omega
      have hin1 : i - 1 < n := by omega
      have e0 : IntKind.i64.wrap ((i : Int) - 1) = ((i - 1 : Nat) : Int) := by rw [w64 (by omega)]; omega
      have e1 := i64_suc (show i < 1000000 by omega)
      have ld0 := ldA (val := val) (ver := ver) (ex := ex) (s := 1) (d := d) (i := i) hid (by omega)
      have ld1 := ldA (val := val) (ver := ver) (ex := ex) (s := 1) (d := d) (i := i - 1) hid (by omega)
      unfold scanSorted at h
      rw [wp_round c132_l0.eq_1]
      rcases hfr with rfl | rfl <;> simp [go_sem, hlt, e0, hin, hin1, ld0, ld1]
      all_goals
        refine so.call _ _ _ _ _ _ _ fun c hc => ?_
        cases hl : lt d[i]! d[i - 1]!
        · have hc1 := ltF hc hl
          rw [if_pos (by simp [hl, hib])] at h
          have next := ih (i + 1) _ (by omega) (by omega) (by omega) (.inl rfl) h
          simp [go_sem, hc1, e1]
          exact next
        · have hc1 := ltT hc hl
          rw [if_neg (by simp [hl])] at h
          simp [go_sem, hc1]
          exact h
    · exact stop i fr hib hfr h
theorem l132_1 (so : SO val lt cv) (hid : id < H.length) (hb : bar ≤ id) (hn : n < 1000000) {va vb vi vs : AV} {R : PQ} : ∀ (j : Nat) (d : Array α), d.size = n → j < n →
    (∀ y, R (.exit 4) [(0, .vec id ver 0 n 1), (1, va), (2, vb), (3, .fn cv [] []), (9, vi), (10, vs), (11, y), (69, .bool false)] (putA val id ver ex H (shiftDown lt j d)) ∧ R (.exit 4) [(0, .vec id ver 0 n 1), (1, va), (2, vb), (3, .fn cv [] []), (9, vi), (10, vs), (11, y), (84, .bool true)] (putA val id ver ex H (shiftDown lt j d))) →
    Wp E base bar (.loop c132_l1) [(0, .vec id ver 0 n 1), (1, va), (2, vb), (3, .fn cv [] []), (9, vi), (10, vs), (11, .int .i64 (j : Int))] (putA val id ver ex H d) R := by
  intro j
  induction j with
  | zero =>
    intro d hd hj h
    rw [wp_round c132_l1.eq_1]
    simp [go_sem]
    exact (h _).1
  | succ j ih =>
    intro d hd hj h
    have h' := h
    unfold shiftDown at h'
    have e0 := w64 (x := (j : Int)) (by omega)
    have h1 : (1 : Int) ≤ (j : Int) + 1 := by omega
    have h0 : (0 : Int) ≤ (j : Int) + 1 := by omega
    have hj0 : j < n := by omega
    have ld1 := ldA (val := val) (ver := ver) (ex := ex) (s := 1) (d := d) (i := j + 1) hid (by omega)
    have ld0 := ldA (val := val) (ver := ver) (ex := ex) (s := 1) (d := d) (i := j) hid (by omega)
    obtain ⟨st1, st2⟩ := stS (ver := ver) (ex := ex) (d := d) (i := j + 1) (j := j) so hid (by omega) (by omega) hb
    rw [wp_round c132_l1.eq_1]
    simp [go_sem, h1, h0, e0, hj, hj0, ld1, ld0]
    refine so.call _ _ _ _ _ _ _ fun c hc => ?_
    cases hl : lt d[j + 1]! d[j]!
    · have hc1 := ltF hc hl
      rw [if_pos (by simp [hl])] at h'
      simp [go_sem, hc1]
      exact (h' _).2
    · have hc1 := ltT hc hl
      rw [if_neg (by simp [hl])] at h'
      have next := ih (swp d (j + 1) j) (by rw [swp_size]; exact hd) hj0 h'
      simp [go_sem, hc1, h0, e0, hj, hj0, ld1, ld0, st1, st2]
      exact next
theorem l132_2 (so : SO val lt cv) (hid : id < H.length) (hb : bar ≤ id) (hn : n < 1000000) {b : Nat} (hbn : b ≤ n) {va vi vs : AV} {R : PQ} : ∀ (k j : Nat) (d : Array α), d.size = n → b ≤ j + k → 1 ≤ j → j ≤ 1000000 →
    (∀ y, R (.exit 6) [(0, .vec id ver 0 n 1), (1, va), (2, .int .i64 (b : Int)), (3, .fn cv [] []), (9, vi), (10, vs), (12, y), (109, .bool false)] (putA val id ver ex H (shiftUp lt b j d)) ∧ R (.exit 6) [(0, .vec id ver 0 n 1), (1, va), (2, .int .i64 (b : Int)), (3, .fn cv [] []), (9, vi), (10, vs), (12, y), (124, .bool true)] (putA val id ver ex H (shiftUp lt b j d))) →
    Wp E base bar (.loop c132_l2) [(0, .vec id ver 0 n 1), (1, va), (2, .int .i64 (b : Int)), (3, .fn cv [] []), (9, vi), (10, vs), (12, .int .i64 (j : Int))] (putA val id ver ex H d) R := by
  intro k
  have stop : ∀ (j : Nat) (d : Array α), ¬ j < b → (∀ y, R (.exit 6) [(0, .vec id ver 0 n 1), (1, va), (2, .int .i64 (b : Int)), (3, .fn cv [] []), (9, vi), (10, vs), (12, y), (109, .bool false)] (putA val id ver ex H (shiftUp lt b j d)) ∧ R (.exit 6) [(0, .vec id ver 0 n 1), (1, va), (2, .int .i64 (b : Int)), (3, .fn cv [] []), (9, vi), (10, vs), (12, y), (124, .bool true)] (putA val id ver ex H (shiftUp lt b j d))) →
      Wp E base bar (.loop c132_l2) [(0, .vec id ver 0 n 1), (1, va), (2, .int .i64 (b : Int)), (3, .fn cv [] []), (9, vi), (10, vs), (12, .int .i64 (j : Int))] (putA val id ver ex H d) R := by
    intro j d hj h
    have hlt : ¬ (j : Int) < (b : Int) := by omega
    unfold shiftUp at h
    rw [if_neg hj] at h
    rw [wp_round c132_l2.eq_1]
    simp [go_sem, hlt]
    exact (h _).1
  induction k with
  | zero =>
    intro j d hd hk _ _ h
    exact stop j d (by omega) h
  | succ k ih =>
    intro j d hd hk h1 h2 h
    by_cases hjb : j < b
    · have hlt : (j : Int) < (b : Int) := by omega
      have h' := h
      unfold shiftUp at h'
      rw [if_pos hjb] at h'
      have e0 : IntKind.i64.wrap ((j : Int) - 1) = ((j - 1 : Nat) : Int) := by rw [w64 (by omega)]; omega
      have e1 := i64_suc (show j < 1000000 by omega)
      have hj0 : j < n := by omega
      have hj1 : j - 1 < n := by omega
      have ld1 := ldA (val := val) (ver := ver) (ex := ex) (s := 1) (d := d) (i := j) hid (by omega)
      have ld0 := ldA (val := val) (ver := ver) (ex := ex) (s := 1) (d := d) (i := j - 1) hid (by omega)
      obtain ⟨st1, st2⟩ := stS (ver := ver) (ex := ex) (d := d) (i := j) (j := j - 1) so hid (by omega) (by omega) hb
      rw [wp_round c132_l2.eq_1]
      simp [go_sem, hlt, e0, hj0, hj1, ld1, ld0]
      refine so.call _ _ _ _ _ _ _ fun c hc => ?_
      cases hl : lt d[j]! d[j - 1]!
      · have hc1 := ltF hc hl
        rw [if_pos (by simp [hl])] at h'
        simp [go_sem, hc1]
        exact (h' _).2
      · have hc1 := ltT hc hl
        rw [if_neg (by simp [hl])] at h'
        have next := ih (j + 1) (swp d j (j - 1)) (by rw [swp_size]; exact hd) (by omega) (by omega) (by omega) h'
        simp [go_sem, hc1, e0, e1, hj0, hj1, ld1, ld0, st1, st2]
        exact next
    · exact stop j d hjb h
theorem shiftDown_size : ∀ (j : Nat) (d : Array α), (shiftDown lt j d).size = d.size
  | 0, d => rfl
  | j + 1, d => by
    unfold shiftDown
    split
    · rfl
    · rw [shiftDown_size, swp_size]
theorem shiftUp_size {b : Nat} : ∀ (k j : Nat) (d : Array α), b ≤ j + k → (shiftUp lt b j d).size = d.size := by
  intro k
  induction k with
  | zero => intro j d h; unfold shiftUp; rw [if_neg (by omega)]
  | succ k ih =>
    intro j d h
    unfold shiftUp
    split
    · split
      · rfl
      · rw [ih _ _ (by omega), swp_size]
    · rfl
theorem scanSorted_le {d : Array α} {b : Nat} : ∀ (k i : Nat), b ≤ i + k → i ≤ b → i ≤ scanSorted lt d b i ∧ scanSorted lt d b i ≤ b := by
  intro k
  induction k with
  | zero => intro i h h1; unfold scanSorted; rw [if_neg (by simp; omega)]; omega
  | succ k ih =>
    intro i h h1
    unfold scanSorted
    split
    · rename_i hc
      simp only [Bool.and_eq_true, decide_eq_true_eq] at hc
      have := ih (i + 1) (by omega) (by omega)
      omega
    · omega
theorem l132_3 (so : SO val lt cv) (hid : id < H.length) (hb : bar ≤ id) (hn : n < 1000000) {a b : Nat} (hab : a < b) (hbn : b ≤ n) {R : PQ} : ∀ (s : Nat) (x : Int) (i : Nat) (d : Array α), d.size = n → x = 5 - (s : Int) → s ≤ 5 → a < i → i ≤ b →
    ((partialIns lt a b s i d).2 = true → R .ret [(8, .bool true)] (putA val id ver ex H (partialIns lt a b s i d).1)) →
    ((partialIns lt a b s i d).2 = false → R .ret [(8, .bool false)] (putA val id ver ex H (partialIns lt a b s i d).1)) →
    ((partialIns lt a b s i d).2 = false → ∀ y, R (.exit 0) [(0, .vec id ver 0 n 1), (1, .int .i64 (a : Int)), (2, .int .i64 (b : Int)), (3, .fn cv [] []), (9, y), (10, .int .i64 5), (16, .bool false)] (putA val id ver ex H (partialIns lt a b s i d).1)) →
    Wp E base bar (.loop c132_l3) [(0, .vec id ver 0 n 1), (1, .int .i64 (a : Int)), (2, .int .i64 (b : Int)), (3, .fn cv [] []), (9, .int .i64 (i : Int)), (10, .int .i64 x)] (putA val id ver ex H d) R := by
  intro s
  induction s with
  | zero =>
    intro x i d hd hx _ ha hi h1 h2 h3
    obtain rfl : x = 5 := by omega
    rw [wp_round c132_l3.eq_1]
    simp [go_sem]
    exact h3 rfl _
  | succ s ih =>
    intro x i d hd hx hs ha hi h1 h2 h3
    unfold partialIns at h1 h2 h3
    obtain ⟨hi1, hi2⟩ := scanSorted_le (lt := lt) (d := d) (b := b) b i (by omega) hi
    have hx5 : x < 5 := by omega
    have hxw := w64 (x := x + 1) (by omega)
    rw [wp_round c132_l3.eq_1]
    simp [go_sem, hx5]
    refine l132_0 so hid hn hbn hd b i _ (by omega) (by omega) (by omega) (.inr rfl) ?_
    generalize scanSorted lt d b i = i2 at *
    by_cases hib : i2 = b
    · subst hib
      simp only [if_true] at h1
      simp [go_sem]
      exact h1 trivial
    · simp only [if_neg hib] at h1 h2 h3
      have hib1 : ¬ (i2 : Int) = (b : Int) := by omega
      have e2 : IntKind.i64.wrap ((b : Int) - (a : Int)) = (b : Int) - (a : Int) := w64 (by omega)
      by_cases h50 : b - a < 50
      · rw [if_pos h50] at h2
        have h501 : (b : Int) - (a : Int) < 50 := by omega
        simp [go_sem, hib1, e2, h501]
        exact h2 rfl
      · rw [if_neg h50] at h1 h2 h3
        have h501 : ¬ (b : Int) - (a : Int) < 50 := by omega
        have e0 : IntKind.i64.wrap ((i2 : Int) - 1) = ((i2 - 1 : Nat) : Int) := by rw [w64 (by omega)]; omega
        have e3 : IntKind.i64.wrap ((i2 : Int) - (a : Int)) = (i2 : Int) - (a : Int) := w64 (by omega)
        have e4 : IntKind.i64.wrap ((b : Int) - (i2 : Int)) = (b : Int) - (i2 : Int) := w64 (by omega)
        have e5 := i64_suc (show i2 < 1000000 by omega)
        have b0 : i2 < n := by omega
        have b1 : i2 - 1 < n := by omega
        have ld0 := ldA (val := val) (ver := ver) (ex := ex) (s := 1) (d := d) (i := i2) hid (by omega)
        have ld1 := ldA (val := val) (ver := ver) (ex := ex) (s := 1) (d := d) (i := i2 - 1) hid (by omega)
        obtain ⟨st1, st2⟩ := stS (ver := ver) (ex := ex) (d := d) (i := i2) (j := i2 - 1) so hid (by omega) (by omega) hb
        have hd1 : (swp d i2 (i2 - 1)).size = n := by rw [swp_size]; exact hd
        generalize hD1 : swp d i2 (i2 - 1) = d1 at *
        have hd2 : (shiftDown lt (i2 - 1) d1).size = n := by rw [shiftDown_size]; exact hd1
        have hd3 : ∀ d2 : Array α, d2.size = n → (shiftUp lt b (i2 + 1) d2).size = n := fun d2 h => by rw [shiftUp_size b _ _ (by omega)]; exact h
        have next := fun d3 (hd3 : d3.size = n) => ih (x + 1) i2 d3 hd3 (by omega) (by omega) (by omega) (by omega)
        by_cases hA : i2 - a ≥ 2
        · have hA1 : (2 : Int) ≤ (i2 : Int) - (a : Int) := by omega
          rw [if_pos hA] at h1 h2 h3
          simp [go_sem, hib1, e2, h501, e0, b0, b1, ld0, ld1, st1, st2, e3, hA1]
          refine l132_1 so hid hb hn (i2 - 1) d1 hd1 (by omega) fun y => ?_
          by_cases hB : b - i2 ≥ 2
          · have hB1 : (2 : Int) ≤ (b : Int) - (i2 : Int) := by omega
            rw [if_pos hB] at h1 h2 h3
            constructor
            all_goals
              simp [go_sem, e4, hB1, e5]
              refine l132_2 so hid hb hn hbn b (i2 + 1) _ hd2 (by omega) (by omega) (by omega) fun y => ?_
              constructor
              all_goals
                simp [go_sem, hxw]
                exact next _ (hd3 _ hd2) h1 h2 h3
          · have hB1 : ¬ (2 : Int) ≤ (b : Int) - (i2 : Int) := by omega
            rw [if_neg hB] at h1 h2 h3
            constructor
            all_goals
              simp [go_sem, e4, hB1, hxw]
              exact next _ hd2 h1 h2 h3
        · have hA1 : ¬ (2 : Int) ≤ (i2 : Int) - (a : Int) := by omega
          rw [if_neg hA] at h1 h2 h3
          by_cases hB : b - i2 ≥ 2
          · have hB1 : (2 : Int) ≤ (b : Int) - (i2 : Int) := by omega
            rw [if_pos hB] at h1 h2 h3
            simp [go_sem, hib1, e2, h501, e0, b0, b1, ld0, ld1, st1, st2, e3, hA1, e4, hB1, e5]
            refine l132_2 so hid hb hn hbn b (i2 + 1) _ hd1 (by omega) (by omega) (by omega) fun y => ?_
            constructor
            all_goals
              simp [go_sem, hxw]
              exact next _ (hd3 _ hd1) h1 h2 h3
          · have hB1 : ¬ (2 : Int) ≤ (b : Int) - (i2 : Int) := by omega
            rw [if_neg hB] at h1 h2 h3
            simp [go_sem, hib1, e2, h501, e0, b0, b1, ld0, ld1, st1, st2, e3, hA1, e4, hB1, hxw]
            exact next _ hd1 h1 h2 h3
theorem k132 (so : SO val lt cv) (hid : id < H.length) (hb : bar ≤ id) (hn : n < 1000000) {a b : Nat} (hab : a < b) (hbn : b ≤ n) {d : Array α} (hd : d.size = n)
    (h : Q (.bool (partialInsertionSort lt d a b).2) (putA val id ver ex H (partialInsertionSort lt d a b).1)) : WpCall E false base bar 132 [.vec id ver 0 n 1, .int .i64 (a : Int), .int .i64 (b : Int), .fn cv [] []] (putA val id ver ex H d) Q := by
  have e1 := i64_suc (show a < 1000000 by omega)
  unfold partialInsertionSort at h
  rw [call132]
  simp [go_sem, WpFun, c132, e1]
  refine l132_3 so hid hb hn hab hbn 5 0 (a + 1) d hd (by omega) (by omega) (by omega) (by omega) (fun e => ?_) (fun e => ?_) (fun e fr => ?_)
  all_goals
    rw [e] at h
    simp [go_sem, putA_len, putA_self]
    exact h
end Go.Proofs.YtbkhffakhggdaaaDoor.Code
end
section
namespace Go.Proofs.YtbkhffakhggdaaaDoor.Code
open Go Go.Ab Go.Sort
variable {p : Bool} {base bar : Nat} {H : Heap} {Q : AV → Heap → Prop} {K : AV → Heap → List Nat → Prop}
variable {α : Type} [Inhabited α] {val : α → AV} {lt : α → α → Bool} {cv : FuncId} {id ver n : Nat} {ex : Bool}
/-! 134, 133: the partitions -/
theorem l134_0 (so : SO val lt cv) (hid : id < H.length) (hn : n < 1000000) {a j : Nat} {d : Array α} (hd : d.size = n) (ha : a < n) (hj : j < n) {R : PQ} : ∀ (k i : Nat), j + 1 ≤ i + k → i ≤ 1000000 →
    R (.exit 0) [(0, .vec id ver 0 n 1), (1, .int .i64 (a : Int)), (4, .fn cv [] []), (12, .int .i64 (scanUp (fun x => lt x d[a]!) d j i : Nat)), (13, .int .i64 (j : Int)), (47, .bool false)] (putA val id ver ex H d) →
    Wp E base bar (.loop c134_l0) [(0, .vec id ver 0 n 1), (1, .int .i64 (a : Int)), (4, .fn cv [] []), (12, .int .i64 (i : Int)), (13, .int .i64 (j : Int))] (putA val id ver ex H d) R := by
  intro k
  have stop : ∀ i : Nat, ¬ i ≤ j → R (.exit 0) [(0, .vec id ver 0 n 1), (1, .int .i64 (a : Int)), (4, .fn cv [] []), (12, .int .i64 (scanUp (fun x => lt x d[a]!) d j i : Nat)), (13, .int .i64 (j : Int)), (47, .bool false)] (putA val id ver ex H d) →
      Wp E base bar (.loop c134_l0) [(0, .vec id ver 0 n 1), (1, .int .i64 (a : Int)), (4, .fn cv [] []), (12, .int .i64 (i : Int)), (13, .int .i64 (j : Int))] (putA val id ver ex H d) R := by
    intro i hi h
    have hlt : ¬ (i : Int) ≤ (j : Int) := by omega
    unfold scanUp at h
    rw [if_neg (by simp [hi])] at h
    rw [wp_round c134_l0.eq_1]
    simp [go_sem, hlt]
    exact h
  induction k with
  | zero =>
    intro i hk _ h
    exact stop i (by omega) h
  | succ k ih =>
    intro i hk hi h
    by_cases hij : i ≤ j
    · have hlt : (i : Int) ≤ (j : Int) := by omega
      have hin : i < n := by omega
      have e1 := i64_suc (show i < 1000000 by omega)
      have ld0 := ldA (val := val) (ver := ver) (ex := ex) (s := 1) (d := d) (i := i) hid (by omega)
      have ld1 := ldA (val := val) (ver := ver) (ex := ex) (s := 1) (d := d) (i := a) hid (by omega)
      unfold scanUp at h
      rw [wp_round c134_l0.eq_1]
      simp [go_sem, hlt, hin, ha, ld0, ld1]
      refine so.call _ _ _ _ _ _ _ fun c hc => ?_
      cases hl : lt d[i]! d[a]!
      · have hc1 := ltF hc hl
        rw [if_neg (by simp [hl])] at h
        simp [go_sem, hc1, e1]
        exact h
      · have hc1 := ltT hc hl
        rw [if_pos (by simp [hl, hij])] at h
        have next := ih (i + 1) (by omega) (by omega) h
        simp [go_sem, hc1, e1]
        exact next
    · exact stop i hij h
theorem l134_1 (so : SO val lt cv) (hid : id < H.length) (hn : n < 1000000) {a i : Nat} {d : Array α} (hd : d.size = n) (ha : a < n) (hi : 1 ≤ i) {R : PQ} : ∀ (j : Nat) (fr : Ab.Frame), j < n → (fr = [(0, .vec id ver 0 n 1), (1, .int .i64 (a : Int)), (4, .fn cv [] []), (12, .int .i64 (i : Int)), (13, .int .i64 (j : Int))] ∨ fr = [(0, .vec id ver 0 n 1), (1, .int .i64 (a : Int)), (4, .fn cv [] []), (12, .int .i64 (i : Int)), (13, .int .i64 (j : Int)), (47, .bool false)]) →
    R (.exit 2) [(0, .vec id ver 0 n 1), (1, .int .i64 (a : Int)), (4, .fn cv [] []), (12, .int .i64 (i : Int)), (13, .int .i64 (scanDown (fun x => !lt x d[a]!) d i j : Nat)), (66, .bool false)] (putA val id ver ex H d) →
    Wp E base bar (.loop c134_l1) fr (putA val id ver ex H d) R := by
  intro j
  induction j with
  | zero =>
    intro fr hj hfr h
    unfold scanDown at h
    have hlt : ¬ (i : Int) ≤ 0 := by omega
    have hi0 : ¬ i = 0 := by omega
    rw [wp_round c134_l1.eq_1]
    rcases hfr with rfl | rfl <;> simp [go_sem, hlt, hi0]
    all_goals exact h
  | succ j ih =>
    intro fr hj hfr h
    unfold scanDown at h
    rw [wp_round c134_l1.eq_1]
    by_cases hij : i ≤ j + 1
    · have hlt : (i : Int) ≤ (j : Int) + 1 := by omega
      have h0 : (0 : Int) ≤ (j : Int) + 1 := by omega
      have hin : j + 1 < n := by omega
      have e1 := w64 (x := (j : Int)) (by omega)
      have ld0 := ldA (val := val) (ver := ver) (ex := ex) (s := 1) (d := d) (i := j + 1) hid (by omega)
      have ld1 := ldA (val := val) (ver := ver) (ex := ex) (s := 1) (d := d) (i := a) hid (by omega)
      rcases hfr with rfl | rfl <;> simp [go_sem, hlt, h0, hin, ha, ld0, ld1]
      all_goals
        refine so.call _ _ _ _ _ _ _ fun c hc => ?_
        cases hl : lt d[j + 1]! d[a]!
        · have hc1 := ltF hc hl
          rw [if_pos (by simp [hl, hij])] at h
          have next := ih _ (by omega) (.inl rfl) h
          simp [go_sem, hc1, e1]
          exact next
        · have hc1 := ltT hc hl
          rw [if_neg (by simp [hl])] at h
          simp [go_sem, hc1, e1]
          exact h
    · have hlt : ¬ (i : Int) ≤ (j : Int) + 1 := by omega
      rw [if_neg (by simp [hij])] at h
      rcases hfr with rfl | rfl <;> simp [go_sem, hlt]
      all_goals exact h
theorem l134_2 (so : SO val lt cv) (hid : id < H.length) (hn : n < 1000000) {a j : Nat} {d : Array α} (hd : d.size = n) (ha : a < n) (hj : j < n) {R : PQ} : ∀ (k i : Nat), j + 1 ≤ i + k → i ≤ 1000000 →
    R (.exit 6) [(0, .vec id ver 0 n 1), (1, .int .i64 (a : Int)), (4, .fn cv [] []), (12, .int .i64 (scanUp (fun x => lt x d[a]!) d j i : Nat)), (13, .int .i64 (j : Int)), (120, .bool false)] (putA val id ver ex H d) →
    Wp E base bar (.loop c134_l2) [(0, .vec id ver 0 n 1), (1, .int .i64 (a : Int)), (4, .fn cv [] []), (12, .int .i64 (i : Int)), (13, .int .i64 (j : Int))] (putA val id ver ex H d) R := by
  intro k
  have stop : ∀ i : Nat, ¬ i ≤ j → R (.exit 6) [(0, .vec id ver 0 n 1), (1, .int .i64 (a : Int)), (4, .fn cv [] []), (12, .int .i64 (scanUp (fun x => lt x d[a]!) d j i : Nat)), (13, .int .i64 (j : Int)), (120, .bool false)] (putA val id ver ex H d) →
      Wp E base bar (.loop c134_l2) [(0, .vec id ver 0 n 1), (1, .int .i64 (a : Int)), (4, .fn cv [] []), (12, .int .i64 (i : Int)), (13, .int .i64 (j : Int))] (putA val id ver ex H d) R := by
    intro i hi h
    have hlt : ¬ (i : Int) ≤ (j : Int) := by omega
    unfold scanUp at h
    rw [if_neg (by simp [hi])] at h
    rw [wp_round c134_l2.eq_1]
    simp [go_sem, hlt]
    exact h
  induction k with
  | zero =>
    intro i hk _ h
    exact stop i (by omega) h
  | succ k ih =>
    intro i hk hi h
    by_cases hij : i ≤ j
    · have hlt : (i : Int) ≤ (j : Int) := by omega
      have hin : i < n := by omega
      have e1 := i64_suc (show i < 1000000 by omega)
      have ld0 := ldA (val := val) (ver := ver) (ex := ex) (s := 1) (d := d) (i := i) hid (by omega)
      have ld1 := ldA (val := val) (ver := ver) (ex := ex) (s := 1) (d := d) (i := a) hid (by omega)
      unfold scanUp at h
      rw [wp_round c134_l2.eq_1]
      simp [go_sem, hlt, hin, ha, ld0, ld1]
      refine so.call _ _ _ _ _ _ _ fun c hc => ?_
      cases hl : lt d[i]! d[a]!
      · have hc1 := ltF hc hl
        rw [if_neg (by simp [hl])] at h
        simp [go_sem, hc1, e1]
        exact h
      · have hc1 := ltT hc hl
        rw [if_pos (by simp [hl, hij])] at h
        have next := ih (i + 1) (by omega) (by omega) h
        simp [go_sem, hc1, e1]
        exact next
    · exact stop i hij h
theorem l134_3 (so : SO val lt cv) (hid : id < H.length) (hn : n < 1000000) {a i : Nat} {d : Array α} (hd : d.size = n) (ha : a < n) (hi : 1 ≤ i) {R : PQ} : ∀ (j : Nat) (fr : Ab.Frame), j < n → (fr = [(0, .vec id ver 0 n 1), (1, .int .i64 (a : Int)), (4, .fn cv [] []), (12, .int .i64 (i : Int)), (13, .int .i64 (j : Int))] ∨ fr = [(0, .vec id ver 0 n 1), (1, .int .i64 (a : Int)), (4, .fn cv [] []), (12, .int .i64 (i : Int)), (13, .int .i64 (j : Int)), (120, .bool false)]) →
    R (.exit 8) [(0, .vec id ver 0 n 1), (1, .int .i64 (a : Int)), (4, .fn cv [] []), (12, .int .i64 (i : Int)), (13, .int .i64 (scanDown (fun x => !lt x d[a]!) d i j : Nat)), (139, .bool false)] (putA val id ver ex H d) →
    Wp E base bar (.loop c134_l3) fr (putA val id ver ex H d) R := by
  intro j
  induction j with
  | zero =>
    intro fr hj hfr h
    unfold scanDown at h
    have hlt : ¬ (i : Int) ≤ 0 := by omega
    have hi0 : ¬ i = 0 := by omega
    rw [wp_round c134_l3.eq_1]
    rcases hfr with rfl | rfl <;> simp [go_sem, hlt, hi0]
    all_goals exact h
  | succ j ih =>
    intro fr hj hfr h
    unfold scanDown at h
    rw [wp_round c134_l3.eq_1]
    by_cases hij : i ≤ j + 1
    · have hlt : (i : Int) ≤ (j : Int) + 1 := by omega
      have h0 : (0 : Int) ≤ (j : Int) + 1 := by omega
      have hin : j + 1 < n := by omega
      have e1 := w64 (x := (j : Int)) (by omega)
      have ld0 := ldA (val := val) (ver := ver) (ex := ex) (s := 1) (d := d) (i := j + 1) hid (by omega)
      have ld1 := ldA (val := val) (ver := ver) (ex := ex) (s := 1) (d := d) (i := a) hid (by omega)
      rcases hfr with rfl | rfl <;> simp [go_sem, hlt, h0, hin, ha, ld0, ld1]
      all_goals
        refine so.call _ _ _ _ _ _ _ fun c hc => ?_
        cases hl : lt d[j + 1]! d[a]!
        · have hc1 := ltF hc hl
          rw [if_pos (by simp [hl, hij])] at h
          have next := ih _ (by omega) (.inl rfl) h
          simp [go_sem, hc1, e1]
          exact next
        · have hc1 := ltT hc hl
          rw [if_neg (by simp [hl])] at h
          simp [go_sem, hc1, e1]
          exact h
    · have hlt : ¬ (i : Int) ≤ (j : Int) + 1 := by omega
      rw [if_neg (by simp [hij])] at h
      rcases hfr with rfl | rfl <;> simp [go_sem, hlt]
      all_goals exact h
theorem l133_0 (so : SO val lt cv) (hid : id < H.length) (hn : n < 1000000) {a j : Nat} {d : Array α} (hd : d.size = n) (ha : a < n) (hj : j < n) {R : PQ} : ∀ (k i : Nat), j + 1 ≤ i + k → i ≤ 1000000 →
    R (.exit 2) [(0, .vec id ver 0 n 1), (1, .int .i64 (a : Int)), (4, .fn cv [] []), (11, .int .i64 (scanUp (fun x => !lt d[a]! x) d j i : Nat)), (12, .int .i64 (j : Int)), (47, .bool false)] (putA val id ver ex H d) →
    Wp E base bar (.loop c133_l0) [(0, .vec id ver 0 n 1), (1, .int .i64 (a : Int)), (4, .fn cv [] []), (11, .int .i64 (i : Int)), (12, .int .i64 (j : Int))] (putA val id ver ex H d) R := by
  intro k
  have stop : ∀ i : Nat, ¬ i ≤ j → R (.exit 2) [(0, .vec id ver 0 n 1), (1, .int .i64 (a : Int)), (4, .fn cv [] []), (11, .int .i64 (scanUp (fun x => !lt d[a]! x) d j i : Nat)), (12, .int .i64 (j : Int)), (47, .bool false)] (putA val id ver ex H d) →
      Wp E base bar (.loop c133_l0) [(0, .vec id ver 0 n 1), (1, .int .i64 (a : Int)), (4, .fn cv [] []), (11, .int .i64 (i : Int)), (12, .int .i64 (j : Int))] (putA val id ver ex H d) R := by
    intro i hi h
    have hlt : ¬ (i : Int) ≤ (j : Int) := by omega
    unfold scanUp at h
    rw [if_neg (by simp [hi])] at h
    rw [wp_round c133_l0.eq_1]
    simp [go_sem, hlt]
    exact h
  induction k with
  | zero =>
    intro i hk _ h
    exact stop i (by omega) h
  | succ k ih =>
    intro i hk hi h
    by_cases hij : i ≤ j
    · have hlt : (i : Int) ≤ (j : Int) := by omega
      have hin : i < n := by omega
      have e1 := i64_suc (show i < 1000000 by omega)
      have ld0 := ldA (val := val) (ver := ver) (ex := ex) (s := 1) (d := d) (i := i) hid (by omega)
      have ld1 := ldA (val := val) (ver := ver) (ex := ex) (s := 1) (d := d) (i := a) hid (by omega)
      unfold scanUp at h
      rw [wp_round c133_l0.eq_1]
      simp [go_sem, hlt, hin, ha, ld0, ld1]
      refine so.call _ _ _ _ _ _ _ fun c hc => ?_
      cases hl : lt d[a]! d[i]!
      · have hc1 := ltF hc hl
        rw [if_pos (by simp [hl, hij])] at h
        have next := ih (i + 1) (by omega) (by omega) h
        simp [go_sem, hc1, e1]
        exact next
      · have hc1 := ltT hc hl
        rw [if_neg (by simp [hl])] at h
        simp [go_sem, hc1, e1]
        exact h
    · exact stop i hij h
theorem l133_1 (so : SO val lt cv) (hid : id < H.length) (hn : n < 1000000) {a i : Nat} {d : Array α} (hd : d.size = n) (ha : a < n) (hi : 1 ≤ i) {R : PQ} : ∀ (j : Nat) (fr : Ab.Frame), j < n → (fr = [(0, .vec id ver 0 n 1), (1, .int .i64 (a : Int)), (4, .fn cv [] []), (11, .int .i64 (i : Int)), (12, .int .i64 (j : Int))] ∨ fr = [(0, .vec id ver 0 n 1), (1, .int .i64 (a : Int)), (4, .fn cv [] []), (11, .int .i64 (i : Int)), (12, .int .i64 (j : Int)), (47, .bool false)]) →
    R (.exit 4) [(0, .vec id ver 0 n 1), (1, .int .i64 (a : Int)), (4, .fn cv [] []), (11, .int .i64 (i : Int)), (12, .int .i64 (scanDown (fun x => lt d[a]! x) d i j : Nat)), (65, .bool false)] (putA val id ver ex H d) →
    Wp E base bar (.loop c133_l1) fr (putA val id ver ex H d) R := by
  intro j
  induction j with
  | zero =>
    intro fr hj hfr h
    unfold scanDown at h
    have hlt : ¬ (i : Int) ≤ 0 := by omega
    have hi0 : ¬ i = 0 := by omega
    rw [wp_round c133_l1.eq_1]
    rcases hfr with rfl | rfl <;> simp [go_sem, hlt, hi0]
    all_goals exact h
  | succ j ih =>
    intro fr hj hfr h
    unfold scanDown at h
    rw [wp_round c133_l1.eq_1]
    by_cases hij : i ≤ j + 1
    · have hlt : (i : Int) ≤ (j : Int) + 1 := by omega
      have h0 : (0 : Int) ≤ (j : Int) + 1 := by omega
      have hin : j + 1 < n := by omega
      have e1 := w64 (x := (j : Int)) (by omega)
      have ld0 := ldA (val := val) (ver := ver) (ex := ex) (s := 1) (d := d) (i := j + 1) hid (by omega)
      have ld1 := ldA (val := val) (ver := ver) (ex := ex) (s := 1) (d := d) (i := a) hid (by omega)
      rcases hfr with rfl | rfl <;> simp [go_sem, hlt, h0, hin, ha, ld0, ld1]
      all_goals
        refine so.call _ _ _ _ _ _ _ fun c hc => ?_
        cases hl : lt d[a]! d[j + 1]!
        · have hc1 := ltF hc hl
          rw [if_neg (by simp [hl])] at h
          simp [go_sem, hc1, e1]
          exact h
        · have hc1 := ltT hc hl
          rw [if_pos (by simp [hl, hij])] at h
          have next := ih _ (by omega) (.inl rfl) h
          simp [go_sem, hc1, e1]
          exact next
    · have hlt : ¬ (i : Int) ≤ (j : Int) + 1 := by omega
      rw [if_neg (by simp [hij])] at h
      rcases hfr with rfl | rfl <;> simp [go_sem, hlt]
      all_goals exact h
theorem partLoop_size {a : Nat} : ∀ (k i j : Nat) (d : Array α), j + 1 ≤ i + k → (partLoop lt a i j d).2.size = d.size ∧ (partLoop lt a i j d).1 ≤ j := by
  intro k
  induction k with
  | zero =>
    intro i j d h
    rw [partLoop_eq]
    have h1 := scanUp_ge (fun x => lt x d[a]!) d j i
    have h2 := scanDown_le (fun x => !lt x d[a]!) d (scanUp (fun x => lt x d[a]!) d j i) j
    rw [if_pos (by omega)]
    exact ⟨rfl, h2⟩
  | succ k ih =>
    intro i j d h
    rw [partLoop_eq]
    have h1 := scanUp_ge (fun x => lt x d[a]!) d j i
    have h2 := scanDown_le (fun x => !lt x d[a]!) d (scanUp (fun x => lt x d[a]!) d j i) j
    split
    · exact ⟨rfl, h2⟩
    · have := ih (scanUp (fun x => lt x d[a]!) d j i + 1) (scanDown (fun x => !lt x d[a]!) d (scanUp (fun x => lt x d[a]!) d j i) j - 1) (swp d (scanUp (fun x => lt x d[a]!) d j i) (scanDown (fun x => !lt x d[a]!) d (scanUp (fun x => lt x d[a]!) d j i) j)) (by omega)
      rw [swp_size] at this
      exact ⟨this.1, by omega⟩
theorem l134_4 (so : SO val lt cv) (hid : id < H.length) (hb : bar ≤ id) (hn : n < 1000000) {a : Nat} (ha : a < n) {R : PQ} : ∀ (k i j : Nat) (d : Array α), d.size = n → j + 1 ≤ i + k → 1 ≤ i → i ≤ 1000000 → j < n →
    (∀ y, R (.exit 4) [(0, .vec id ver 0 n 1), (1, .int .i64 (a : Int)), (4, .fn cv [] []), (12, y), (13, .int .i64 ((partLoop lt a i j d).1 : Nat)), (144, .bool true)] (putA val id ver ex H (partLoop lt a i j d).2)) →
    Wp E base bar (.loop c134_l4) [(0, .vec id ver 0 n 1), (1, .int .i64 (a : Int)), (4, .fn cv [] []), (12, .int .i64 (i : Int)), (13, .int .i64 (j : Int))] (putA val id ver ex H d) R := by
  intro k
  induction k with
  | zero =>
    intro i j d hd hk h1 hij hj h
    rw [partLoop_eq] at h
    have g1 := scanUp_ge (fun x => lt x d[a]!) d j i
    have g2 := scanDown_le (fun x => !lt x d[a]!) d (scanUp (fun x => lt x d[a]!) d j i) j
    rw [if_pos (by omega)] at h
    rw [wp_round c134_l4.eq_1]
    simp [go_sem]
    refine l134_2 so hid hn hd ha hj j i (by omega) (by omega) ?_
    simp [go_sem]
    refine l134_3 so hid hn hd ha (by omega) j _ hj (.inr rfl) ?_
    have hgt : ((scanDown (fun x => !lt x d[a]!) d (scanUp (fun x => lt x d[a]!) d j i) j : Nat) : Int) < ((scanUp (fun x => lt x d[a]!) d j i : Nat) : Int) := by omega
    simp [go_sem, hgt]
    exact h _
  | succ k ih =>
    intro i j d hd hk h1 hij hj h
    rw [partLoop_eq] at h
    have g1 := scanUp_ge (fun x => lt x d[a]!) d j i
    have g2 := scanDown_le (fun x => !lt x d[a]!) d (scanUp (fun x => lt x d[a]!) d j i) j
    rw [wp_round c134_l4.eq_1]
    simp [go_sem]
    refine l134_2 so hid hn hd ha hj (j + 1) i (by omega) (by omega) ?_
    simp [go_sem]
    refine l134_3 so hid hn hd ha (by omega) j _ hj (.inr rfl) ?_
    generalize scanUp (fun x => lt x d[a]!) d j i = i2 at *
    generalize scanDown (fun x => !lt x d[a]!) d i2 j = j2 at *
    by_cases hgt : i2 > j2
    · have hgt1 : (j2 : Int) < (i2 : Int) := by omega
      rw [if_pos hgt] at h
      simp [go_sem, hgt1]
      exact h _
    · have hgt1 : ¬ (j2 : Int) < (i2 : Int) := by omega
      rw [if_neg hgt] at h
      have b0 : i2 < n := by omega
      have b1 : j2 < n := by omega
      have e0 := i64_suc (show i2 < 1000000 by omega)
      have e1 : IntKind.i64.wrap ((j2 : Int) - 1) = ((j2 - 1 : Nat) : Int) := by rw [w64 (by omega)]; omega
      have ld0 := ldA (val := val) (ver := ver) (ex := ex) (s := 1) (d := d) (i := i2) hid (by omega)
      have ld1 := ldA (val := val) (ver := ver) (ex := ex) (s := 1) (d := d) (i := j2) hid (by omega)
      obtain ⟨st1, st2⟩ := stS (ver := ver) (ex := ex) (d := d) (i := i2) (j := j2) so hid (by omega) (by omega) hb
      have next := ih (i2 + 1) (j2 - 1) (swp d i2 j2) (by rw [swp_size]; exact hd) (by omega) (by omega) (by omega) (by omega) h
      simp [go_sem, hgt1, b0, b1, ld0, ld1, st1, st2, e0, e1]
      exact next
theorem k134 (so : SO val lt cv) (hid : id < H.length) (hb : bar ≤ id) (hn : n < 1000000) {a b pv : Nat} (hab : a + 1 < b) (hbn : b ≤ n) (hpv : pv < n) {d : Array α} (hd : d.size = n)
    (h : Q (.tup [.int .i64 ((Sort.partition lt d a b pv).1 : Nat), .bool (Sort.partition lt d a b pv).2.1]) (putA val id ver ex H (Sort.partition lt d a b pv).2.2)) :
    WpCall E false base bar 134 [.vec id ver 0 n 1, .int .i64 (a : Int), .int .i64 (b : Int), .int .i64 (pv : Int), .fn cv [] []] (putA val id ver ex H d) Q := by
  have ha : a < n := by omega
  have e0 := i64_suc (show a < 1000000 by omega)
  have e1 : IntKind.i64.wrap ((b : Int) - 1) = ((b - 1 : Nat) : Int) := by rw [w64 (by omega)]; omega
  have ld0 := ldA (val := val) (ver := ver) (ex := ex) (s := 1) (d := d) (i := a) hid (by omega)
  have ld1 := ldA (val := val) (ver := ver) (ex := ex) (s := 1) (d := d) (i := pv) hid (by omega)
  obtain ⟨st1, st2⟩ := stS (ver := ver) (ex := ex) (d := d) (i := a) (j := pv) so hid (by omega) (by omega) hb
  have he : Sort.partition lt d a b pv = (if scanUp (fun x => lt x (swp d a pv)[a]!) (swp d a pv) (b - 1) (a + 1) > scanDown (fun x => !lt x (swp d a pv)[a]!) (swp d a pv) (scanUp (fun x => lt x (swp d a pv)[a]!) (swp d a pv) (b - 1) (a + 1)) (b - 1) then
      (scanDown (fun x => !lt x (swp d a pv)[a]!) (swp d a pv) (scanUp (fun x => lt x (swp d a pv)[a]!) (swp d a pv) (b - 1) (a + 1)) (b - 1), true, swp (swp d a pv) (scanDown (fun x => !lt x (swp d a pv)[a]!) (swp d a pv) (scanUp (fun x => lt x (swp d a pv)[a]!) (swp d a pv) (b - 1) (a + 1)) (b - 1)) a)
    else ((partLoop lt a (scanUp (fun x => lt x (swp d a pv)[a]!) (swp d a pv) (b - 1) (a + 1) + 1) (scanDown (fun x => !lt x (swp d a pv)[a]!) (swp d a pv) (scanUp (fun x => lt x (swp d a pv)[a]!) (swp d a pv) (b - 1) (a + 1)) (b - 1) - 1) (swp (swp d a pv) (scanUp (fun x => lt x (swp d a pv)[a]!) (swp d a pv) (b - 1) (a + 1)) (scanDown (fun x => !lt x (swp d a pv)[a]!) (swp d a pv) (scanUp (fun x => lt x (swp d a pv)[a]!) (swp d a pv) (b - 1) (a + 1)) (b - 1)))).1, false,
      swp (partLoop lt a (scanUp (fun x => lt x (swp d a pv)[a]!) (swp d a pv) (b - 1) (a + 1) + 1) (scanDown (fun x => !lt x (swp d a pv)[a]!) (swp d a pv) (scanUp (fun x => lt x (swp d a pv)[a]!) (swp d a pv) (b - 1) (a + 1)) (b - 1) - 1) (swp (swp d a pv) (scanUp (fun x => lt x (swp d a pv)[a]!) (swp d a pv) (b - 1) (a + 1)) (scanDown (fun x => !lt x (swp d a pv)[a]!) (swp d a pv) (scanUp (fun x => lt x (swp d a pv)[a]!) (swp d a pv) (b - 1) (a + 1)) (b - 1)))).2
        (partLoop lt a (scanUp (fun x => lt x (swp d a pv)[a]!) (swp d a pv) (b - 1) (a + 1) + 1) (scanDown (fun x => !lt x (swp d a pv)[a]!) (swp d a pv) (scanUp (fun x => lt x (swp d a pv)[a]!) (swp d a pv) (b - 1) (a + 1)) (b - 1) - 1) (swp (swp d a pv) (scanUp (fun x => lt x (swp d a pv)[a]!) (swp d a pv) (b - 1) (a + 1)) (scanDown (fun x => !lt x (swp d a pv)[a]!) (swp d a pv) (scanUp (fun x => lt x (swp d a pv)[a]!) (swp d a pv) (b - 1) (a + 1)) (b - 1)))).1 a)) := rfl
  rw [he] at h
  clear he
  rw [call134]
  simp [go_sem, WpFun, c134, ha, hpv, ld0, ld1, st1, st2, e0, e1]
  have hd1 : (swp d a pv).size = n := by rw [swp_size]; exact hd
  generalize swp d a pv = d1 at *
  have g1 := scanUp_ge (fun x => lt x d1[a]!) d1 (b - 1) (a + 1)
  have g2 := scanDown_le (fun x => !lt x d1[a]!) d1 (scanUp (fun x => lt x d1[a]!) d1 (b - 1) (a + 1)) (b - 1)
  refine l134_0 so hid hn hd1 ha (by omega) b (a + 1) (by omega) (by omega) ?_
  simp [go_sem]
  refine l134_1 so hid hn hd1 ha (by omega) (b - 1) _ (by omega) (.inr rfl) ?_
  generalize scanUp (fun x => lt x d1[a]!) d1 (b - 1) (a + 1) = i at *
  generalize scanDown (fun x => !lt x d1[a]!) d1 i (b - 1) = j at *
  have b1 : j < n := by omega
  have ld0 := ldA (val := val) (ver := ver) (ex := ex) (s := 1) (d := d1) (i := a) hid (by omega)
  have ld1 := ldA (val := val) (ver := ver) (ex := ex) (s := 1) (d := d1) (i := j) hid (by omega)
  by_cases hgt : i > j
  · have hgt1 : (j : Int) < (i : Int) := by omega
    rw [if_pos hgt] at h
    obtain ⟨st1, st2⟩ := stS (ver := ver) (ex := ex) (d := d1) (i := j) (j := a) so hid (by omega) (by omega) hb
    simp [go_sem, hgt1, ha, b1, ld0, ld1, st1, st2, putA_len, putA_self]
    exact h
  · have hgt1 : ¬ (j : Int) < (i : Int) := by omega
    rw [if_neg hgt] at h
    have b0 : i < n := by omega
    have e2 := i64_suc (show i < 1000000 by omega)
    have e3 : IntKind.i64.wrap ((j : Int) - 1) = ((j - 1 : Nat) : Int) := by rw [w64 (by omega)]; omega
    have ldi := ldA (val := val) (ver := ver) (ex := ex) (s := 1) (d := d1) (i := i) hid (by omega)
    obtain ⟨st1, st2⟩ := stS (ver := ver) (ex := ex) (d := d1) (i := i) (j := j) so hid (by omega) (by omega) hb
    simp [go_sem, hgt1, b0, b1, ldi, ld1, st1, st2, e2, e3]
    have hd2 : (swp d1 i j).size = n := by rw [swp_size]; exact hd1
    have hs := partLoop_size (lt := lt) (a := a) j (i + 1) (j - 1) (swp d1 i j) (by omega)
    refine l134_4 so hid hb hn ha j (i + 1) (j - 1) _ hd2 (by omega) (by omega) (by omega) (by omega) fun y => ?_
    rw [hd2] at hs
    generalize partLoop lt a (i + 1) (j - 1) (swp d1 i j) = r at *
    obtain ⟨j3, d3⟩ := r
    simp only at hs h
    have b3 : j3 < n := by omega
    have ld0 := ldA (val := val) (ver := ver) (ex := ex) (s := 1) (d := d3) (i := a) hid (by omega)
    have ld3 := ldA (val := val) (ver := ver) (ex := ex) (s := 1) (d := d3) (i := j3) hid (by omega)
    obtain ⟨st1, st2⟩ := stS (ver := ver) (ex := ex) (d := d3) (i := j3) (j := a) so hid (by omega) (by omega) hb
    simp [go_sem, ha, b3, ld0, ld3, st1, st2, putA_len, putA_self]
    exact h
theorem l133_2 (so : SO val lt cv) (hid : id < H.length) (hb : bar ≤ id) (hn : n < 1000000) {a : Nat} (ha : a < n) {R : PQ} : ∀ (k i j : Nat) (d : Array α), d.size = n → j + 1 ≤ i + k → 1 ≤ i → i ≤ 1000000 → j < n →
    (∀ y, R (.exit 0) [(0, .vec id ver 0 n 1), (1, .int .i64 (a : Int)), (4, .fn cv [] []), (11, .int .i64 ((partEqLoop lt a i j d).1 : Nat)), (12, y), (70, .bool true)] (putA val id ver ex H (partEqLoop lt a i j d).2)) →
    Wp E base bar (.loop c133_l2) [(0, .vec id ver 0 n 1), (1, .int .i64 (a : Int)), (4, .fn cv [] []), (11, .int .i64 (i : Int)), (12, .int .i64 (j : Int))] (putA val id ver ex H d) R := by
  intro k
  induction k with
  | zero =>
    intro i j d hd hk h1 hij hj h
    rw [partEqLoop_eq] at h
    have g1 := scanUp_ge (fun x => !lt d[a]! x) d j i
    have g2 := scanDown_le (fun x => lt d[a]! x) d (scanUp (fun x => !lt d[a]! x) d j i) j
    rw [if_pos (by omega)] at h
    rw [wp_round c133_l2.eq_1]
    simp [go_sem]
    refine l133_0 so hid hn hd ha hj j i (by omega) (by omega) ?_
    simp [go_sem]
    refine l133_1 so hid hn hd ha (by omega) j _ hj (.inr rfl) ?_
    have hgt : ((scanDown (fun x => lt d[a]! x) d (scanUp (fun x => !lt d[a]! x) d j i) j : Nat) : Int) < ((scanUp (fun x => !lt d[a]! x) d j i : Nat) : Int) := by omega
    simp [go_sem, hgt]
    exact h _
  | succ k ih =>
    intro i j d hd hk h1 hij hj h
    rw [partEqLoop_eq] at h
    have g1 := scanUp_ge (fun x => !lt d[a]! x) d j i
    have g2 := scanDown_le (fun x => lt d[a]! x) d (scanUp (fun x => !lt d[a]! x) d j i) j
    rw [wp_round c133_l2.eq_1]
    simp [go_sem]
    refine l133_0 so hid hn hd ha hj (j + 1) i (by omega) (by omega) ?_
    simp [go_sem]
    refine l133_1 so hid hn hd ha (by omega) j _ hj (.inr rfl) ?_
    generalize scanUp (fun x => !lt d[a]! x) d j i = i2 at *
    generalize scanDown (fun x => lt d[a]! x) d i2 j = j2 at *
    by_cases hgt : i2 > j2
    · have hgt1 : (j2 : Int) < (i2 : Int) := by omega
      rw [if_pos hgt] at h
      simp [go_sem, hgt1]
      exact h _
    · have hgt1 : ¬ (j2 : Int) < (i2 : Int) := by omega
      rw [if_neg hgt] at h
      have b0 : i2 < n := by omega
      have b1 : j2 < n := by omega
      have e0 := i64_suc (show i2 < 1000000 by omega)
      have e1 : IntKind.i64.wrap ((j2 : Int) - 1) = ((j2 - 1 : Nat) : Int) := by rw [w64 (by omega)]; omega
      have ld0 := ldA (val := val) (ver := ver) (ex := ex) (s := 1) (d := d) (i := i2) hid (by omega)
      have ld1 := ldA (val := val) (ver := ver) (ex := ex) (s := 1) (d := d) (i := j2) hid (by omega)
      obtain ⟨st1, st2⟩ := stS (ver := ver) (ex := ex) (d := d) (i := i2) (j := j2) so hid (by omega) (by omega) hb
      have next := ih (i2 + 1) (j2 - 1) (swp d i2 j2) (by rw [swp_size]; exact hd) (by omega) (by omega) (by omega) (by omega) h
      simp [go_sem, hgt1, b0, b1, ld0, ld1, st1, st2, e0, e1]
      exact next
theorem k133 (so : SO val lt cv) (hid : id < H.length) (hb : bar ≤ id) (hn : n < 1000000) {a b pv : Nat} (hab : a + 1 < b) (hbn : b ≤ n) (hpv : pv < n) {d : Array α} (hd : d.size = n)
    (h : Q (.int .i64 ((partitionEqual lt d a b pv).1 : Nat)) (putA val id ver ex H (partitionEqual lt d a b pv).2)) :
    WpCall E false base bar 133 [.vec id ver 0 n 1, .int .i64 (a : Int), .int .i64 (b : Int), .int .i64 (pv : Int), .fn cv [] []] (putA val id ver ex H d) Q := by
  have ha : a < n := by omega
  have e0 := i64_suc (show a < 1000000 by omega)
  have e1 : IntKind.i64.wrap ((b : Int) - 1) = ((b - 1 : Nat) : Int) := by rw [w64 (by omega)]; omega
  have ld0 := ldA (val := val) (ver := ver) (ex := ex) (s := 1) (d := d) (i := a) hid (by omega)
  have ld1 := ldA (val := val) (ver := ver) (ex := ex) (s := 1) (d := d) (i := pv) hid (by omega)
  obtain ⟨st1, st2⟩ := stS (ver := ver) (ex := ex) (d := d) (i := a) (j := pv) so hid (by omega) (by omega) hb
  unfold partitionEqual at h
  rw [call133]
  simp [go_sem, WpFun, c133, ha, hpv, ld0, ld1, st1, st2, e0, e1]
  have hd1 : (swp d a pv).size = n := by rw [swp_size]; exact hd
  generalize swp d a pv = d1 at *
  refine l133_2 so hid hb hn ha b (a + 1) (b - 1) _ hd1 (by omega) (by omega) (by omega) (by omega) fun y => ?_
  simp [go_sem, putA_len, putA_self]
  exact h
end Go.Proofs.YtbkhffakhggdaaaDoor.Code
end
section
namespace Go.Proofs.YtbkhffakhggdaaaDoor.Code
open Go Go.Ab Go.Sort
variable {p : Bool} {base bar : Nat} {H : Heap} {Q : AV → Heap → Prop} {K : AV → Heap → List Nat → Prop}
variable {α : Type} [Inhabited α] {val : α → AV} {lt : α → α → Bool} {cv : FuncId} {id ver n : Nat} {ex : Bool}
/-! 144, 142, 141, 130: the pivot -/
/-- the heap with a box behind it -/
def bxA (H : Heap) (k : IntKind) (s : Int) : Heap := H ++ [.row 0 [.int k s] 0 true]
theorem bxA_len {k : IntKind} {s : Int} : (bxA H k s).length = H.length + 1 := by simp [bxA]
theorem bx_ld {d : Array α} {k : IntKind} {s : Int} {z : Nat} (hid : id < H.length) : aload (putA val id ver ex (bxA H k s) d) ⟨false, z⟩ (.ptr H.length 0 0) = some (.int k s) := by
  have h : (putA val id ver ex (bxA H k s) d)[H.length]? = some (.row 0 [.int k s] 0 true) := by
    rw [putA_ne (by omega)]; simp [bxA]
  rw [aload_ptr h, part_one]; rfl
theorem bx_st {d : Array α} {k : IntKind} {s s' : Int} (hid : id < H.length) (hb : bar ≤ H.length) :
    storeWp base bar 1 (.ptr H.length 0 0) (.int k s') (putA val id ver ex (bxA H k s) d) K = K (.tup []) (putA val id ver ex (bxA H k s') d) [H.length] := by
  have h : (putA val id ver ex (bxA H k s) d)[H.length]? = some (.row 0 [.int k s] 0 true) := by
    rw [putA_ne (by omega)]; simp [bxA]
  rw [storeWp_ptr (size := 1) h rfl rfl (by omega) (by simp) hb (.inr (by simp [AV.cells, tops_cons, tops_nil, top_int]))]
  congr 1
  simp only [putA, bxA, AV.cells, setCells]
  rw [List.set_comm _ _ (show id ≠ H.length by omega)]
  simp
theorem k144 (so : SO val lt cv) (hid : id < H.length) (hb : bar ≤ H.length) (hn : n < 1000000) {a b s : Nat} (ha : a < n) (hbn : b < n) (hs : s < 1000000) {d : Array α} (hd : d.size = n)
    (h : Q (.tup [.int .i64 ((order2 lt d a b s).1 : Nat), .int .i64 ((order2 lt d a b s).2.1 : Nat)]) (putA val id ver ex (bxA H .i64 ((order2 lt d a b s).2.2 : Nat)) d)) :
    WpCall E false base bar 144 [.vec id ver 0 n 1, .int .i64 (a : Int), .int .i64 (b : Int), .ptr H.length 0 0, .fn cv [] []] (putA val id ver ex (bxA H .i64 (s : Nat)) d) Q := by
  have hid2 : id < (bxA H .i64 (s : Nat)).length := by rw [bxA_len]; omega
  have ld0 := ldA (val := val) (ver := ver) (ex := ex) (s := 1) (d := d) (i := a) hid2 (by omega)
  have ld1 := ldA (val := val) (ver := ver) (ex := ex) (s := 1) (d := d) (i := b) hid2 (by omega)
  have e1 := i64_suc (show s < 1000000 by omega)
  have bl := bx_ld (val := val) (ver := ver) (ex := ex) (d := d) (k := .i64) (s := (s : Nat)) (z := 1) hid
  have bs := fun base K s' => bx_st (val := val) (ver := ver) (ex := ex) (d := d) (k := .i64) (s := (s : Nat)) (s' := s') (base := base) (K := K) hid hb
  unfold order2 at h
  rw [call144]
  simp [go_sem, WpFun, c144, ha, hbn, ld0, ld1]
  refine so.call _ _ _ _ _ _ _ fun c hc => ?_
  cases hl : lt d[b]! d[a]!
  · have hc1 := ltF hc hl
    rw [if_neg (by simp [hl])] at h
    simp [go_sem, hc1, putA_len, putA_self]
    exact h
  · have hc1 := ltT hc hl
    rw [if_pos hl] at h
    have hts : ∀ x : Int, (putA val id ver ex (bxA H .i64 x) d).take (bxA H .i64 (s : Nat)).length = putA val id ver ex (bxA H .i64 x) d := fun x => List.take_of_length_le (by rw [putA_len, bxA_len, bxA_len]; exact Nat.le_refl _)
    simp [go_sem, hc1, bl, e1, bs, putA_len, hts]
    exact h
theorem order2_lt {d : Array α} {a b s : Nat} (ha : a < n) (hb : b < n) : (order2 lt d a b s).1 < n ∧ (order2 lt d a b s).2.1 < n ∧ (order2 lt d a b s).2.2 ≤ s + 1 := by
  unfold order2; split <;> simp <;> omega
theorem k142 (so : SO val lt cv) (hid : id < H.length) (hb : bar ≤ H.length) (hn : n < 1000000) {a b c s : Nat} (ha : a < n) (hbn : b < n) (hcn : c < n) (hs : s < 900000) {d : Array α} (hd : d.size = n)
    (h : Q (.int .i64 ((median lt d a b c s).1 : Nat)) (putA val id ver ex (bxA H .i64 ((median lt d a b c s).2 : Nat)) d)) :
    WpCall E false base bar 142 [.vec id ver 0 n 1, .int .i64 (a : Int), .int .i64 (b : Int), .int .i64 (c : Int), .ptr H.length 0 0, .fn cv [] []] (putA val id ver ex (bxA H .i64 (s : Nat)) d) Q := by
  unfold median at h
  simp only at h
  have hts : ∀ x : Int, (putA val id ver ex (bxA H .i64 x) d).take (bxA H .i64 (s : Nat)).length = putA val id ver ex (bxA H .i64 x) d := fun x => List.take_of_length_le (by rw [putA_len, bxA_len, bxA_len]; exact Nat.le_refl _)
  rw [call142]
  simp [go_sem, WpFun, c142]
  refine k144 so hid hb hn ha hbn (by omega) hd ?_
  have l1 := order2_lt (lt := lt) (d := d) (s := s) ha hbn
  generalize order2 lt d a b s = r1 at *
  obtain ⟨a1, b1, s1⟩ := r1
  simp only at l1 h
  simp [go_sem]
  refine k144 so hid hb hn l1.2.1 hcn (by omega) hd ?_
  have l2 := order2_lt (lt := lt) (d := d) (s := s1) l1.2.1 hcn
  generalize order2 lt d b1 c s1 = r2 at *
  obtain ⟨a2, b2, s2⟩ := r2
  simp only at l2 h
  simp [go_sem]
  refine k144 so hid hb hn l1.1 l2.1 (by omega) hd ?_
  generalize order2 lt d a1 a2 s2 = r3 at *
  obtain ⟨a3, b3, s3⟩ := r3
  simp only at h
  simp [go_sem, putA_len, hts]
  exact h
theorem k141 (so : SO val lt cv) (hid : id < H.length) (hb : bar ≤ H.length) (hn : n < 1000000) {a s : Nat} (ha1 : 1 ≤ a) (ha : a + 1 < n) (hs : s < 900000) {d : Array α} (hd : d.size = n)
    (h : Q (.int .i64 ((medianAdjacent lt d a s).1 : Nat)) (putA val id ver ex (bxA H .i64 ((medianAdjacent lt d a s).2 : Nat)) d)) :
    WpCall E false base bar 141 [.vec id ver 0 n 1, .int .i64 (a : Int), .ptr H.length 0 0, .fn cv [] []] (putA val id ver ex (bxA H .i64 (s : Nat)) d) Q := by
  unfold medianAdjacent at h
  have hts : ∀ x : Int, (putA val id ver ex (bxA H .i64 x) d).take (bxA H .i64 (s : Nat)).length = putA val id ver ex (bxA H .i64 x) d := fun x => List.take_of_length_le (by rw [putA_len, bxA_len, bxA_len]; exact Nat.le_refl _)
  have e0 : IntKind.i64.wrap ((a : Int) - 1) = ((a - 1 : Nat) : Int) := by rw [w64 (by omega)]; omega
  obtain ⟨a2, ha2⟩ : ∃ x, x = a + 1 := ⟨_, rfl⟩
  have e1 : IntKind.i64.wrap ((a : Int) + 1) = (a2 : Int) := by rw [w64 (by omega)]; omega
  rw [← ha2] at h
  rw [call141]
  simp [go_sem, WpFun, c141, e0, e1]
  refine k142 so hid hb hn (by omega) (by omega) (by omega) hs hd ?_
  simp [go_sem, putA_len, hts]
  exact h
def hintC : Hint → Int
  | .unknown => 0
  | .increasing => 1
  | .decreasing => 2
theorem medAdj_lt {d : Array α} {a s : Nat} (h : a + 1 < n) : (medianAdjacent lt d a s).1 < n ∧ (medianAdjacent lt d a s).2 ≤ s + 3 := by
  constructor
  · rcases medianAdjacent_mem lt d a s with e | e | e <;> rw [e] <;> omega
  · unfold medianAdjacent median
    have l1 := order2_lt (lt := lt) (d := d) (s := s) (a := a - 1) (b := a) (n := n) (by omega) (by omega)
    simp only
    have l2 := order2_lt (lt := lt) (d := d) (s := (order2 lt d (a - 1) a s).2.2) (a := (order2 lt d (a - 1) a s).2.1) (b := a + 1) (n := n) (by omega) (by omega)
    have l3 := order2_lt (lt := lt) (d := d) (s := (order2 lt d (order2 lt d (a - 1) a s).2.1 (a + 1) (order2 lt d (a - 1) a s).2.2).2.2) (a := (order2 lt d (a - 1) a s).1) (b := (order2 lt d (order2 lt d (a - 1) a s).2.1 (a + 1) (order2 lt d (a - 1) a s).2.2).1) (n := n) (by omega) (by omega)
    omega
theorem k130 (so : SO val lt cv) (hid : id < H.length) (hb : bar ≤ H.length) (hn : n < 1000000) {a b : Nat} (hab : a + 12 < b) (hbn : b ≤ n) {d : Array α} (hd : d.size = n)
    (h : Q (.tup [.int .i64 ((choosePivot lt d a b).1 : Nat), .int .i64 (hintC (choosePivot lt d a b).2)]) (putA val id ver ex H d)) :
    WpCall E false base bar 130 [.vec id ver 0 n 1, .int .i64 (a : Int), .int .i64 (b : Int), .fn cv [] []] (putA val id ver ex H d) Q := by
  obtain ⟨l, hl⟩ : ∃ x, x = b - a := ⟨_, rfl⟩
  obtain ⟨q, hq⟩ : ∃ x, x = l / 4 := ⟨_, rfl⟩
  obtain ⟨i, hi⟩ : ∃ x, x = a + q * 1 := ⟨_, rfl⟩
  obtain ⟨j, hj⟩ : ∃ x, x = a + q * 2 := ⟨_, rfl⟩
  obtain ⟨k, hk⟩ : ∃ x, x = a + q * 3 := ⟨_, rfl⟩
  have e1 : IntKind.i64.wrap ((b : Int) - (a : Int)) = (l : Int) := by rw [w64 (by omega)]; omega
  have e2 := quoN (x := l) (y := 4) (by omega) (by omega)
  rw [← hq] at e2
  have e3 := w64 (x := (q : Int)) (by omega)
  have e4 := w64 (x := (q : Int) * 2) (by omega)
  have e5 := w64 (x := (q : Int) * 3) (by omega)
  have f1 : IntKind.i64.wrap ((a : Int) + (q : Int)) = (i : Int) := by rw [w64 (by omega)]; omega
  have f2 : IntKind.i64.wrap ((a : Int) + (q : Int) * 2) = (j : Int) := by rw [w64 (by omega)]; omega
  have f3 : IntKind.i64.wrap ((a : Int) + (q : Int) * 3) = (k : Int) := by rw [w64 (by omega)]; omega
  have l8 : (8 : Int) ≤ (l : Int) := by omega
  have hm : ∀ s, (putA val id ver ex (bxA H .i64 s) d).take H.length = putA val id ver ex H d := fun s => putA_take hid
  have happ : putA val id ver ex H d ++ [.row 0 [.int .i64 0] 0 true] = putA val id ver ex (bxA H .i64 ((0 : Nat) : Int)) d := putA_app hid
  have e2' : abin .quo (.int .i64 (l : Int)) (.int .i64 4) = some (.int .i64 (q : Int)) := e2
  have bl := fun s => bx_ld (val := val) (ver := ver) (ex := ex) (d := d) (k := .i64) (s := s) (z := 1) hid
  unfold choosePivot at h
  simp only at h
  rw [← hl, ← hq, ← hi, ← hj, ← hk, if_pos (show l ≥ 8 by omega)] at h
  -- the end
  have fin : ∀ (r : Nat × Nat), Q (.tup [.int .i64 (r.1 : Nat), .int .i64 (hintC (if r.2 = 0 then .increasing else if r.2 = 12 then .decreasing else .unknown))]) (putA val id ver ex H d) →
      (r.2 = 0 → Q (.tup [.int .i64 (r.1 : Nat), .int .i64 1]) (putA val id ver ex H d)) ∧ (¬ r.2 = 0 → r.2 = 12 → Q (.tup [.int .i64 (r.1 : Nat), .int .i64 2]) (putA val id ver ex H d)) ∧
      (¬ r.2 = 0 → ¬ r.2 = 12 → Q (.tup [.int .i64 (r.1 : Nat), .int .i64 0]) (putA val id ver ex H d)) := fun r h =>
    ⟨fun e => by rw [if_pos e] at h; exact h, fun e1 e2 => by rw [if_neg e1, if_pos e2] at h; exact h, fun e1 e2 => by rw [if_neg e1, if_neg e2] at h; exact h⟩
  rw [call130]
  simp [go_sem, WpFun, c130, e1, e2', e3, e4, e5, f1, f2, f3, l8, happ, putA_len]
  by_cases h50 : l ≥ 50
  · have h501 : (50 : Int) ≤ (l : Int) := by omega
    rw [if_pos h50] at h
    simp [go_sem, h501]
    refine k141 (s := 0) so hid hb hn (by omega) (by omega) (by omega) hd ?_
    have m1 := medAdj_lt (lt := lt) (d := d) (a := i) (s := 0) (n := n) (by omega)
    generalize medianAdjacent lt d i 0 = r1 at *
    simp [go_sem]
    refine k141 so hid hb hn (by omega) (by omega) (by omega) hd ?_
    have m2 := medAdj_lt (lt := lt) (d := d) (a := j) (s := r1.2) (n := n) (by omega)
    generalize medianAdjacent lt d j r1.2 = r2 at *
    simp [go_sem]
    refine k141 so hid hb hn (by omega) (by omega) (by omega) hd ?_
    have m3 := medAdj_lt (lt := lt) (d := d) (a := k) (s := r2.2) (n := n) (by omega)
    generalize medianAdjacent lt d k r2.2 = r3 at *
    simp [go_sem]
    refine k142 so hid hb hn m1.1 m2.1 m3.1 (by omega) hd ?_
    generalize median lt d r1.1 r2.1 r3.1 r3.2 = r at *
    obtain ⟨g1, g2, g3⟩ := fin r h
    simp [go_sem, bl]
    by_cases z0 : r.2 = 0
    · have := g1 z0
      simp [z0, go_sem, hm]
      exact this
    · have z1 : ¬ ((r.2 : Nat) : Int) = 0 := by omega
      by_cases z2 : r.2 = 12
      · have := g2 z0 z2
        simp [z2, go_sem, hm]
        exact this
      · have z3 : ¬ ((r.2 : Nat) : Int) = 12 := by omega
        have := g3 z0 z2
        simp [z0, z3, go_sem, hm]
        exact this
  · have h501 : ¬ (50 : Int) ≤ (l : Int) := by omega
    rw [if_neg h50] at h
    simp [go_sem, h501]
    refine k142 (s := 0) so hid hb hn (by omega) (by omega) (by omega) (by omega) hd ?_
    generalize median lt d i j k 0 = r at *
    obtain ⟨g1, g2, g3⟩ := fin r h
    simp [go_sem, bl]
    by_cases z0 : r.2 = 0
    · have := g1 z0
      simp [z0, go_sem, hm]
      exact this
    · have z1 : ¬ ((r.2 : Nat) : Int) = 0 := by omega
      by_cases z2 : r.2 = 12
      · have := g2 z0 z2
        simp [z2, go_sem, hm]
        exact this
      · have z3 : ¬ ((r.2 : Nat) : Int) = 12 := by omega
        have := g3 z0 z2
        simp [z0, z3, go_sem, hm]
        exact this
end Go.Proofs.YtbkhffakhggdaaaDoor.Code
end
section
namespace Go.Proofs.YtbkhffakhggdaaaDoor.Code
open Go Go.Ab Go.Sort
variable {p : Bool} {base bar : Nat} {H : Heap} {Q : AV → Heap → Prop} {K : AV → Heap → List Nat → Prop}
variable {α : Type} [Inhabited α] {val : α → AV} {lt : α → α → Bool} {cv : FuncId} {id ver n : Nat} {ex : Bool}
/-! 137, 136, 108, 126: words of 64 bits -/
def s13 (x : Nat) : Nat := x * 8192 % 18446744073709551616
def r7 (x : Nat) : Nat := x / 128
def s17 (x : Nat) : Nat := x * 131072 % 18446744073709551616
def xw (x y : Nat) : Nat := x ^^^ y
def aw (x y : Nat) : Nat := x &&& y
def d256 (x : Nat) : Nat := x / 256
theorem wrapU {x : Nat} : IntKind.u64.wrap (x : Int) = ((x % 18446744073709551616 : Nat) : Int) := by
  simp [IntKind.wrap, IntKind.bits, IntKind.signed]
theorem wrapUs {x : Nat} (h : x < 18446744073709551616) : IntKind.u64.wrap (x : Int) = (x : Int) := by rw [wrapU, Nat.mod_eq_of_lt h]
theorem shl13 {x : Nat} : abin .shl (.int .u64 (x : Int)) (.int .u64 13) = some (.int .u64 (s13 x : Nat)) := by
  simp only [abin]
  rw [if_neg (by omega), show min (13 : Int).toNat IntKind.u64.bits = 13 from rfl, show (x : Int) * 2 ^ 13 = ((x * 8192 : Nat) : Int) by simp, wrapU]; rfl
theorem shl17 {x : Nat} : abin .shl (.int .u64 (x : Int)) (.int .u64 17) = some (.int .u64 (s17 x : Nat)) := by
  simp only [abin]
  rw [if_neg (by omega), show min (17 : Int).toNat IntKind.u64.bits = 17 from rfl, show (x : Int) * 2 ^ 17 = ((x * 131072 : Nat) : Int) by simp, wrapU]; rfl
theorem fdivN {x k : Nat} : (x : Int).fdiv ((k : Nat) : Int) = ((x / k : Nat) : Int) := by
  rw [Int.fdiv_eq_ediv_of_nonneg _ (by omega)]; rfl
theorem shr7 {x : Nat} : abin .shr (.int .u64 (x : Int)) (.int .u64 7) = some (.int .u64 (r7 x : Nat)) := by
  simp only [abin]
  rw [if_neg (by omega), show min (7 : Int).toNat IntKind.u64.bits = 7 from rfl, show (2 : Int) ^ 7 = ((128 : Nat) : Int) by decide, fdivN]; rfl
theorem shr8 {x : Nat} : abin .shr (.int .u64 (x : Int)) (.int .u64 8) = some (.int .u64 (d256 x : Nat)) := by
  simp only [abin]
  rw [if_neg (by omega), show min (8 : Int).toNat IntKind.u64.bits = 8 from rfl, show (2 : Int) ^ 8 = ((256 : Nat) : Int) by decide, fdivN]; rfl
theorem xorU {x y : Nat} (hx : x < 18446744073709551616) (hy : y < 18446744073709551616) : abin .xor (.int .u64 (x : Int)) (.int .u64 (y : Int)) = some (.int .u64 (xw x y : Nat)) := by
  have hl : xw x y < 18446744073709551616 := Nat.xor_lt_two_pow (n := 64) hx hy
  have e : (BitVec.ofInt 64 (x : Int) ^^^ BitVec.ofInt 64 (y : Int)).toNat = xw x y := by
    rw [BitVec.toNat_xor, ofInt_toNat (w := 64) hx, ofInt_toNat (w := 64) hy]; rfl
  simp only [abin, binInt, if_true]
  rw [show IntKind.u64.bits = 64 from rfl, e, wrapUs hl]
theorem andU {x y : Nat} (hx : x < 18446744073709551616) (hy : y < 18446744073709551616) : abin .and (.int .u64 (x : Int)) (.int .u64 (y : Int)) = some (.int .u64 (aw x y : Nat)) := by
  have hl : aw x y < 18446744073709551616 := Nat.lt_of_le_of_lt Nat.and_le_left hx
  have e : (BitVec.ofInt 64 (x : Int) &&& BitVec.ofInt 64 (y : Int)).toNat = aw x y := by
    rw [BitVec.toNat_and, ofInt_toNat (w := 64) hx, ofInt_toNat (w := 64) hy]; rfl
  simp only [abin, binInt, if_true]
  rw [show IntKind.u64.bits = 64 from rfl, e, wrapUs hl]
def xn1 (x : Nat) : Nat := xw x (s13 x)
def xn2 (x : Nat) : Nat := xw (xn1 x) (r7 (xn1 x))
def xn3 (x : Nat) : Nat := xw (xn2 x) (s17 (xn2 x))
theorem xn3_eq {r : UInt64} : (xorNext r).toNat = xn3 r.toNat := by
  simp [xorNext, xn3, xn2, xn1, xw, s13, r7, s17, UInt64.toNat_xor, UInt64.toNat_shiftLeft, UInt64.toNat_shiftRight, Nat.shiftLeft_eq, Nat.shiftRight_eq_div_pow]
theorem s13_lt {x : Nat} : s13 x < 18446744073709551616 := Nat.mod_lt _ (by decide)
theorem s17_lt {x : Nat} : s17 x < 18446744073709551616 := Nat.mod_lt _ (by decide)
theorem xn1_lt {x : Nat} (h : x < 18446744073709551616) : xn1 x < 18446744073709551616 := Nat.xor_lt_two_pow (n := 64) h s13_lt
theorem r7_lt {x : Nat} (h : x < 18446744073709551616) : r7 x < 18446744073709551616 := Nat.lt_of_le_of_lt (Nat.div_le_self _ _) h
theorem xn2_lt {x : Nat} (h : x < 18446744073709551616) : xn2 x < 18446744073709551616 := Nat.xor_lt_two_pow (n := 64) (xn1_lt h) (r7_lt (xn1_lt h))
theorem k137 (hid : id < H.length) (hb : bar ≤ H.length) {x : Nat} (hx : x < 18446744073709551616) {d : Array α}
    (h : Q (.int .u64 (xn3 x : Nat)) (putA val id ver ex (bxA H .u64 (xn3 x : Nat)) d)) : WpCall E false base bar 137 [.ptr H.length 0 0] (putA val id ver ex (bxA H .u64 (x : Nat)) d) Q := by
  have hts : ∀ y : Int, (putA val id ver ex (bxA H .u64 y) d).take (bxA H .u64 (x : Nat)).length = putA val id ver ex (bxA H .u64 y) d := fun y => List.take_of_length_le (by rw [putA_len, bxA_len, bxA_len]; exact Nat.le_refl _)
  have bl := fun s => bx_ld (val := val) (ver := ver) (ex := ex) (d := d) (k := .u64) (s := s) (z := 1) hid
  have bs := fun base K s s' => bx_st (val := val) (ver := ver) (ex := ex) (d := d) (k := .u64) (s := s) (s' := s') (base := base) (K := K) hid hb
  have o1 : abin .xor (.int .u64 (x : Int)) (.int .u64 (s13 x : Nat)) = some (.int .u64 (xn1 x : Nat)) := xorU hx s13_lt
  have o2 : abin .xor (.int .u64 (xn1 x : Nat)) (.int .u64 (r7 (xn1 x) : Nat)) = some (.int .u64 (xn2 x : Nat)) := xorU (xn1_lt hx) (r7_lt (xn1_lt hx))
  have o3 : abin .xor (.int .u64 (xn2 x : Nat)) (.int .u64 (s17 (xn2 x) : Nat)) = some (.int .u64 (xn3 x : Nat)) := xorU (xn2_lt hx) s17_lt
  rw [call137]
  simp [go_sem, WpFun, c137, bl, bs, shl13, shr7, shl17, o1, o2, o3, putA_len, hts]
  exact h
theorem xn3_lt {x : Nat} (h : x < 18446744073709551616) : xn3 x < 18446744073709551616 := Nat.xor_lt_two_pow (n := 64) (xn2_lt h) s17_lt
def tab8 (y : Nat) : Bool := match c126_b0[y]? with
  | some b => Nat.beq b.toNat (bitsLen y)
  | none => false
theorem tab8_all : (List.range 256).all tab8 = true := by kernel_rfl
theorem tab8_get {y : Nat} (hy : y < 256) : ∃ b, c126_b0[y]? = some b ∧ b.toNat = bitsLen y := by
  have h := List.all_eq_true.1 tab8_all y (List.mem_range.2 hy)
  unfold tab8 at h
  split at h
  · rename_i b e; exact ⟨b, e, Nat.eq_of_beq_eq_true h⟩
  · cases h
theorem bl256 {x : Nat} (h : 256 ≤ x) : bitsLen x = 8 + bitsLen (d256 x) := by
  have h1 := bitsLen_le_iff (d256 x) (bitsLen x - 8)
  have h2 := bitsLen_le_iff x (8 + bitsLen (d256 x))
  have h3 := (bitsLen_le_iff (d256 x) (bitsLen (d256 x))).1 (Nat.le_refl _)
  have h4 := (bitsLen_le_iff x (bitsLen x)).1 (Nat.le_refl _)
  have h5 : bitsLen 256 ≤ bitsLen x := bitsLen_mono h
  have h6 : bitsLen 256 = 9 := by decide
  have h7 : 2 ^ bitsLen x = 2 ^ (bitsLen x - 8) * 256 := by
    rw [show bitsLen x = (bitsLen x - 8) + 8 by omega, Nat.pow_add]
    simp
  have h8 : 2 ^ (8 + bitsLen (d256 x)) = 256 * 2 ^ bitsLen (d256 x) := by rw [Nat.pow_add]
  have h9 : bitsLen (d256 x) ≤ bitsLen x - 8 := h1.2 (by unfold d256; exact Nat.div_lt_of_lt_mul (by rw [Nat.mul_comm, ← h7]; exact h4))
  have h10 : bitsLen x ≤ 8 + bitsLen (d256 x) := h2.2 (by
    rw [h8]
    have : x < 256 * (x / 256 + 1) := by omega
    exact Nat.lt_of_lt_of_le this (Nat.mul_le_mul_left _ h3))
  omega
theorem k126 {x : Nat} (hx : x < 60000) (h : Q (.int .i64 (bitsLen x : Nat)) H) : WpCall E p base bar 126 [.int .u64 (x : Int)] H Q := by
  have h1 : ¬ (4294967296 : Int) ≤ (x : Int) := by omega
  have h2 : ¬ (65536 : Int) ≤ (x : Int) := by omega
  have hbl : ∀ y, y < 256 → bitsLen y < 100 := fun y hy => by
    have := (bitsLen_le_iff y 8).2 (by simpa using hy); omega
  rw [call126]
  by_cases h8 : 256 ≤ x
  · have h3 : (256 : Int) ≤ (x : Int) := by omega
    have hd : d256 x < 256 := by unfold d256; omega
    have hw : IntKind.u8.wrap ((d256 x : Nat) : Int) = (d256 x : Nat) := Go.IntWalk.u8_in _ (by omega)
    obtain ⟨b, hb1, hb2⟩ := tab8_get hd
    have hb3 := hbl _ hd
    have hw2 : IntKind.i64.wrap ((b.toNat : Nat) : Int) = (b.toNat : Nat) := w64 (by omega)
    have hw3 : IntKind.i64.wrap (8 + ((b.toNat : Nat) : Int)) = (bitsLen x : Nat) := by rw [w64 (by omega), bl256 h8]; omega
    have hw8 : IntKind.i64.wrap 8 = 8 := w64 (by omega)
    simp [go_sem, WpFun, c126, h1, h2, h3, shr8, hw, aop, Opd.ev, AV.asNat, hb1, hw2, hw8, hw3]
    exact h
  · have h3 : ¬ (256 : Int) ≤ (x : Int) := by omega
    have hw : IntKind.u8.wrap (x : Int) = (x : Nat) := Go.IntWalk.u8_in _ (by omega)
    obtain ⟨b, hb1, hb2⟩ := tab8_get (show x < 256 by omega)
    have hb3 := hbl x (by omega)
    have hw2 : IntKind.i64.wrap ((b.toNat : Nat) : Int) = (b.toNat : Nat) := w64 (by omega)
    have hw3 : IntKind.i64.wrap (0 + ((b.toNat : Nat) : Int)) = (bitsLen x : Nat) := by rw [w64 (by omega)]; omega
    rw [Int.zero_add] at hw3
    simp [go_sem, WpFun, c126, h1, h2, h3, hw, aop, Opd.ev, AV.asNat, hb1, hw2, hw3]
    rw [hb2]
    exact h
theorem k108 {x : Nat} (hx : x < 60000) (h : Q (.int .i64 (bitsLen x : Nat)) H) : WpCall E p base bar 108 [.int .u64 (x : Int)] H Q := by
  rw [call108]
  simp [go_sem, WpFun, c108]
  refine k126 hx ?_
  simp [go_sem]
  exact h
/-- the next power of two -/
def mdl (x : Nat) : Nat := 1 <<< bitsLen x
theorem k136 {x : Nat} (hx : x < 60000) (h : Q (.int .u64 (mdl x : Nat)) H) : WpCall E p base bar 136 [.int .i64 (x : Int)] H Q := by
  have hw : IntKind.u64.wrap (x : Int) = (x : Int) := wrapUs (by omega)
  have hb : bitsLen x ≤ 16 := (bitsLen_le_iff x 16).2 (by omega)
  have hs : abin .shl (.int .u64 1) (.int .i64 (bitsLen x : Nat)) = some (.int .u64 (mdl x : Nat)) := by
    have hp : (2 : Nat) ^ bitsLen x ≤ 2 ^ 16 := Nat.pow_le_pow_right (by decide) hb
    simp only [abin]
    rw [if_neg (by omega), Int.toNat_natCast, show min (bitsLen x) IntKind.u64.bits = bitsLen x from Nat.min_eq_left (by simp [IntKind.bits]; omega), show (1 : Int) * 2 ^ bitsLen x = ((2 ^ bitsLen x : Nat) : Int) by simp, wrapUs (by omega)]
    simp [mdl, Nat.shiftLeft_eq]
  rw [call136]
  simp [go_sem, WpFun, c136, hw]
  refine k108 hx ?_
  simp [go_sem, hs]
  exact h
end Go.Proofs.YtbkhffakhggdaaaDoor.Code
end
section
namespace Go.Proofs.YtbkhffakhggdaaaDoor.Code
open Go Go.Ab Go.Sort
variable {p : Bool} {base bar : Nat} {H : Heap} {Q : AV → Heap → Prop} {K : AV → Heap → List Nat → Prop}
variable {α : Type} [Inhabited α] {val : α → AV} {lt : α → α → Bool} {cv : FuncId} {id ver n : Nat} {ex : Bool}
/-! 129: patterns broken -/
def brk (a l : Nat) : Nat → UInt64 × Array α → Nat → UInt64 × Array α
  | 0, st, _ => st
  | c + 1, st, idx => brk a l c (breakStep a l (mdl l) st idx) (idx + 1)
theorem l129_0 (so : SO val lt cv) (hid : id < H.length) (hb : bar ≤ id) (hn : n < 60000) {a l q e : Nat} (hl8 : 8 ≤ l) (hln : a + l ≤ n) (hq : q = l / 4) (he : e = a + q * 2 + 1) {R : PQ} : ∀ (c : Nat) (idx : Nat) (st : UInt64 × Array α), st.2.size = n → idx + c = e + 1 → c ≤ 3 →
    (∀ fr x, R (.exit 0) fr (putA val id ver ex (bxA H .u64 x) (brk a l c st idx).2)) →
    Wp E base bar (.loop c129_l0) [(0, .vec id ver 0 n 1), (1, .int .i64 (a : Int)), (8, .int .i64 (l : Int)), (9, .ptr H.length 0 0), (10, .int .u64 (mdl l : Nat)), (11, .int .i64 (idx : Int))] (putA val id ver ex (bxA H .u64 (st.1.toNat : Nat)) st.2) R := by
  have e2 : abin .quo (.int .i64 (l : Int)) (.int .i64 4) = some (.int .i64 (q : Int)) := by
    have := quoN (x := l) (y := 4) (by omega) (by omega)
    rw [← hq] at this; exact this
  have e3 := w64 (x := (q : Int) * 2) (by omega)
  have e4 : IntKind.i64.wrap ((a : Int) + (q : Int) * 2) = ((a + q * 2 : Nat) : Int) := by rw [w64 (by omega)]; omega
  obtain ⟨e', he'⟩ : ∃ x, x = a + q * 2 := ⟨_, rfl⟩
  rw [← he'] at e4
  have e5 : IntKind.i64.wrap ((e' : Int) + 1) = (e : Int) := by rw [w64 (by omega)]; omega
  have hm2 : mdl l ≤ 2 * l := by
    have := two_pow_bitsLen_le (n := l) (by omega)
    simpa [mdl, Nat.shiftLeft_eq] using this
  have hm1 : 1 ≤ mdl l := by
    have : 0 < 2 ^ bitsLen l := Nat.pow_pos (by decide)
    simp only [mdl, Nat.shiftLeft_eq, Nat.one_mul]
    exact this
  have e6 : IntKind.u64.wrap ((mdl l : Nat) - 1 : Int) = ((mdl l - 1 : Nat) : Int) := by
    rw [show ((mdl l : Nat) : Int) - 1 = ((mdl l - 1 : Nat) : Int) by omega, wrapUs (by omega)]
  intro c
  induction c with
  | zero =>
    intro idx st hst hi _ h
    have hlt : ¬ (idx : Int) ≤ (e : Int) := by omega
    rw [wp_round c129_l0.eq_1]
    simp [go_sem, e2, e3, e4, e5, hlt]
    exact h _ _
  | succ c ih =>
    intro idx st hst hi hc h
    obtain ⟨r, d⟩ := st
    simp only at hst h ⊢
    have hlt : (idx : Int) ≤ (e : Int) := by omega
    have hr64 : r.toNat < 18446744073709551616 := r.toNat_lt
    have hx3 : (xorNext r).toNat = xn3 r.toNat := xn3_eq
    have hx3l := xn3_lt hr64
    have hau := andU (x := xn3 r.toNat) (y := mdl l - 1) hx3l (by omega)
    have hal : aw (xn3 r.toNat) (mdl l - 1) ≤ mdl l - 1 := Nat.and_le_right
    obtain ⟨o, ho⟩ : ∃ o, o = aw (xn3 r.toNat) (mdl l - 1) := ⟨_, rfl⟩
    rw [← ho] at hau hal
    have e7 := w64 (x := (o : Int)) (by omega)
    obtain ⟨o2, ho2⟩ : ∃ o2, o2 = if o ≥ l then o - l else o := ⟨_, rfl⟩
    have ho2l : o2 < l := by rw [ho2]; split <;> omega
    obtain ⟨xo, hxo⟩ : ∃ x, x = a + o2 := ⟨_, rfl⟩
    have hbs : breakStep a l (mdl l) (r, d) idx = (xorNext r, swp d idx xo) := by
      unfold breakStep
      simp only
      rw [hxo, ho2, ho, hx3]
      rfl
    have next := ih (idx + 1) (xorNext r, swp d idx xo) (by simp only [swp_size]; exact hst) (by omega) (by omega) (by
      intro fr x
      have := h fr x
      unfold brk at this
      rw [hbs] at this
      exact this)
    simp only [hx3] at next
    have hid2 : ∀ x : Int, id < (bxA H .u64 x).length := fun x => by rw [bxA_len]; omega
    have b0 : idx < n := by omega
    have b1 : xo < n := by omega
    have ld0 := fun x : Int => ldA (H := bxA H .u64 x) (val := val) (ver := ver) (ex := ex) (s := 1) (d := d) (i := idx) (hid2 x) (by omega)
    have ld1 := fun x : Int => ldA (H := bxA H .u64 x) (val := val) (ver := ver) (ex := ex) (s := 1) (d := d) (i := xo) (hid2 x) (by omega)
    obtain ⟨st1, st2⟩ := stS (H := bxA H .u64 (xn3 r.toNat : Nat)) (ver := ver) (ex := ex) (d := d) (i := idx) (j := xo) so (hid2 _) (by omega) (by omega) hb
    have e8 : IntKind.i64.wrap ((a : Int) + (o2 : Int)) = (xo : Int) := by rw [w64 (by omega)]; omega
    have e9 := i64_suc (show idx < 1000000 by omega)
    rw [wp_round c129_l0.eq_1]
    simp [go_sem, e2, e3, e4, e5, hlt]
    refine k137 hid (by omega) hr64 ?_
    by_cases hol : o ≥ l
    · have hol1 : (l : Int) ≤ (o : Int) := by omega
      have e10 : IntKind.i64.wrap ((o : Int) - (l : Int)) = (o2 : Int) := by rw [w64 (by omega), ho2, if_pos hol]; omega
      simp [go_sem, e6, hau, e7, hol1, e10, e8, b0, b1, ld0, ld1, st1, st2, e9]
      exact next
    · have hol1 : ¬ (l : Int) ≤ (o : Int) := by omega
      have hoo : o2 = o := by rw [ho2, if_neg hol]
      rw [hoo] at e8
      simp [go_sem, e6, hau, e7, hol1, e8, b0, b1, ld0, ld1, st1, st2, e9]
      exact next
theorem brk_eq {a b : Nat} {d : Array α} (h : b - a ≥ 8) : breakPatterns d a b = (brk a (b - a) 3 (UInt64.ofNat (b - a), d) (a + (b - a) / 4 * 2 - 1)).2 := by
  unfold breakPatterns
  simp only
  rw [if_pos h]
  rfl
theorem k129 (so : SO val lt cv) (hid : id < H.length) (hb : bar ≤ id) (hn : n < 60000) {a b : Nat} (hab : a + 12 < b) (hbn : b ≤ n) {d : Array α} (hd : d.size = n)
    (h : Q (.tup []) (putA val id ver ex H (breakPatterns d a b))) : WpCall E false base bar 129 [.vec id ver 0 n 1, .int .i64 (a : Int), .int .i64 (b : Int), .fn cv [] []] (putA val id ver ex H d) Q := by
  rw [brk_eq (by omega)] at h
  obtain ⟨l, hl⟩ : ∃ x, x = b - a := ⟨_, rfl⟩
  obtain ⟨q, hq⟩ : ∃ x, x = l / 4 := ⟨_, rfl⟩
  obtain ⟨e', he'⟩ : ∃ x, x = a + q * 2 := ⟨_, rfl⟩
  obtain ⟨i0, hi0⟩ : ∃ x, x = e' - 1 := ⟨_, rfl⟩
  rw [← hl, ← hq, ← he', ← hi0] at h
  have e1 : IntKind.i64.wrap ((b : Int) - (a : Int)) = (l : Int) := by rw [w64 (by omega)]; omega
  have e2 : abin .quo (.int .i64 (l : Int)) (.int .i64 4) = some (.int .i64 (q : Int)) := by
    have := quoN (x := l) (y := 4) (by omega) (by omega)
    rw [← hq] at this; exact this
  have e3 := w64 (x := (q : Int) * 2) (by omega)
  have e4 : IntKind.i64.wrap ((a : Int) + (q : Int) * 2) = (e' : Int) := by rw [w64 (by omega)]; omega
  have e5 : IntKind.i64.wrap ((e' : Int) - 1) = (i0 : Int) := by rw [w64 (by omega)]; omega
  have e6 : IntKind.u64.wrap (l : Int) = (l : Int) := wrapUs (by omega)
  have l8 : (8 : Int) ≤ (l : Int) := by omega
  have happ : putA val id ver ex H d ++ [.row 0 [.int .u64 0] 0 true] = putA val id ver ex (bxA H .u64 0) d := putA_app hid
  have bs := fun base K s s' => bx_st (val := val) (ver := ver) (ex := ex) (d := d) (k := .u64) (s := s) (s' := s') (base := base) (K := K) hid (show bar ≤ H.length by omega)
  have hm : ∀ s (d : Array α), (putA val id ver ex (bxA H .u64 s) d).take H.length = putA val id ver ex H d := fun s d => putA_take hid
  rw [call129]
  simp [go_sem, WpFun, c129, e1, l8, e6, happ, putA_len, bs]
  refine k136 (by omega) ?_
  simp [go_sem, e2, e3, e4, e5]
  have hof : (UInt64.ofNat l).toNat = l := by
    rw [UInt64.toNat_ofNat', Nat.mod_eq_of_lt (by omega)]
  have main := l129_0 (base := H.length) (bar := bar) (ver := ver) (ex := ex) (val := val) so hid hb hn (a := a) (l := l) (q := q) (e := e' + 1) (by omega) (by omega) hq (by omega) (R := exitWp 0 (retWp 0 H.length bar [] Q)) 3 i0 (UInt64.ofNat l, d) hd (by omega) (by omega) (fun fr x => by
    simp [go_sem, hm]
    exact h)
  simp only [hof] at main
  exact main
end Go.Proofs.YtbkhffakhggdaaaDoor.Code
end
section
namespace Go.Proofs.YtbkhffakhggdaaaDoor.Code
open Go Go.Ab Go.Sort
variable {p : Bool} {base bar : Nat} {H : Heap} {Q : AV → Heap → Prop} {K : AV → Heap → List Nat → Prop}
variable {α : Type} [Inhabited α] {val : α → AV} {lt : α → α → Bool} {cv : FuncId} {id ver n : Nat} {ex : Bool}
/-! sizes stay -/
theorem insOuter_size {a b : Nat} : ∀ (k i : Nat) (d : Array α), b ≤ i + k → (insOuter lt a b i d).size = d.size := by
  intro k
  induction k with
  | zero => intro i d h; unfold insOuter; rw [if_neg (by omega)]
  | succ k ih =>
    intro i d h
    unfold insOuter
    split
    · rw [ih _ _ (by omega), insInner_size]
    · rfl
theorem heapPop_size {first : Nat} : ∀ (k : Nat) (d : Array α), (heapPop lt first k d).size = d.size
  | 0, d => rfl
  | k + 1, d => by unfold heapPop; rw [heapPop_size, siftDown_size k first k _ _ (by omega), Code.swp_size]
theorem reverseLoop_size : ∀ (k i j : Nat) (d : Array α), j ≤ i + k → (reverseLoop i j d).size = d.size := by
  intro k
  induction k with
  | zero => intro i j d h; unfold reverseLoop; rw [if_neg (by omega)]
  | succ k ih =>
    intro i j d h
    unfold reverseLoop
    split
    · rw [ih _ _ _ (by omega), Code.swp_size]
    · rfl
theorem partialIns_size {a b : Nat} : ∀ (s i : Nat) (d : Array α), (partialIns lt a b s i d).1.size = d.size
  | 0, i, d => rfl
  | s + 1, i, d => by
    unfold partialIns
    simp only
    split
    · rfl
    · split
      · rfl
      · rw [partialIns_size]
        split
        · rw [shiftUp_size b _ _ (by omega)]
          split
          · rw [shiftDown_size, Code.swp_size]
          · rw [Code.swp_size]
        · split
          · rw [shiftDown_size, Code.swp_size]
          · rw [Code.swp_size]
theorem brk_size {a l : Nat} : ∀ (c : Nat) (st : UInt64 × Array α) (i : Nat), (brk a l c st i).2.size = st.2.size
  | 0, _, _ => rfl
  | c + 1, st, i => by
    unfold brk
    rw [brk_size]
    unfold breakStep
    simp only [Code.swp_size]
theorem breakPatterns_size {a b : Nat} {d : Array α} : (breakPatterns d a b).size = d.size := by
  by_cases h : b - a ≥ 8
  · rw [brk_eq h, brk_size]
  · unfold breakPatterns; simp only; rw [if_neg h]
theorem partEqLoop_size {a : Nat} : ∀ (k i j : Nat) (d : Array α), j + 1 ≤ i + k → (partEqLoop lt a i j d).2.size = d.size ∧ i ≤ (partEqLoop lt a i j d).1 ∧ (partEqLoop lt a i j d).1 ≤ max i (j + 1) := by
  have hsc : ∀ (q : α → Bool) (d : Array α) (j k i : Nat), j + 1 ≤ i + k → scanUp q d j i ≤ max i (j + 1) := by
    intro q d j k
    induction k with
    | zero => intro i h; unfold scanUp; rw [if_neg (by simp; omega)]; omega
    | succ k ih =>
      intro i h
      unfold scanUp
      split
      · rename_i hc
        simp only [Bool.and_eq_true, decide_eq_true_eq] at hc
        have := ih (i + 1) (by omega)
        omega
      · omega
  intro k
  induction k with
  | zero =>
    intro i j d h
    rw [partEqLoop_eq]
    have h1 := scanUp_ge (fun x => !lt d[a]! x) d j i
    have h2 := scanDown_le (fun x => lt d[a]! x) d (scanUp (fun x => !lt d[a]! x) d j i) j
    have h3 := hsc (fun x => !lt d[a]! x) d j 0 i h
    rw [if_pos (by omega)]
    exact ⟨rfl, h1, h3⟩
  | succ k ih =>
    intro i j d h
    rw [partEqLoop_eq]
    have h1 := scanUp_ge (fun x => !lt d[a]! x) d j i
    have h2 := scanDown_le (fun x => lt d[a]! x) d (scanUp (fun x => !lt d[a]! x) d j i) j
    have h3 := hsc (fun x => !lt d[a]! x) d j (k + 1) i h
    split
    · exact ⟨rfl, h1, h3⟩
    · generalize scanUp (fun x => !lt d[a]! x) d j i = i2 at *
      generalize scanDown (fun x => lt d[a]! x) d i2 j = j2 at *
      have := ih (i2 + 1) (j2 - 1) (swp d i2 j2) (by omega)
      rw [Code.swp_size] at this
      refine ⟨this.1, by omega, by omega⟩
theorem partEq_ok {a b pv : Nat} {d : Array α} (hab : a + 1 < b) : (partitionEqual lt d a b pv).2.size = d.size ∧ a < (partitionEqual lt d a b pv).1 ∧ (partitionEqual lt d a b pv).1 ≤ b := by
  unfold partitionEqual
  have h := partEqLoop_size (lt := lt) (a := a) b (a + 1) (b - 1) (swp d a pv) (by omega)
  rw [Code.swp_size] at h
  omega
theorem part_ok (hS : SWO lt) {a b pv : Nat} {d : Array α} (h1 : a ≤ pv) (h2 : pv < b) (h3 : b ≤ d.size) : (Sort.partition lt d a b pv).2.2.size = d.size ∧ a ≤ (Sort.partition lt d a b pv).1 ∧ (Sort.partition lt d a b pv).1 < b := by
  obtain ⟨g1, g2, g3, _⟩ := partition_holds (lt := lt) hS d a b pv h1 h2 h3
  exact ⟨g3.1, g1, g2⟩
/-- the end of a round of pdqsort -/
def tailP (lt : α → α → Bool) (d3 : Array α) (a b limit : Nat) (wb wp : Bool) (pivot : Nat) : Array α :=
  if a > 0 && !lt d3[a - 1]! d3[pivot]! then
    match partitionEqual lt d3 a b pivot with
    | (mid, d4) => if _h : a < mid ∧ mid ≤ b then pdq lt d4 mid b limit wb wp else d4
  else
    match Sort.partition lt d3 a b pivot with
    | (mid, alreadyPartitioned, d4) =>
      if _h : a ≤ mid ∧ mid < b then
        if mid - a < b - mid then
          pdq lt (pdq lt d4 a mid limit true true) (mid + 1) b limit (decide (mid - a ≥ (b - a) / 8)) alreadyPartitioned
        else
          pdq lt (pdq lt d4 (mid + 1) b limit true true) a mid limit (decide (b - mid ≥ (b - a) / 8)) alreadyPartitioned
      else d4
theorem pdq_eq (d : Array α) (a b limit : Nat) (wb wp : Bool) : pdq lt d a b limit wb wp =
    if b - a ≤ 12 then insertionSort lt d a b else
    if limit = 0 then heapSort lt d a b else
    let d1 := if !wb then breakPatterns d a b else d
    let limit := if !wb then limit - 1 else limit
    let c := choosePivot lt d1 a b
    let d2 := if c.2 = .decreasing then reverseRange d1 a b else d1
    let pivot := if c.2 = .decreasing then (b - 1) - (c.1 - a) else c.1
    let hint := if c.2 = .decreasing then Hint.increasing else c.2
    let pi := if wb && wp && hint = .increasing then partialInsertionSort lt d2 a b else (d2, false)
    if pi.2 then pi.1 else tailP lt pi.1 a b limit wb wp pivot := by
  rw [pdq]; rfl
end Go.Proofs.YtbkhffakhggdaaaDoor.Code
end
section
namespace Go.Proofs.YtbkhffakhggdaaaDoor.Code
open Go Go.Ab Go.Sort
variable {p : Bool} {base bar : Nat} {H : Heap} {Q : AV → Heap → Prop} {K : AV → Heap → List Nat → Prop}
variable {α : Type} [Inhabited α] {val : α → AV} {lt : α → α → Bool} {cv : FuncId} {id ver n : Nat} {ex : Bool}
def h114_1 : ACode := (.reg [o 21 (.mv (.t 2)), o 22 (.mv (.t 1)), o 23 (.bin .sub (.t 21) (.t 22)), o 12 (.mv (.t 23))] [0, 1, 2, 3, 4, 10, 11, 12])
def h114_2 : ACode := (.seq (.reg [o 24 (.mv (.t 12)), o 25 (.bin .leq (.t 24) (.c (.int .i64 12)))] [0, 1, 2, 3, 4, 10, 11, 12, 25]) (.cond (.t 25) (.seq (.reg [o 26 (.mv (.t 0)), o 27 (.mv (.t 1)), o 28 (.mv (.t 2)), o 29 (.mv (.t 4)), o 30 (.callF 127 [(.t 26), (.t 27), (.t 28), (.t 29)])] []) .ret) .skip))
def h114_3 : ACode := (.seq (.reg [o 31 (.mv (.t 3)), o 32 (.eq false .int (.t 31) (.c (.int .i64 0)))] [0, 1, 2, 3, 4, 10, 11, 12, 32]) (.cond (.t 32) (.seq (.reg [o 33 (.mv (.t 0)), o 34 (.mv (.t 1)), o 35 (.mv (.t 2)), o 36 (.mv (.t 4)), o 37 (.callF 128 [(.t 33), (.t 34), (.t 35), (.t 36)])] []) .ret) .skip))
def h114_4 : ACode := (.seq (.reg [o 38 (.mv (.t 10)), o 39 (.un .not (.t 38))] [0, 1, 2, 3, 4, 10, 11, 12, 39]) (.cond (.t 39) (.seq (.reg [o 40 (.mv (.t 0)), o 41 (.mv (.t 1)), o 42 (.mv (.t 2)), o 43 (.mv (.t 4)), o 44 (.callF 129 [(.t 40), (.t 41), (.t 42), (.t 43)])] [0, 1, 2, 3, 4, 10, 11, 12]) (.reg [o 45 (.mv (.t 3)), o 46 (.bin .sub (.t 45) (.c (.int .i64 1))), o 3 (.mv (.t 46))] [0, 1, 2, 3, 4, 10, 11, 12])) .skip))
def h114_5 : ACode := (.reg [o 48 (.mv (.t 0)), o 49 (.mv (.t 1)), o 50 (.mv (.t 2)), o 51 (.mv (.t 4)), o 52 (.callF 130 [(.t 48), (.t 49), (.t 50), (.t 51)]), o 47 (.mv (.t 52)), o 53 (.extract (.t 47) 0), o 54 (.extract (.t 47) 1), o 13 (.mv (.t 53)), o 14 (.mv (.t 54))] [0, 1, 2, 3, 4, 10, 11, 12, 13, 14])
def h114_6 : ACode := (.seq (.reg [o 55 (.mv (.t 14)), o 56 (.eq false .int (.t 55) (.c (.int .i64 2)))] [0, 1, 2, 3, 4, 10, 11, 12, 13, 14, 56]) (.cond (.t 56) (.seq (.reg [o 57 (.mv (.t 0)), o 58 (.mv (.t 1)), o 59 (.mv (.t 2)), o 60 (.mv (.t 4)), o 61 (.callF 131 [(.t 57), (.t 58), (.t 59), (.t 60)])] [0, 1, 2, 3, 4, 10, 11, 12, 13]) (.seq (.reg [o 62 (.mv (.t 2)), o 63 (.bin .sub (.t 62) (.c (.int .i64 1))), o 64 (.mv (.t 13)), o 65 (.mv (.t 1)), o 66 (.bin .sub (.t 64) (.t 65)), o 67 (.bin .sub (.t 63) (.t 66)), o 13 (.mv (.t 67))] [0, 1, 2, 3, 4, 10, 11, 12, 13]) (.reg [o 14 (.mv (.c (.int .i64 1)))] [0, 1, 2, 3, 4, 10, 11, 12, 13, 14]))) .skip))
def h114_7 : ACode := (.seq (.reg [o 68 (.mv (.t 10)), o 69 (.mv (.t 68)), ⟨some 70, .mv (.t 11), some (69, true), true, false, [], 0, 0⟩, o 71 (.pick (.t 69) (.t 70) (.c (.bool false))), o 72 (.mv (.t 71)), ⟨some 73, .mv (.t 14), some (72, true), true, false, [], 0, 0⟩, ⟨some 74, .eq false .int (.t 73) (.c (.int .i64 1)), some (72, true), true, false, [], 0, 0⟩, o 75 (.pick (.t 72) (.t 74) (.c (.bool false)))] [0, 1, 2, 3, 4, 10, 11, 12, 13, 75]) (.cond (.t 75) (.seq (.reg [o 76 (.mv (.t 0)), o 77 (.mv (.t 1)), o 78 (.mv (.t 2)), o 79 (.mv (.t 4)), o 80 (.callF 132 [(.t 76), (.t 77), (.t 78), (.t 79)])] [0, 1, 2, 3, 4, 10, 11, 12, 13, 80]) (.cond (.t 80) .ret .skip)) .skip))
def u114 : ACode := (.seq (.reg [o 106 (.mv (.t 0)), o 107 (.mv (.t 1)), o 108 (.mv (.t 2)), o 109 (.mv (.t 13)), o 110 (.mv (.t 4)), o 111 (.callF 134 [(.t 106), (.t 107), (.t 108), (.t 109), (.t 110)]), o 105 (.mv (.t 111)), o 112 (.extract (.t 105) 0), o 113 (.extract (.t 105) 1), o 16 (.mv (.t 112)), o 17 (.mv (.t 113))] [0, 1, 2, 3, 4, 12, 16, 17]) (.seq (.reg [o 114 (.mv (.t 17)), o 11 (.mv (.t 114))] [0, 1, 2, 3, 4, 11, 12, 16]) (.seq (.reg [o 115 (.mv (.t 16)), o 116 (.mv (.t 1)), o 117 (.bin .sub (.t 115) (.t 116)), o 118 (.mv (.t 2)), o 119 (.mv (.t 16)), o 120 (.bin .sub (.t 118) (.t 119)), o 18 (.mv (.t 117)), o 19 (.mv (.t 120))] [0, 1, 2, 3, 4, 11, 12, 16, 18, 19]) (.seq (.reg [o 121 (.mv (.t 12)), o 122 (.bin .quo (.t 121) (.c (.int .i64 8))), o 20 (.mv (.t 122))] [0, 1, 2, 3, 4, 11, 16, 18, 19, 20]) (.seq (.reg [o 123 (.mv (.t 18)), o 124 (.mv (.t 19)), o 125 (.bin .lss (.t 123) (.t 124))] [0, 1, 2, 3, 4, 11, 16, 18, 19, 20, 125]) (.cond (.t 125) (.seq (.reg [o 126 (.mv (.t 18)), o 127 (.mv (.t 20)), o 128 (.bin .geq (.t 126) (.t 127)), o 10 (.mv (.t 128))] [0, 1, 2, 3, 4, 10, 11, 16]) (.seq (.reg [o 129 (.mv (.t 0)), o 130 (.mv (.t 1)), o 131 (.mv (.t 16)), o 132 (.mv (.t 3)), o 133 (.mv (.t 4)), o 134 (.callF 114 [(.t 129), (.t 130), (.t 131), (.t 132), (.t 133)])] [0, 2, 3, 4, 10, 11, 16]) (.reg [o 135 (.mv (.t 16)), o 136 (.bin .add (.t 135) (.c (.int .i64 1))), o 1 (.mv (.t 136))] [0, 1, 2, 3, 4, 10, 11]))) (.seq (.reg [o 137 (.mv (.t 19)), o 138 (.mv (.t 20)), o 139 (.bin .geq (.t 137) (.t 138)), o 10 (.mv (.t 139))] [0, 1, 2, 3, 4, 10, 11, 16]) (.seq (.reg [o 140 (.mv (.t 0)), o 141 (.mv (.t 16)), o 142 (.bin .add (.t 141) (.c (.int .i64 1))), o 143 (.mv (.t 2)), o 144 (.mv (.t 3)), o 145 (.mv (.t 4)), o 146 (.callF 114 [(.t 140), (.t 142), (.t 143), (.t 144), (.t 145)])] [0, 1, 3, 4, 10, 11, 16]) (.reg [o 147 (.mv (.t 16)), o 2 (.mv (.t 147))] [0, 1, 2, 3, 4, 10, 11])))))))))
def t114 : ACode := (.seq (.seq (.dreg [⟨some 81, .mv (.t 1), none, false, false, [1], 0, 0⟩, ⟨some 82, .bin .gtr (.t 81) (.c (.int .i64 0)), none, false, false, [81], 0, 0⟩, ⟨some 83, .mv (.t 82), none, false, false, [82], 0, 0⟩, ⟨some 84, .mv (.t 4), some (83, true), false, false, [4, 83], 0, 0⟩, ⟨some 85, .mv (.t 0), some (83, true), false, false, [0, 83], 0, 0⟩, ⟨some 86, .mv (.t 1), some (83, true), false, false, [1, 83], 0, 0⟩, ⟨some 87, .bin .sub (.t 86) (.c (.int .i64 1)), some (83, true), false, false, [86, 83], 0, 0⟩, ⟨some 88, .ixaS 1 (.t 85) (.t 87), some (83, true), false, false, [85, 87, 83], 0, 0⟩, ⟨some 89, .load (TI.mk false 1) (.t 88), some (83, true), false, false, [88, 83], 0, 0⟩, ⟨some 90, .mv (.t 0), some (83, true), false, false, [0, 83], 0, 0⟩, ⟨some 91, .mv (.t 13), some (83, true), false, false, [13, 83], 0, 0⟩, ⟨some 92, .ixaS 1 (.t 90) (.t 91), some (83, true), false, false, [90, 91, 83], 0, 0⟩, ⟨some 93, .load (TI.mk false 1) (.t 92), some (83, true), false, false, [92, 83], 0, 0⟩, ⟨some 94, .callV (.t 84) [(.t 89), (.t 93)], some (83, true), true, false, [84, 89, 93, 83], 0, 1⟩, ⟨some 95, .bin .lss (.t 94) (.c (.int .i64 0)), some (83, true), false, false, [94, 83], 1, 1⟩, ⟨some 96, .un .not (.t 95), some (83, true), false, false, [95, 83], 1, 1⟩, ⟨some 97, .pick (.t 83) (.t 96) (.c (.bool false)), none, false, false, [83, 96], 1, 1⟩] [0, 1, 2, 3, 4, 10, 11, 12, 13, 97]) (.cond (.t 97) (.seq (.reg [o 98 (.mv (.t 0)), o 99 (.mv (.t 1)), o 100 (.mv (.t 2)), o 101 (.mv (.t 13)), o 102 (.mv (.t 4)), o 103 (.callF 133 [(.t 98), (.t 99), (.t 100), (.t 101), (.t 102)]), o 15 (.mv (.t 103))] [0, 2, 3, 4, 10, 11, 15]) (.seq (.reg [o 104 (.mv (.t 15)), o 1 (.mv (.t 104))] [0, 1, 2, 3, 4, 10, 11]) (.exit 1))) .skip)) u114)
theorem c114_cut : c114_l0 = .block 1 (.seq h114_1 (.seq h114_2 (.seq h114_3 (.seq h114_4 (.seq h114_5 (.seq h114_6 (.seq h114_7 (t114)))))))) := rfl
theorem pdq_size (hS : SWO lt) : ∀ (m a b limit : Nat) (wb wp : Bool) (d : Array α), b - a ≤ m → b ≤ d.size → (pdq lt d a b limit wb wp).size = d.size := by
  have insz : ∀ (a b : Nat) (d : Array α), (insertionSort lt d a b).size = d.size := fun a b d => insOuter_size b _ _ (by omega)
  have tl : ∀ (m : Nat), (∀ (a b limit : Nat) (wb wp : Bool) (d : Array α), b - a ≤ m → b ≤ d.size → (pdq lt d a b limit wb wp).size = d.size) →
      ∀ (a b limit pv : Nat) (wb wp : Bool) (d : Array α), a + 12 < b → b - a ≤ m + 1 → b ≤ d.size → a ≤ pv → pv < b → (tailP lt d a b limit wb wp pv).size = d.size := by
    intro m ih a b limit pv wb wp d hab hm hbd h1 h2
    unfold tailP
    split
    · have hp := partEq_ok (lt := lt) (a := a) (b := b) (pv := pv) (d := d) (by omega)
      generalize partitionEqual lt d a b pv = r at *
      obtain ⟨mid, d4⟩ := r
      simp only at hp ⊢
      rw [dif_pos ⟨hp.2.1, hp.2.2⟩, ih _ _ _ _ _ _ (by omega) (by omega), hp.1]
    · have hp := part_ok (lt := lt) hS (a := a) (b := b) (pv := pv) (d := d) h1 h2 hbd
      generalize Sort.partition lt d a b pv = r at *
      obtain ⟨mid, ap, d4⟩ := r
      simp only at hp ⊢
      rw [dif_pos ⟨hp.2.1, hp.2.2⟩]
      have e1 := ih a mid limit true true d4 (by omega) (by omega)
      have e2 := ih (mid + 1) b limit true true d4 (by omega) (by omega)
      split
      · rw [ih _ _ _ _ _ _ (by omega) (by omega), e1, hp.1]
      · rw [ih _ _ _ _ _ _ (by omega) (by omega), e2, hp.1]
  intro m
  induction m with
  | zero =>
    intro a b limit wb wp d hm hbd
    rw [pdq_eq, if_pos (by omega), insz]
  | succ m ih =>
    intro a b limit wb wp d hm hbd
    rw [pdq_eq]
    split
    · rw [insz]
    split
    · unfold heapSort; rw [heapPop_size, heapBuild_size]
    · simp only
      have c1 := fun d => choosePivot_holds lt d a b (by omega)
      have hd1 : (if (!wb) = true then breakPatterns d a b else d).size = d.size := by split; rw [breakPatterns_size]; rfl
      generalize (if (!wb) = true then breakPatterns d a b else d) = d1 at *
      have c2 := c1 d1
      generalize choosePivot lt d1 a b = c at *
      have hd2 : (if c.2 = .decreasing then reverseRange d1 a b else d1).size = d.size := by
        split
        · unfold reverseRange; rw [reverseLoop_size b _ _ _ (by omega), hd1]
        · exact hd1
      generalize (if c.2 = .decreasing then reverseRange d1 a b else d1) = d2 at *
      have hpv : a ≤ (if c.2 = .decreasing then (b - 1) - (c.1 - a) else c.1) ∧ (if c.2 = .decreasing then (b - 1) - (c.1 - a) else c.1) < b := by split <;> omega
      generalize (if c.2 = .decreasing then (b - 1) - (c.1 - a) else c.1) = pv at *
      generalize (if c.2 = .decreasing then Hint.increasing else c.2) = hint at *
      have hd3 : (if (wb && wp && decide (hint = .increasing)) = true then partialInsertionSort lt d2 a b else (d2, false)).1.size = d.size := by
        split
        · unfold partialInsertionSort; rw [partialIns_size, hd2]
        · exact hd2
      generalize (if (wb && wp && decide (hint = .increasing)) = true then partialInsertionSort lt d2 a b else (d2, false)) = pi at *
      split
      · exact hd3
      · rw [tl m ih _ _ _ _ _ _ _ (by omega) hm (by omega) hpv.1 hpv.2, hd3]
/-! 114: pdqsort -/
def F114 (id ver n : Nat) (cv : FuncId) (a b limit : Nat) (wb wp : Bool) : Ab.Frame :=
  [(0, .vec id ver 0 n 1), (1, .int .i64 (a : Int)), (2, .int .i64 (b : Int)), (3, .int .i64 (limit : Int)), (4, .fn cv [] []), (10, .bool wb), (11, .bool wp)]
def LoopOK (val : α → AV) (lt : α → α → Bool) (cv : FuncId) (id ver n : Nat) (ex : Bool) (bar : Nat) (H : Heap) (m : Nat) : Prop :=
  ∀ (a b limit : Nat) (wb wp : Bool) (d : Array α) (base : Nat), d.size = n → a ≤ b → b ≤ n → b - a ≤ m → limit < 1000 →
    Wp E base bar (.loop c114_l0) (F114 id ver n cv a b limit wb wp) (putA val id ver ex H d) (fun e _ H' => e = .ret ∧ H' = putA val id ver ex H (pdq lt d a b limit wb wp))
theorem LoopOK.go {m : Nat} (ih : LoopOK val lt cv id ver n ex bar H m) {a b limit : Nat} {wb wp : Bool} {d : Array α} {fr : Ab.Frame} {R : PQ} (hd : d.size = n) (hab : a ≤ b) (hbn : b ≤ n) (hm : b - a ≤ m) (hl : limit < 1000)
    (hn : (fr.map (·.1)).Nodup) (hf : ∀ t, fget t (F114 id ver n cv a b limit wb wp) = fget t fr)
    (h : ∀ fr, R .ret fr (putA val id ver ex H (pdq lt d a b limit wb wp))) : Wp E base bar (.loop c114_l0) fr (putA val id ver ex H d) R := by
  have h1 := ih a b limit wb wp d base hd hab hbn hm hl
  have h0 : ((F114 id ver n cv a b limit wb wp).map (·.1)).Nodup := (show ([0, 1, 2, 3, 4, 10, 11] : List Nat).Nodup by decide)
  have h2 := Wp.perm (FR.of_get h0 hn hf) (fun _ _ _ _ _ h => h) h1
  exact h2.mono fun e fr H ⟨e1, e2⟩ => by subst e1 e2; exact h fr
theorem LoopOK.call {m : Nat} (ih : LoopOK val lt cv id ver n ex bar H m) {a b limit : Nat} {d : Array α} (hd : d.size = n) (hab : a ≤ b) (hbn : b ≤ n) (hm : b - a ≤ m) (hl : limit < 1000)
    (h : Q (.tup []) (putA val id ver ex H (pdq lt d a b limit true true))) :
    WpCall E false base bar 114 [.vec id ver 0 n 1, .int .i64 (a : Int), .int .i64 (b : Int), .int .i64 (limit : Int), .fn cv [] []] (putA val id ver ex H d) Q := by
  rw [call114]
  simp [go_sem, WpFun, c114]
  refine ih.go hd hab hbn hm hl (show ([0, 1, 2, 3, 4, 10, 11] : List Nat).Nodup by decide) (fun t => rfl) fun fr => ?_
  simp [go_sem, putA_len, putA_self]
  exact h
theorem fr_end {x : AV} {k : Nat} {id ver n a b limit : Nat} {cv : FuncId} {wb wp : Bool} (hk : k = 1 ∧ x = .int .i64 (a : Int)) : ∀ t, fget t (F114 id ver n cv a b limit wb wp) = fget t [(0, .vec id ver 0 n 1), (2, .int .i64 (b : Int)), (3, .int .i64 (limit : Int)), (4, .fn cv [] []), (10, .bool wb), (11, .bool wp), (k, x)] := by
  obtain ⟨rfl, rfl⟩ := hk
  intro t
  match t with
  | 0 | 1 | 2 | 3 | 4 | 5 | 6 | 7 | 8 | 9 | 10 | 11 => rfl
  | t + 12 => simp [F114, fget]
theorem fr_b1 {id ver n a b limit : Nat} {cv : FuncId} {wb wp : Bool} : ∀ t, fget t (F114 id ver n cv a b limit wb wp) = fget t [(0, .vec id ver 0 n 1), (2, .int .i64 (b : Int)), (3, .int .i64 (limit : Int)), (4, .fn cv [] []), (11, .bool wp), (10, .bool wb), (1, .int .i64 (a : Int))] := by
  intro t
  match t with
  | 0 | 1 | 2 | 3 | 4 | 5 | 6 | 7 | 8 | 9 | 10 | 11 => rfl
  | t + 12 => simp [F114, fget]
theorem fr_b2 {id ver n a b limit : Nat} {cv : FuncId} {wb wp : Bool} : ∀ t, fget t (F114 id ver n cv a b limit wb wp) = fget t [(0, .vec id ver 0 n 1), (1, .int .i64 (a : Int)), (3, .int .i64 (limit : Int)), (4, .fn cv [] []), (11, .bool wp), (10, .bool wb), (2, .int .i64 (b : Int))] := by
  intro t
  match t with
  | 0 | 1 | 2 | 3 | 4 | 5 | 6 | 7 | 8 | 9 | 10 | 11 => rfl
  | t + 12 => simp [F114, fget]
/-- behind the partition -/
def partP (lt : α → α → Bool) (d3 : Array α) (a b limit pivot : Nat) : Array α :=
  match Sort.partition lt d3 a b pivot with
    | (mid, alreadyPartitioned, d4) =>
      if _h : a ≤ mid ∧ mid < b then
        if mid - a < b - mid then
          pdq lt (pdq lt d4 a mid limit true true) (mid + 1) b limit (decide (mid - a ≥ (b - a) / 8)) alreadyPartitioned
        else
          pdq lt (pdq lt d4 (mid + 1) b limit true true) a mid limit (decide (b - mid ≥ (b - a) / 8)) alreadyPartitioned
      else d4
theorem l114_u (so : SO val lt cv) (hS : SWO lt) (hid : id < H.length) (hb : bar ≤ id) (hn : n < 60000) {m : Nat} (ih : LoopOK val lt cv id ver n ex bar H m) {a b limit pv : Nat} {wb wp : Bool} {d : Array α} (hd : d.size = n) (hab : a + 12 < b) (hbn : b ≤ n)
    (hm : b - a ≤ m + 1) (hl : limit < 1000) (hp1 : a ≤ pv) (hp2 : pv < b) {l : Nat} (hl2 : l = b - a) {R : PQ} (h : ∀ fr, R .ret fr (putA val id ver ex H (partP lt d a b limit pv))) :
    Wp E base bar u114 [(0, .vec id ver 0 n 1), (1, .int .i64 (a : Int)), (2, .int .i64 (b : Int)), (3, .int .i64 (limit : Int)), (4, .fn cv [] []), (10, .bool wb), (11, .bool wp), (12, .int .i64 (l : Int)), (13, .int .i64 (pv : Int)), (97, .bool false)] (putA val id ver ex H d)
      (exitWp 1 (thenWp E base bar (.loop c114_l0) R)) := by
  have hpn : pv < n := by omega
  have hpart := part_ok (lt := lt) hS (a := a) (b := b) (pv := pv) (d := d) hp1 hp2 (by omega)
  unfold partP at h
  simp [go_sem, u114]
  refine k134 so hid hb (by omega) (by omega) hbn hpn hd ?_
  generalize Sort.partition lt d a b pv = r at *
  obtain ⟨mid, ap, d4⟩ := r
  simp only at hpart h ⊢
  rw [dif_pos ⟨hpart.2.1, hpart.2.2⟩] at h
  obtain ⟨x, hx⟩ : ∃ x, x = mid - a := ⟨_, rfl⟩
  obtain ⟨y, hy⟩ : ∃ x, x = b - mid := ⟨_, rfl⟩
  obtain ⟨z, hz⟩ : ∃ x, x = l / 8 := ⟨_, rfl⟩
  have e1 : IntKind.i64.wrap ((mid : Int) - (a : Int)) = (x : Int) := by rw [w64 (by omega)]; omega
  have e2 : IntKind.i64.wrap ((b : Int) - (mid : Int)) = (y : Int) := by rw [w64 (by omega)]; omega
  have e3 : abin .quo (.int .i64 (l : Int)) (.int .i64 8) = some (.int .i64 (z : Int)) := by
    have := quoN (x := l) (y := 8) (by omega) (by omega)
    rw [← hz] at this; exact this
  obtain ⟨m1, hm1⟩ : ∃ x, x = mid + 1 := ⟨_, rfl⟩
  have e4 : IntKind.i64.wrap ((mid : Int) + 1) = (m1 : Int) := by rw [w64 (by omega)]; omega
  rw [← hx, ← hy, ← hl2, ← hz, ← hm1] at h
  have hd4 : d4.size = n := by omega
  by_cases hlt : x < y
  · have hlt1 : (x : Int) < (y : Int) := by omega
    rw [if_pos hlt] at h
    simp [go_sem, e1, e2, e3, hlt1]
    refine ih.call hd4 (by omega) (by omega) (by omega) hl ?_
    simp [go_sem, e4]
    have hwb : decide ((z : Int) ≤ (x : Int)) = decide (x ≥ z) := by
      rw [Bool.eq_iff_iff]; simp
    have hs1 := pdq_size hS (lt := lt) m a mid limit true true d4 (by omega) (by omega)
    refine ih.go (wb := decide (x ≥ z)) (wp := ap) (a := m1) (b := b) (limit := limit) (by omega) (by omega) (by omega) (by omega) hl (show ([0, 2, 3, 4, 11, 10, 1] : List Nat).Nodup by decide) (fun t => ?_) h
    have := fr_b1 (id := id) (ver := ver) (n := n) (a := m1) (b := b) (limit := limit) (cv := cv) (wb := decide (x ≥ z)) (wp := ap) t
    simpa using this
  · have hlt1 : ¬ (x : Int) < (y : Int) := by omega
    rw [if_neg hlt] at h
    simp [go_sem, e1, e2, e3, hlt1, e4]
    refine ih.call hd4 (by omega) (by omega) (by omega) hl ?_
    simp [go_sem]
    have hwb : decide ((z : Int) ≤ (y : Int)) = decide (y ≥ z) := by
      rw [Bool.eq_iff_iff]; simp
    have hs1 := pdq_size hS (lt := lt) m m1 b limit true true d4 (by omega) (by omega)
    refine ih.go (wb := decide (y ≥ z)) (wp := ap) (a := a) (b := mid) (limit := limit) (by omega) (by omega) (by omega) (by omega) hl (show ([0, 1, 3, 4, 11, 10, 2] : List Nat).Nodup by decide) (fun t => ?_) h
    have := fr_b2 (id := id) (ver := ver) (n := n) (a := a) (b := mid) (limit := limit) (cv := cv) (wb := decide (y ≥ z)) (wp := ap) t
    simpa using this
theorem l114_t (so : SO val lt cv) (hS : SWO lt) (hid : id < H.length) (hb : bar ≤ id) (hn : n < 60000) {m : Nat} (ih : LoopOK val lt cv id ver n ex bar H m) {a b limit pv : Nat} {wb wp : Bool} {d : Array α} (hd : d.size = n) (hab : a + 12 < b) (hbn : b ≤ n)
    (hm : b - a ≤ m + 1) (hl : limit < 1000) (hp1 : a ≤ pv) (hp2 : pv < b) {k l : Nat} (hl2 : l = b - a) (hk : k = 75 ∨ k = 80) {R : PQ} (h : ∀ fr, R .ret fr (putA val id ver ex H (tailP lt d a b limit wb wp pv))) :
    Wp E base bar t114 [(0, .vec id ver 0 n 1), (1, .int .i64 (a : Int)), (2, .int .i64 (b : Int)), (3, .int .i64 (limit : Int)), (4, .fn cv [] []), (10, .bool wb), (11, .bool wp), (12, .int .i64 (l : Int)), (13, .int .i64 (pv : Int)), (k, .bool false)] (putA val id ver ex H d)
      (exitWp 1 (thenWp E base bar (.loop c114_l0) R)) := by
  have hpn : pv < n := by omega
  have ht : tailP lt d a b limit wb wp pv = if a > 0 && !lt d[a - 1]! d[pv]! then (match partitionEqual lt d a b pv with
    | (mid, d4) => if _h : a < mid ∧ mid ≤ b then pdq lt d4 mid b limit wb wp else d4) else partP lt d a b limit pv := rfl
  rw [ht] at h
  by_cases ha0 : 0 < a
  · have ha1 : (0 : Int) < (a : Int) := by omega
    have e1 : IntKind.i64.wrap ((a : Int) - 1) = ((a - 1 : Nat) : Int) := by rw [w64 (by omega)]; omega
    have b1 : a - 1 < n := by omega
    have ld0 := ldA (val := val) (ver := ver) (ex := ex) (s := 1) (d := d) (i := a - 1) hid (by omega)
    have ld1 := ldA (val := val) (ver := ver) (ex := ex) (s := 1) (d := d) (i := pv) hid (by omega)
    rcases hk with rfl | rfl <;> simp [go_sem, t114, ha0, e1, b1, hpn, ld0, ld1]
    all_goals
      refine so.call _ _ _ _ _ _ _ fun c hc => ?_
      cases hl' : lt d[a - 1]! d[pv]!
      · have hc1 := ltF hc hl'
        rw [if_pos (by simp [hl', ha0])] at h
        have hp := partEq_ok (lt := lt) (a := a) (b := b) (pv := pv) (d := d) (by omega)
        simp [go_sem, hc1]
        refine k133 so hid hb (by omega) (by omega) hbn hpn hd ?_
        generalize partitionEqual lt d a b pv = r at *
        obtain ⟨mid, d4⟩ := r
        simp only at hp h ⊢
        rw [dif_pos ⟨hp.2.1, hp.2.2⟩] at h
        simp [go_sem]
        exact ih.go (wb := wb) (wp := wp) (a := mid) (b := b) (limit := limit) (by omega) (by omega) (by omega) (by omega) hl (show ([0, 2, 3, 4, 10, 11, 1] : List Nat).Nodup by decide) (fr_end ⟨rfl, rfl⟩) h
      · have hc1 := ltT hc hl'
        rw [if_neg (by simp [hl'])] at h
        simp [go_sem, hc1]
        exact l114_u so hS hid hb hn ih hd hab hbn hm hl hp1 hp2 hl2 h
  · have ha1 : ¬ (0 : Int) < (a : Int) := by omega
    rw [if_neg (by simp [ha0])] at h
    rcases hk with rfl | rfl <;> simp [go_sem, t114, ha0]
    all_goals exact l114_u so hS hid hb hn ih hd hab hbn hm hl hp1 hp2 hl2 h
end Go.Proofs.YtbkhffakhggdaaaDoor.Code
end
section
namespace Go.Proofs.YtbkhffakhggdaaaDoor.Code
open Go Go.Ab Go.Sort
variable {p : Bool} {base bar : Nat} {H : Heap} {Q : AV → Heap → Prop} {K : AV → Heap → List Nat → Prop}
variable {α : Type} [Inhabited α] {val : α → AV} {lt : α → α → Bool} {cv : FuncId} {id ver n : Nat} {ex : Bool}
/-- a round behind the breaking of patterns -/
theorem l114_p (so : SO val lt cv) (hS : SWO lt) (hid : id < H.length) (hb : bar ≤ id) (hn : n < 60000) {m : Nat} (ih : LoopOK val lt cv id ver n ex bar H m) {a b limit : Nat} {wb wp : Bool} {d : Array α} (hd : d.size = n) (hab : a + 12 < b) (hbn : b ≤ n)
    (hm : b - a ≤ m + 1) (hl : limit < 1000) {l k : Nat} (hl2 : l = b - a) (hk : k = 39 ∨ k = 12) {P : Array α}
    (hP : P = (let c := choosePivot lt d a b
      let d2 := if c.2 = .decreasing then reverseRange d a b else d
      let pivot := if c.2 = .decreasing then (b - 1) - (c.1 - a) else c.1
      let hint := if c.2 = .decreasing then Hint.increasing else c.2
      let pi := if wb && wp && hint = .increasing then partialInsertionSort lt d2 a b else (d2, false)
      if pi.2 then pi.1 else tailP lt pi.1 a b limit wb wp pivot)) {R : PQ} (h : ∀ fr, R .ret fr (putA val id ver ex H P)) {x : Ab.Frame} (hx : x = [] ∨ x = [(39, .bool false)]) :
    Wp E base bar (.seq h114_5 (.seq h114_6 (.seq h114_7 t114))) ([(0, .vec id ver 0 n 1), (1, .int .i64 (a : Int)), (2, .int .i64 (b : Int)), (3, .int .i64 (limit : Int)), (4, .fn cv [] []), (10, .bool wb), (11, .bool wp), (12, .int .i64 (l : Int))] ++ x) (putA val id ver ex H d)
      (exitWp 1 (thenWp E base bar (.loop c114_l0) R)) := by
  have hcp := choosePivot_holds lt d a b (by omega)
  simp only at hP
  -- behind the hint
  have go : ∀ (d2 : Array α) (pv : Nat) (hint : Hint), d2.size = n → a ≤ pv → pv < b → (hint = .increasing ∨ hint = .unknown) →
      P = (let pi := if wb && wp && hint = .increasing then partialInsertionSort lt d2 a b else (d2, false)
        if pi.2 then pi.1 else tailP lt pi.1 a b limit wb wp pv) → ∀ y : Ab.Frame, y = [] ∨ y = [(56, .bool false)] →
      Wp E base bar (.seq h114_7 t114) ([(0, .vec id ver 0 n 1), (1, .int .i64 (a : Int)), (2, .int .i64 (b : Int)), (3, .int .i64 (limit : Int)), (4, .fn cv [] []), (10, .bool wb), (11, .bool wp), (12, .int .i64 (l : Int)), (13, .int .i64 (pv : Int)), (14, .int .i64 (hintC hint))] ++ y) (putA val id ver ex H d2)
        (exitWp 1 (thenWp E base bar (.loop c114_l0) R)) := by
    intro d2 pv hint hd2 hp1 hp2 hh hP y hy
    by_cases hc : (wb && wp && decide (hint = .increasing)) = true
    · have hc' := hc
      simp only [Bool.and_eq_true, decide_eq_true_eq] at hc
      obtain ⟨⟨rfl, rfl⟩, rfl⟩ := hc
      simp only [if_pos hc'] at hP
      have hsz : (partialInsertionSort lt d2 a b).1.size = n := by unfold partialInsertionSort; rw [partialIns_size, hd2]
      rcases hy with rfl | rfl <;> simp [go_sem, h114_7, hintC]
      all_goals
        refine k132 so hid hb (by omega) (by omega) hbn hd2 ?_
        generalize partialInsertionSort lt d2 a b = r at *
        obtain ⟨d3, done⟩ := r
        simp only at hP hsz ⊢
        cases done
        · have hP' : P = tailP lt d3 a b limit true true pv := by simpa using hP
          rw [hP'] at h
          simp [go_sem]
          exact l114_t so hS hid hb hn ih hsz hab hbn hm hl hp1 hp2 hl2 (.inr rfl) h
        · have hP' : P = d3 := by simpa using hP
          rw [hP'] at h
          simp [go_sem]
          exact h _
    · simp only [if_neg hc, Bool.false_eq_true, if_false] at hP
      have hf : (wb = true → wp = true → hintC hint ≠ 1) := fun h1 h2 e => by
        subst h1 h2
        rcases hh with rfl | rfl
        · simp at hc
        · simp [hintC] at e
      have fin := l114_t (base := base) so hS hid hb hn ih hd2 hab hbn hm hl hp1 hp2 hl2 (.inl rfl) (R := R) (wb := wb) (wp := wp) (by rw [← hP]; exact h)
      rcases hy with rfl | rfl
      all_goals
        cases wb
        · simp [go_sem, h114_7]
          exact fin
        · cases wp
          · simp [go_sem, h114_7]
            exact fin
          · have := hf rfl rfl
            have hb1 : (hintC hint == 1) = false := by simpa using this
            simp [go_sem, h114_7, hb1]
            exact fin
  rcases hx with rfl | rfl <;> simp [go_sem, h114_5]
  all_goals
    refine k130 so hid (by omega) (by omega) hab hbn hd ?_
    generalize choosePivot lt d a b = c at *
    obtain ⟨pv, hint⟩ := c
    simp only at hcp hP ⊢
    cases hint
    · simp [go_sem, hintC, h114_6]
      exact Go.Ab.wp_seq.1 (go d pv .unknown hd hcp.1 hcp.2 (.inr rfl) (by simpa using hP) [(56, .bool false)] (.inr rfl))
    · simp [go_sem, hintC, h114_6]
      exact Go.Ab.wp_seq.1 (go d pv .increasing hd hcp.1 hcp.2 (.inl rfl) (by simpa using hP) [(56, .bool false)] (.inr rfl))
    · obtain ⟨b1, hb1⟩ : ∃ x, x = b - 1 := ⟨_, rfl⟩
      obtain ⟨x1, hx1⟩ : ∃ x, x = pv - a := ⟨_, rfl⟩
      obtain ⟨p2, hp2⟩ : ∃ x, x = b1 - x1 := ⟨_, rfl⟩
      have e1 : IntKind.i64.wrap ((b : Int) - 1) = (b1 : Int) := by rw [w64 (by omega)]; omega
      have e2 : IntKind.i64.wrap ((pv : Int) - (a : Int)) = (x1 : Int) := by rw [w64 (by omega)]; omega
      have e3 : IntKind.i64.wrap ((b1 : Int) - (x1 : Int)) = (p2 : Int) := by rw [w64 (by omega)]; omega
      have hsz : (reverseRange d a b).size = n := by unfold reverseRange; rw [reverseLoop_size b _ _ _ (by omega), hd]
      simp [go_sem, hintC, h114_6]
      refine k131 so hid hb (by omega) (by omega) hbn hd ?_
      simp [go_sem, e1, e2, e3]
      exact Go.Ab.wp_seq.1 (go (reverseRange d a b) p2 .increasing hsz (by omega) (by omega) (.inl rfl) (by rw [hp2, hb1, hx1]; simpa using hP) [] (.inl rfl))
theorem l114_all (so : SO val lt cv) (hS : SWO lt) (hid : id < H.length) (hb : bar ≤ id) (hn : n < 60000) : ∀ m, LoopOK val lt cv id ver n ex bar H m := by
  have small : ∀ (a b limit : Nat) (wb wp : Bool) (d : Array α) (base : Nat), d.size = n → a ≤ b → b ≤ n → b - a ≤ 12 →
      Wp E base bar (.loop c114_l0) (F114 id ver n cv a b limit wb wp) (putA val id ver ex H d) (fun e _ H' => e = .ret ∧ H' = putA val id ver ex H (pdq lt d a b limit wb wp)) := by
    intro a b limit wb wp d base hd hab hbn h12
    rw [pdq_eq, if_pos h12]
    obtain ⟨l, hl⟩ : ∃ x, x = b - a := ⟨_, rfl⟩
    have e1 : IntKind.i64.wrap ((b : Int) - (a : Int)) = (l : Int) := by rw [w64 (by omega)]; omega
    have hl12 : (l : Int) ≤ 12 := by omega
    rw [wp_round c114_cut]
    simp [go_sem, F114, h114_1, h114_2, e1, hl12]
    refine k127 so hid hb (by omega) hbn hd (by omega) ?_
    simp [go_sem]
  intro m
  induction m with
  | zero =>
    intro a b limit wb wp d base hd hab hbn hm hl
    exact small a b limit wb wp d base hd hab hbn (by omega)
  | succ m ih =>
    intro a b limit wb wp d base hd hab hbn hm hl
    by_cases h12 : b - a ≤ 12
    · exact small a b limit wb wp d base hd hab hbn h12
    have hpq := pdq_eq (lt := lt) d a b limit wb wp
    rw [if_neg h12] at hpq
    generalize pdq lt d a b limit wb wp = P at *
    obtain ⟨l, hl2⟩ : ∃ x, x = b - a := ⟨_, rfl⟩
    have e1 : IntKind.i64.wrap ((b : Int) - (a : Int)) = (l : Int) := by rw [w64 (by omega)]; omega
    have hl12 : ¬ (l : Int) ≤ 12 := by omega
    by_cases h0 : limit = 0
    · subst h0
      rw [if_pos rfl] at hpq
      subst hpq
      rw [wp_round c114_cut]
      simp [go_sem, F114, h114_1, h114_2, h114_3, e1, hl12]
      refine k128 so hid hb (by omega) (by omega) hbn hd ?_
      simp [go_sem]
    · rw [if_neg h0] at hpq
      simp only at hpq
      have h01 : ¬ (limit : Int) = 0 := by omega
      have h02 : ((limit : Int) == 0) = false := by simpa using h0
      cases wb
      · have e2 : IntKind.i64.wrap ((limit : Int) - 1) = ((limit - 1 : Nat) : Int) := by rw [w64 (by omega)]; omega
        have hsz : (breakPatterns d a b).size = n := by rw [breakPatterns_size, hd]
        rw [wp_round c114_cut]
        simp [go_sem, F114, h114_1, h114_2, h114_3, h114_4, e1, hl12, h0]
        refine k129 so hid hb hn (by omega) hbn hd ?_
        simp [go_sem, e2]
        exact Go.Ab.wp_seq.1 (l114_p (k := 12) so hS hid hb hn ih hsz (by omega) hbn hm (by omega) hl2 (.inr rfl) (P := P) (limit := limit - 1) (wb := false) (wp := wp) (by simpa using hpq) (x := []) (by simp) (.inl rfl))
      · rw [wp_round c114_cut]
        simp [go_sem, F114, h114_1, h114_2, h114_3, h114_4, e1, hl12, h0]
        exact Go.Ab.wp_seq.1 (l114_p (k := 39) so hS hid hb hn ih hd (by omega) hbn hm (by omega) hl2 (.inl rfl) (P := P) (limit := limit) (wb := true) (wp := wp) (by simpa using hpq) (x := [(39, .bool false)]) (by simp) (.inr rfl))
/-- slices.SortFunc, in place -/
theorem k103 (so : SO val lt cv) (hS : SWO lt) (hid : id < H.length) (hb : bar ≤ id) (hn : n < 60000) {d : Array α} (hd : d.size = n)
    (h : Q (.tup []) (putA val id ver ex H (Sort.sort lt d))) : WpCall E false base bar 103 [.vec id ver 0 n 1, .fn cv [] []] (putA val id ver ex H d) Q := by
  have e1 : IntKind.u64.wrap (n : Int) = (n : Int) := wrapUs (by omega)
  have hbl : bitsLen n < 1000 := by
    have := (bitsLen_le_iff n 16).2 (by omega); omega
  unfold Sort.sort at h
  rw [hd] at h
  rw [call103]
  simp [go_sem, WpFun, c103, e1]
  refine k108 hn ?_
  simp [go_sem]
  refine (l114_all so hS hid hb hn n).call (a := 0) hd (by omega) (Nat.le_refl _) (by omega) hbl ?_
  simp [go_sem, putA_len, putA_self]
  exact h
end Go.Proofs.YtbkhffakhggdaaaDoor.Code
end
section
namespace Go.Proofs.YtbkhffakhggdaaaDoor.Code
open Go Go.Ab Go.Sort
variable {pure : Bool} {base bar : Nat} {H : Heap} {Q : AV → Heap → Prop} {K : AV → Heap → List Nat → Prop}
/-! 100, 62: comparing lists -/
def cmpI (a b : Int) : Int := if a < b then -1 else if b < a then 1 else 0
theorem k111 {a : Int} (h : Q (.bool false) H) : WpCall E pure base bar 111 [.int .i64 a] H Q := by
  rw [call111]
  simp [go_sem, WpFun, c111]
  exact h
theorem k100 {a b : Int} (h : Q (.int .i64 (cmpI a b)) H) : WpCall E pure base bar 100 [.int .i64 a, .int .i64 b] H Q := by
  unfold cmpI at h
  rw [call100]
  simp [go_sem, WpFun, c100]
  refine k111 ?_
  simp [go_sem]
  refine k111 ?_
  by_cases h1 : a < b
  · rw [if_pos h1] at h
    simp [go_sem, h1]
    exact h
  · rw [if_neg h1] at h
    by_cases h2 : b < a
    · rw [if_pos h2] at h
      simp [go_sem, h1, h2]
      exact h
    · rw [if_neg h2] at h
      simp [go_sem, h1, h2]
      exact h
def cmpV : List Int → List Int → Int
  | [], [] => 0
  | [], _ :: _ => -1
  | _ :: _, [] => 1
  | x :: xs, y :: ys => if cmpI x y ≠ 0 then cmpI x y else cmpV xs ys
theorem l62 {v w : AV} {l m : List Int} (hv : isV v l) (hw : isV w m) (hl : l.length < 1000) {R : PQ} : ∀ (k i : Nat), i + k = l.length →
    (R .ret [(4, .int .i64 (cmpV (l.drop i) (m.drop i)))] H) → (l.length ≤ m.length → (l.length < m.length → cmpV (l.drop i) (m.drop i) = -1 → R (.exit 0) [(0, v), (1, w), (9, v), (10, .int .i64 (l.length : Nat)), (11, .int .i64 (l.length : Nat)), (12, .bool false)] H) ∧ (l.length = m.length → cmpV (l.drop i) (m.drop i) = 0 → R (.exit 0) [(0, v), (1, w), (9, v), (10, .int .i64 (l.length : Nat)), (11, .int .i64 (l.length : Nat)), (12, .bool false)] H)) →
    i ≤ m.length →
    Wp E base bar (.loop c62_l0) [(0, v), (1, w), (9, v), (10, .int .i64 (l.length : Nat)), (11, .int .i64 (i : Nat))] H R := by
  intro k
  induction k with
  | zero =>
    intro i hi h1 h2 hm
    obtain rfl : i = l.length := by omega
    rw [List.drop_length] at h2
    rw [wp_round c62_l0.eq_1]
    simp [go_sem]
    by_cases he : l.length = m.length
    · refine (h2 (by omega)).2 he ?_
      rw [he, List.drop_length]; rfl
    · have hlt : l.length < m.length := by omega
      refine (h2 (by omega)).1 hlt ?_
      rw [List.drop_eq_getElem_cons hlt]; rfl
  | succ k ih =>
    intro i hi h1 h2 hm
    have hlt : i < l.length := by omega
    rw [List.drop_eq_getElem_cons hlt] at h1 h2
    have hix := fun (K : AV → Heap → List Nat → Prop) (k : IntKind) => hv.ix (H := H) (K := K) (k := k) hlt
    have hs := i64_suc (show i < 1000000 by omega)
    rw [wp_round c62_l0.eq_1]
    by_cases him : m.length ≤ i
    · have him1 : (m.length : Int) ≤ (i : Int) := by omega
      rw [List.drop_eq_nil_of_le him] at h1
      simp [go_sem, hlt, hix, hw.len, him]
      exact h1
    · have him0 : i < m.length := by omega
      have hjx := fun (K : AV → Heap → List Nat → Prop) (k : IntKind) => hw.ix (H := H) (K := K) (k := k) him0
      rw [List.drop_eq_getElem_cons him0] at h1 h2
      generalize l[i] = x at *
      generalize m[i] = y at *
      simp only [cmpV] at h1 h2
      simp [go_sem, hlt, hix, hw.len, him, hjx]
      refine k100 ?_
      by_cases hc : cmpI x y = 0
      · simp only [hc, ne_eq, not_true_eq_false, if_false] at h1 h2
        have next := ih (i + 1) (by omega) h1 h2 (by omega)
        simp [go_sem, hc, hs]
        exact next
      · rw [if_pos hc] at h1
        simp [go_sem, hc]
        exact h1
theorem k62 {v w : AV} {l m : List Int} (hv : isV v l) (hw : isV w m) (hl : l.length < 1000) (h : Q (.int .i64 (cmpV l m)) H) : WpCall E pure base bar 62 [v, w] H Q := by
  rw [call62]
  simp [go_sem, WpFun, c62, hv.frz, hw.frz, hv.len]
  refine l62 hv hw hl l.length 0 (by omega) ?_ (fun hle => ⟨fun h1 h2 => ?_, fun h1 h2 => ?_⟩) (by omega)
  · rw [List.drop_zero, List.drop_zero]
    simp [go_sem]
    exact h
  · rw [List.drop_zero, List.drop_zero] at h2
    rw [h2] at h
    simp [go_sem, hv.len, hw.len, h1]
    exact h
  · rw [List.drop_zero, List.drop_zero] at h2
    rw [h2] at h
    simp [go_sem, hv.len, hw.len, h1]
    exact h
/-! the order of trays -/
def key (x : Nat) : Nat := (allS 6).idxOf x
theorem key_all : ((List.range 64).all fun a => (List.range 64).all fun b => decide (cmpV (dyL a) (dyL b) < 0) == Nat.blt (key a) (key b) && (Nat.beq (key a) (key b) == Nat.beq a b)) = true := by decide +kernel
theorem key_cmp {a b : Nat} (ha : a < 64) (hb : b < 64) : decide (cmpV (dyL a) (dyL b) < 0) = decide (key a < key b) ∧ (key a = key b → a = b) := by
  have h := List.all_eq_true.1 (List.all_eq_true.1 key_all a (List.mem_range.2 ha)) b (List.mem_range.2 hb)
  rw [Bool.and_eq_true] at h
  constructor
  · rw [eq_of_beq h.1, Bool.eq_iff_iff, Nat.blt_eq, decide_eq_true_eq]
  · intro e
    have := eq_of_beq h.2
    rw [e] at this
    exact Nat.eq_of_beq_eq_true (this.symm.trans (by simp))
def dyF (x : Fin 64) : AV := dy x.val
def ltF6 (x y : Fin 64) : Bool := decide (key x.val < key y.val)
theorem so62 : SO dyF ltF6 62 where
  tup x := dy_isTup
  cells x := dy_cells
  top x := dy_top
  noVec x := dy_noVec
  call x y p base bar H Q h := by
    refine k62 (isV_dyL x.isLt) (isV_dyL y.isLt) (dyL_lt x.isLt) (h _ ?_)
    exact (key_cmp x.isLt y.isLt).1
theorem swo62 : SWO ltF6 where
  irrefl x := by simp [ltF6]
  trans x y z h1 h2 := by simp only [ltF6, decide_eq_true_eq] at *; omega
  ntrans x y z h1 h2 := by simp only [ltF6, decide_eq_false_iff_not] at *; omega
/-- trays in ascending order -/
def sortS (S : List Nat) : List Nat := (allS 6).filter S.contains
theorem allS6 : (allS 6).Nodup ∧ (∀ x, x ∈ allS 6 ↔ x < 64) ∧ (allS 6).Pairwise (fun a b => key a < key b) := by
  refine ⟨by decide +kernel, fun x => ⟨fun h => ?_, fun h => ?_⟩, by decide +kernel⟩
  · have : ∀ x ∈ allS 6, x < 64 := by decide +kernel
    exact this x h
  · have : ∀ x, x < 64 → x ∈ allS 6 := by decide +kernel
    exact this x h
theorem sortS_mem {S : List Nat} {x : Nat} (hS : ∀ x ∈ S, x < 64) : x ∈ sortS S ↔ x ∈ S := by
  unfold sortS
  rw [List.mem_filter, allS6.2.1, List.contains_iff_mem]
  exact ⟨fun h => h.2, fun h => ⟨hS x h, h⟩⟩
theorem sortS_nodup {S : List Nat} : (sortS S).Nodup := allS6.1.filter _
theorem sortS_pair {S : List Nat} : (sortS S).Pairwise (fun a b => key a < key b) := allS6.2.2.filter _
theorem sortS_perm {S : List Nat} (hS : ∀ x ∈ S, x < 64) (hn : S.Nodup) : (sortS S).Perm S :=
  (List.perm_ext_iff_of_nodup sortS_nodup hn).2 fun x => sortS_mem hS
/-- what the sort makes of different trays -/
theorem sort_eq {d : Array (Fin 64)} (hn : (d.toList.map Fin.val).Nodup) : (Sort.sort ltF6 d).toList.map Fin.val = sortS (d.toList.map Fin.val) := by
  obtain ⟨hP, hSo⟩ := sort_sorts ltF6 swo62 d
  have hu := sorted_unique_holds (lt := ltF6) swo62 (fun x y h1 h2 => by
    simp only [ltF6, decide_eq_false_iff_not] at h1 h2
    exact Fin.ext ((key_cmp x.isLt y.isLt).2 (by omega))) d _ hP hSo
  have hS : ∀ x ∈ d.toList.map Fin.val, x < 64 := fun x hx => by
    obtain ⟨y, _, rfl⟩ := List.mem_map.1 hx
    exact y.isLt
  have hperm : ((Sort.sort ltF6 d).toList.map Fin.val).Perm (d.toList.map Fin.val) := by
    rw [hu]; exact (List.mergeSort_perm _ _).map _
  refine List.Perm.eq_of_pairwise (le := fun a b => key a ≤ key b) ?_ ?_ ?_ (hperm.trans (sortS_perm hS hn).symm)
  · intro a b ha hb h1 h2
    have ha' := hS a (hperm.mem_iff.1 ha)
    have hb' := hS b ((sortS_mem hS).1 hb)
    exact (key_cmp ha' hb').2 (by omega)
  · rw [List.pairwise_map, List.pairwise_iff_getElem]
    intro i j hi hj hij
    have hsz := hP.1
    have hi' : i < (Sort.sort ltF6 d).size := by simpa using hi
    have hj' : j < (Sort.sort ltF6 d).size := by simpa using hj
    have := hSo i j (Nat.zero_le _) hij (by omega)
    rw [getElem!_pos _ j hj', getElem!_pos _ i hi'] at this
    simp only [ltF6, decide_eq_false_iff_not] at this
    simpa using this
  · exact sortS_pair.imp fun h => Nat.le_of_lt h
end Go.Proofs.YtbkhffakhggdaaaDoor.Code
end
section
namespace Go.Proofs.YtbkhffakhggdaaaDoor.Code
open Go Go.Ab Go.Sort
variable {pure : Bool} {base bar : Nat} {H : Heap} {Q : AV → Heap → Prop} {K : AV → Heap → List Nat → Prop}
/-! 75, 69: trays as lists, in ascending order -/
theorem outL_dyN {x : Nat} (hx : x < 64) : outL 1 (nats (dyN x)) = dy x := by
  rw [outL_nats]
  have h0 : dyN x = [] ↔ x = 0 := by
    have : ∀ x, x < 64 → (dyN x = [] ↔ x = 0) := by decide +kernel
    exact this x hx
  unfold dy
  by_cases hc : x = 0
  · rw [if_pos (h0.2 hc), if_pos hc]
  · rw [if_neg (fun e => hc (h0.1 e)), if_neg hc]; rfl
/-- a list of trays under construction, wherever its block lies -/
def OwnZ (k : Nat) (S : List Nat) (v : AV) (H : Heap) : Prop :=
  (S = [] ∧ v = .nils) ∨ ∃ id ver, S ≠ [] ∧ k ≤ id ∧ v = .vec id ver 0 S.length 1 ∧ H[id]? = some (.row ver (dys S) 0 false)
/-- append of a slice of the call's own, frozen -/
theorem appFrz {acc v w : AV} {bytes : Nat} {ex : Bool} {H1 H2 : Heap} (hf : Go.Ab.frz 8 bar H1 v = some (w, H2)) (hv : v.cells = [v])
    (h : ∃ v' H' tc, aappend base bar H2 1 bytes acc [w] = some (v', H', tc) ∧ ∀ tc, K v' H' tc) : appWp base bar 1 bytes (some acc) (some (.lst 1 ex [v])) H1 K := by
  obtain ⟨v', H', tc, h1, h2⟩ := h
  have e : asrc H1 1 (.lst 1 ex [v]) = some [v] := by
    rw [asrc_lst]; simp [hv]
  simp only [appWp, e, frzAll, frz.frzs, frzsW, hf, h1]
  rw [if_neg (by simp)]
  exact h2 _
theorem OwnZ.app {k x : Nat} {S : List Nat} {acc : AV} {H2 : Heap} {bytes : Nat} (g : OwnZ k S acc H2) (hk : k ≤ H2.length) (hb : bar ≤ k) (hbase : base ≤ k) (hlen : (S.length + 1) * bytes ≤ 140737488355328) :
    ∃ v' H' tc, aappend base bar H2 1 bytes acc [dy x] = some (v', H', tc) ∧ OwnZ k (S ++ [x]) v' H' ∧ k ≤ H'.length ∧ H'.take k = H2.take k := by
  rcases g with ⟨rfl, rfl⟩ | ⟨id, ver, hne, hid, rfl, hrow⟩
  · refine ⟨.vec H2.length 0 0 1 1, H2 ++ [.row 0 [dy x] 0 false], [], ?_, .inr ⟨H2.length, 0, by simp, hk, rfl, by simp [dys]⟩, by simp; omega, ?_⟩
    · simp only [aappend]
      rw [if_neg (by simp), if_pos (by simpa using hlen)]
      simp
    · rw [List.take_append_of_le_length hk]
  · have hlt := (List.getElem?_eq_some_iff.1 hrow).1
    refine ⟨.vec id (ver + 1) 0 (S.length + 1) 1, H2.set id (.row (ver + 1) (dys (S ++ [x])) 0 false), [id], ?_, .inr ⟨id, ver + 1, by simp, hid, by simp, by simp [hlt]⟩, by simp; omega, ?_⟩
    · simp only [aappend, if_neg (show ¬ (1 : Nat) ≠ 1 by simp), hrow]
      have hl : (dys S).length = S.length := dys_length
      rw [if_neg (by simp [hl]; omega), if_neg (by simp), if_neg (by simp [hl])]
      simp only [Bool.false_eq_true, if_false]
      rw [if_pos ⟨trivial, by simp, by omega, .inl (by omega)⟩]
      simp only [Nat.mul_one, Nat.zero_add, List.length_singleton, Nat.div_one, dys_append]
      have e1 : (dys S).take S.length ++ [dy x] = dys S ++ dys [x] := by
        rw [List.take_of_length_le (by rw [hl]; exact Nat.le_refl _)]; rfl
      rw [e1]
    · rw [List.take_set]
      rw [List.set_eq_of_length_le (by simp; omega)]
theorem l75 {q : AV} {l : List Nat} {H0 : Heap} (hb : bar ≤ H0.length) (hbase : base ≤ H0.length) (hq : isU q l) (hl : ∀ x ∈ l, x < 64) (hlen : l.length < 1000000) {R : PQ} : ∀ (k i : Nat) (acc : List Nat) (v5 : AV) (H : Heap), i + k = l.length → acc.length = i → OwnZ H0.length acc v5 H → H0.length ≤ H.length → H.take H0.length = H0 →
    (∀ v' H', OwnZ H0.length (acc ++ l.drop i) v' H' → H0.length ≤ H'.length → H'.take H0.length = H0 → R (.exit 0) [(1, .fn 77 [] []), (5, v'), (8, q), (9, .int .i64 (l.length : Nat)), (10, .int .i64 (l.length : Nat)), (11, .bool false)] H') →
    Wp E base bar (.loop c75_l0) [(1, .fn 77 [] []), (5, v5), (8, q), (9, .int .i64 (l.length : Nat)), (10, .int .i64 (i : Nat))] H R := by
  intro k
  induction k with
  | zero =>
    intro i acc v5 H hi hacc g hH ht h
    obtain rfl : i = l.length := by omega
    rw [List.drop_length, List.append_nil] at h
    rw [wp_round c75_l0.eq_1]
    simp [go_sem]
    exact h _ _ g hH ht
  | succ k ih =>
    intro i acc v5 H hi hacc g hH ht h
    have hlt : i < l.length := by omega
    rw [List.drop_eq_getElem_cons hlt] at h
    have hx := hl _ (List.getElem_mem hlt)
    have hix := fun (K : AV → Heap → List Nat → Prop) (k : IntKind) => hq.ix (H := H) (K := K) (k := k) hlt
    generalize l[i] = x at *
    have hs := i64_suc (show i < 1000000 by omega)
    rw [wp_round c75_l0.eq_1]
    simp [go_sem, hlt, hix]
    refine k77 hx (by omega) (by omega) fun v H1 g1 => ?_
    have hvs : v.isTup = false ∧ v.cells = [v] := by
      rcases g1 with ⟨_, rfl, _⟩ | ⟨_, _, _, _, rfl, _⟩ <;> exact ⟨rfl, rfl⟩
    obtain ⟨H2, f1, f2, f3⟩ := gfrz (bar := bar) g1 (by decide) (Nat.one_dvd _) nats_plain (by omega)
    rw [outL_dyN hx] at f1
    have g2 : OwnZ H0.length acc v5 H2 := by
      rcases g with ⟨rfl, rfl⟩ | ⟨id, ver, hne, hid, rfl, hrow⟩
      · exact .inl ⟨rfl, rfl⟩
      · exact .inr ⟨id, ver, hne, hid, rfl, f2.get hrow⟩
    have h2l := f2.len
    have ht2 : H2.take H.length = H := by
      rcases f2 with ⟨_, _, rfl⟩ | ⟨_, _, _, _, _, rfl⟩
      · exact List.take_length
      · simp
    have ht3 : H2.take H0.length = H0 := by
      rw [show H2.take H0.length = (H2.take H.length).take H0.length by rw [List.take_take, Nat.min_eq_left hH], ht2, ht]
    simp [go_sem, aop, fillA, setCells, chunks, hvs.1, hvs.2, f1, dy_isTup, dy_cells]
    rw [wpop_app]
    simp [Opd.ev, go_sem]
    obtain ⟨v', H', tc, a1, a2, a3, a4⟩ := g2.app (base := base) (bar := bar) (x := x) (bytes := 24) (by omega) hb hbase (by omega)
    refine appFrz (H2 := H2) dy_frz dy_cells ⟨v', H', tc, a1, fun tc => ?_⟩
    have next := ih (i + 1) (acc ++ [x]) v' H' (by omega) (by simp; omega) a2 a3 (by rw [a4, ht3]) (by rw [List.append_assoc]; exact h)
    simp [go_sem, hs]
    exact next
theorem k75 {q : AV} {l : List Nat} (hbar : bar ≤ H.length) (hbase : base ≤ H.length) (hq : isU q l) (hl : ∀ x ∈ l, x < 64) (hlen : l.length < 1000000)
    (h : ∀ v' H', OwnZ H.length l v' H' → H.length ≤ H'.length → H'.take H.length = H → Q v' H') : WpCall E false base bar 75 [q, .fn 77 [] []] H Q := by
  rw [call75]
  have hfn : ∀ (d bar : Nat) (H : Heap), Go.Ab.frz (d + 1) bar H (.fn 77 [] []) = some (.fn 77 [] [], H) := fun _ _ _ => rfl
  simp [go_sem, WpFun, c75, hq.frz, hfn, hq.len]
  refine l75 (H0 := H) hbar hbase hq hl hlen l.length 0 [] .nils H (by omega) rfl (.inl ⟨rfl, rfl⟩) (Nat.le_refl _) List.take_length fun v' H' g h1 h2 => ?_
  rw [List.drop_zero, List.nil_append] at g
  simp [go_sem]
  exact h v' H' g h1 h2
theorem k103n (h : Q (.tup []) H) : WpCall E false base bar 103 [.nils, .fn 62 [] []] H Q := by
  have e1 : IntKind.u64.wrap 0 = 0 := by decide
  have hb0 : bitsLen 0 = 0 := by decide
  rw [call103]
  simp [go_sem, WpFun, c103, e1]
  refine k108 (x := 0) (by omega) ?_
  rw [hb0]
  simp [go_sem]
  rw [call114]
  simp [go_sem, WpFun, c114]
  rw [wp_round c114_cut]
  simp [go_sem, h114_1, h114_2]
  rw [call127]
  simp [go_sem, WpFun, c127]
  rw [wp_round c127_l1.eq_1]
  simp [go_sem]
  exact h
theorem set_self {i : Nat} {b : Blk} (h : H[i]? = some b) : H.set i b = H := by
  apply List.ext_getElem?
  intro j
  rw [List.getElem?_set]
  have hl := (List.getElem?_eq_some_iff.1 h).1
  by_cases hj : i = j
  · subst hj; rw [if_pos rfl, if_pos hl, h]
  · rw [if_neg hj]
theorem k69 {q : AV} {l : List Nat} (hbar : bar ≤ H.length) (hq : isU q l) (hl : ∀ x ∈ l, x < 64) (hn : l.Nodup) (hlen : l.length < 60000)
    (h : Q (outL 1 (dys (sortS l))) H) : WpCall E pure base bar 69 [q] H Q := by
  have hbp : (if pure = true then H.length else bar) ≤ H.length := by cases pure <;> simp <;> omega
  rw [call69]
  simp [go_sem, WpFun, c69, hq.frz]
  generalize (if pure = true then H.length else bar) = bar' at *
  refine k75 hbp (Nat.le_refl _) hq hl (by omega) fun v' H' g h1 h2 => ?_
  simp [go_sem]
  rcases g with ⟨rfl, rfl⟩ | ⟨id, ver, hne, hid, rfl, hrow⟩
  · refine k103n ?_
    simp [go_sem, h2]
    exact h
  · have hlt := (List.getElem?_eq_some_iff.1 hrow).1
    let d : Array (Fin 64) := (l.attach.map fun x => (⟨x.1, hl x.1 x.2⟩ : Fin 64)).toArray
    have hd : d.toList.map Fin.val = l := by simp [d]
    have hds : d.size = l.length := by simp [d]
    have hcd : ∀ d : Array (Fin 64), acells dyF d = dys (d.toList.map Fin.val) := fun d => by
      unfold acells dys
      rw [List.map_map]; rfl
    have hc : acells dyF d = dys l := by rw [hcd, hd]
    have hput : putA dyF id ver false H' d = H' := by
      unfold putA
      rw [hc]
      exact set_self hrow
    have hse := sort_eq (d := d) (by rw [hd]; exact hn)
    rw [hd] at hse
    have hk := k103 (Q := fun v H2 => H2 = putA dyF id ver false H' (Sort.sort ltF6 d) ∧ v = .tup []) (base := H.length) (bar := bar') so62 swo62 hlt (by omega) hlen hds ⟨rfl, rfl⟩
    rw [hput] at hk
    obtain ⟨n0, v0, H0', e1, e2, e3⟩ := hk
    subst e2 e3
    refine ⟨n0, _, _, e1, ?_⟩
    have hc2 : acells dyF (Sort.sort ltF6 d) = dys (sortS l) := by rw [hcd, hse]
    have hrow2 : (putA dyF id ver false H' (Sort.sort ltF6 d))[id]? = some (.row ver (dys (sortS l)) 0 false) := by
      rw [putA_get hlt, hc2]
    have hsl : (sortS l).length = l.length := (sortS_perm hl hn).length_eq
    have htk : (putA dyF id ver false H' (Sort.sort ltF6 d)).take H.length = H := by
      unfold putA
      rw [List.take_set, List.set_eq_of_length_le (by simp; omega), h2]
    generalize putA dyF id ver false H' (Sort.sort ltF6 d) = H3 at *
    simp [go_sem]
    have hne2 : sortS l ≠ [] := fun e => hne (List.length_eq_zero_iff.1 (by rw [← hsl, e]; rfl))
    have hdl : (dys (sortS l)).length = l.length := by rw [dys_length, hsl]
    have e := frz_vec (d := 7) (bar := bar') (H := H3) (id := id) (ver := ver) (off := 0) (len := l.length) (sz := 1) (cs := dys (sortS l)) (fz := 0) (ex := false) (xs := dys (sortS l))
      (H' := H3.set id (.row ver (dys (sortS l)) (max 0 (0 + l.length * 1)) false)) hrow2 (by omega) (by omega) (by
        rw [List.drop_zero, Nat.mul_one, List.take_of_length_le (by omega), plains (d := 5) dys_plain])
    rw [e]
    have hch : chunks 1 l.length (dys (sortS l)) = dys (sortS l) := by rw [← hdl, chunks_one]
    have htp : AV.top.tops [AV.lst 1 false (dys (sortS l))] ≤ H.length := by simp [tops_cons, tops_nil, top_lst, dys_tops]
    have htk2 : (H3.set id (.row ver (dys (sortS l)) (max 0 (0 + l.length * 1)) false)).take H.length = H := by
      rw [List.take_set, List.set_eq_of_length_le (by simp; omega), htk]
    rw [hch]
    simp only [leave0_some, if_pos htp, htk2, tupled_one, outWp_some]
    rw [outL_dys, if_neg hne2] at h
    exact h
end Go.Proofs.YtbkhffakhggdaaaDoor.Code
end
section
namespace Go.Proofs.YtbkhffakhggdaaaDoor.Code
open Go Go.Ab
/-! what is near: which sets, each once -/
theorem nr1_mem {up : Bool} {x j u : Nat} {acc : List Nat} : u ∈ nr1 up x acc j ↔ u ∈ acc ∨ (u = xr x j ∧ decide (x < u) = up) := by
  unfold nr1
  by_cases h1 : decide (x < xr x j) = up
  · by_cases h2 : xr x j ∈ acc
    · rw [if_neg (by simp [h2])]
      constructor
      · exact .inl
      · rintro (h | ⟨rfl, _⟩)
        · exact h
        · exact h2
    · rw [if_pos (by simp [h1, h2])]
      rw [List.mem_append, List.mem_singleton]
      constructor
      · rintro (h | rfl)
        · exact .inl h
        · exact .inr ⟨rfl, h1⟩
      · rintro (h | ⟨h, _⟩)
        · exact .inl h
        · exact .inr h
  · rw [if_neg (by simp [h1])]
    constructor
    · exact .inl
    · rintro (h | ⟨rfl, h⟩)
      · exact h
      · exact (h1 h).elim
theorem nr1_nodup {up : Bool} {x j : Nat} {acc : List Nat} (h : acc.Nodup) : (nr1 up x acc j).Nodup := by
  unfold nr1
  split
  · rename_i hc
    rw [List.nodup_append]
    refine ⟨h, by simp, fun a ha b hb => ?_⟩
    simp at hb; subst hb
    intro e; subst e
    simp [ha] at hc
  · exact h
theorem nrs_mem {up : Bool} {x u : Nat} : ∀ {js acc : List Nat}, u ∈ js.foldl (nr1 up x) acc ↔ u ∈ acc ∨ ∃ j ∈ js, u = xr x j ∧ decide (x < u) = up
  | [], acc => by simp
  | j :: js, acc => by
    rw [List.foldl_cons, nrs_mem, nr1_mem, or_assoc]
    simp only [List.mem_cons, exists_eq_or_imp]
theorem nrs_nodup {up : Bool} {x : Nat} : ∀ {js acc : List Nat}, acc.Nodup → (js.foldl (nr1 up x) acc).Nodup
  | [], _, h => h
  | j :: js, acc, h => by
    rw [List.foldl_cons]
    exact nrs_nodup (nr1_nodup h)
theorem near_mem {n u : Nat} {up : Bool} : ∀ {l acc : List Nat}, u ∈ nearB n up acc l ↔ u ∈ acc ∨ ∃ x ∈ l, ∃ j, j < n ∧ u = xr x j ∧ decide (x < u) = up
  | [], acc => by simp [nearB]
  | x :: l, acc => by
    have ih := near_mem (n := n) (u := u) (up := up) (l := l) (acc := (List.range' 0 n).foldl (nr1 up x) acc)
    unfold nearB at ih ⊢
    rw [List.foldl_cons, ih, nrs_mem, or_assoc]
    simp only [List.mem_cons, exists_eq_or_imp, List.mem_range'_1, Nat.zero_le, true_and, Nat.zero_add]
theorem near_nodup {n : Nat} {up : Bool} : ∀ {l acc : List Nat}, acc.Nodup → (nearB n up acc l).Nodup
  | [], _, h => h
  | x :: l, acc, h => near_nodup (l := l) (nrs_nodup (js := List.range' 0 n) h)
theorem near_lt {n : Nat} {up : Bool} {l : List Nat} (hn : n ≤ 6) (hl : ∀ x ∈ l, x < pw n) : ∀ u ∈ nearB n up [] l, u < pw n := fun u hu => by
  rcases near_mem.1 hu with h | ⟨x, hx, j, hj, rfl, _⟩
  · simp at h
  · exact xr_lt hn (hl x hx) hj
end Go.Proofs.YtbkhffakhggdaaaDoor.Code
end
section
namespace Go.Proofs.YtbkhffakhggdaaaDoor.Code
open Go Go.Ab Go.Sort
variable {pure : Bool} {base bar : Nat} {H : Heap} {Q : AV → Heap → Prop} {K : AV → Heap → List Nat → Prop}
/-! 16, 18: shadow and shade -/
theorem opS_nodup {n : Int} : ∀ {ls : List (List Int)} {done : List Nat}, done.Nodup → (opS n done ls).2.Nodup
  | [], done, h => by simpa [opS] using h
  | l :: r, done, h => by
    simp only [opS]
    split
    · simp
    · split
      · simp
      · rename_i hc
        refine opS_nodup ?_
        rw [List.nodup_append]
        refine ⟨h, by simp, fun a ha b hb => ?_⟩
        simp at hb; subst hb
        intro e; subst e
        exact hc (by simpa using ha)
theorem len64 {l : List Nat} (hn : l.Nodup) (h : ∀ x ∈ l, x < 64) : l.length ≤ 64 := by
  have := List.Nodup.length_le_of_subset hn (l₂ := List.range 64) fun x hx => List.mem_range.2 (h x hx)
  simpa using this
theorem pw_64 {n x : Nat} (hn : n ≤ 6) (h : x < pw n) : x < 64 := Nat.lt_of_lt_of_le h (Nat.pow_le_pow_right (by decide) hn)
def nearL (n : Nat) (up : Bool) (S : List Nat) : List Nat := sortS (nearB n up [] S)
theorem nearB_ok {n : Nat} {up : Bool} {S : List Nat} (hn : n ≤ 6) (hS : ∀ x ∈ S, x < pw n) : (nearB n up [] S).Nodup ∧ (∀ x ∈ nearB n up [] S, x < 64) ∧ (nearB n up [] S).length ≤ 64 := by
  have h1 : (nearB n up [] S).Nodup := near_nodup (by simp)
  have h2 : ∀ x ∈ nearB n up [] S, x < 64 := fun x hx => pw_64 hn (near_lt hn hS x hx)
  exact ⟨h1, h2, len64 h1 h2⟩
theorem k16 {n : Nat} {q : AV} {ls : List (List Int)} (h1 : 1 ≤ n) (hn : n ≤ 6) (hq : isVV q ls) (hl : ls.length < 1000) (hll : ∀ l ∈ ls, l.length < 1000) (hbar : bar ≤ H.length)
    (he : (opS n [] ls).1 ≠ 0 → Q (.tup [.nils, .int .i64 (opS n [] ls).1]) H)
    (h0 : (opS n [] ls).1 = 0 → Q (.tup [outL 1 (dys (nearL n false (opS n [] ls).2)), .int .i64 0]) H) : WpCall E pure base bar 16 [.agg [.int .i64 (n : Int), q]] H Q := by
  have hlt := fun h => opS_lt h1 hn (ls := ls) (done := []) (by simp) h
  have hnd : (opS n [] ls).2.Nodup := opS_nodup (by simp)
  have hbp : (if pure = true then H.length else bar) ≤ H.length := by cases pure <;> simp <;> omega
  rw [call16]
  simp [go_sem, WpFun, c16, hq.frz, box2]
  generalize (if pure = true then H.length else bar) = bar' at *
  refine k68 h1 hn hq hl hll (by simp; omega) (fun e => ?_) (fun e => ?_)
  · have := he e
    simp [go_sem, e]
    exact this
  · have := h0 e
    have hlt := hlt e
    generalize (opS n [] ls).2 = S at *
    have hS64 : ∀ x ∈ S, x < 64 := fun x hx => pw_64 hn (hlt x hx)
    obtain ⟨b1, b2, b3⟩ := nearB_ok (up := false) hn hlt
    have hs : isS (outL 1 (dys (nearL n false S))) (nearL n false S) := isS.out
    simp [go_sem, box0]
    refine k70 hn isU.out hS64 (len64 hnd hS64) (by simp; omega) ?_
    simp [go_sem]
    refine k69 (by simp; omega) isU.out b2 b1 (by omega) ?_
    unfold nearL at this hs
    simp [go_sem, hs.frz, tops_cons, tops_nil, hs.top]
    exact this
theorem k18 {n : Nat} {q : AV} {ls : List (List Int)} (h1 : 1 ≤ n) (hn : n ≤ 6) (hq : isVV q ls) (hl : ls.length < 1000) (hll : ∀ l ∈ ls, l.length < 1000) (hbar : bar ≤ H.length)
    (he : (opS n [] ls).1 ≠ 0 → Q (.tup [.nils, .int .i64 (opS n [] ls).1]) H)
    (h0 : (opS n [] ls).1 = 0 → Q (.tup [outL 1 (dys (nearL n true (opS n [] ls).2)), .int .i64 0]) H) : WpCall E pure base bar 18 [.agg [.int .i64 (n : Int), q]] H Q := by
  have hlt := fun h => opS_lt h1 hn (ls := ls) (done := []) (by simp) h
  have hnd : (opS n [] ls).2.Nodup := opS_nodup (by simp)
  have hbp : (if pure = true then H.length else bar) ≤ H.length := by cases pure <;> simp <;> omega
  rw [call18]
  simp [go_sem, WpFun, c18, hq.frz, box2]
  generalize (if pure = true then H.length else bar) = bar' at *
  refine k68 h1 hn hq hl hll (by simp; omega) (fun e => ?_) (fun e => ?_)
  · have := he e
    simp [go_sem, e]
    exact this
  · have := h0 e
    have hlt := hlt e
    generalize (opS n [] ls).2 = S at *
    have hS64 : ∀ x ∈ S, x < 64 := fun x hx => pw_64 hn (hlt x hx)
    obtain ⟨b1, b2, b3⟩ := nearB_ok (up := true) hn hlt
    have hs : isS (outL 1 (dys (nearL n true S))) (nearL n true S) := isS.out
    simp [go_sem, box0]
    refine k70 hn isU.out hS64 (len64 hnd hS64) (by simp; omega) ?_
    simp [go_sem]
    refine k69 (by simp; omega) isU.out b2 b1 (by omega) ?_
    unfold nearL at this hs
    simp [go_sem, hs.frz, tops_cons, tops_nil, hs.top]
    exact this
end Go.Proofs.YtbkhffakhggdaaaDoor.Code
end
section
namespace Go.Proofs.YtbkhffakhggdaaaDoor.Code
open Go Go.Ab Go.Sort
variable {pure : Bool} {base bar : Nat} {H : Heap} {Q : AV → Heap → Prop} {K : AV → Heap → List Nat → Prop}
theorem beqN {a b : Nat} : Nat.beq a b = decide (a = b) := by
  by_cases h : a = b
  · subst h; simp
  · rw [decide_eq_false h]
    cases hb : Nat.beq a b
    · rfl
    · exact (h (Nat.eq_of_beq_eq_true hb)).elim
end Go.Proofs.YtbkhffakhggdaaaDoor.Code
end
section
namespace Go.Proofs.YtbkhffakhggdaaaDoor.Code
open Go Go.Ab Go.Sort
variable {pure : Bool} {base bar : Nat} {H : Heap} {Q : AV → Heap → Prop} {K : AV → Heap → List Nat → Prop}
end Go.Proofs.YtbkhffakhggdaaaDoor.Code
end
section
namespace Go.Proofs.YtbkhffakhggdaaaDoor.Code
open Go Go.Ab Go.Sort
variable {pure : Bool} {base bar : Nat} {H : Heap} {Q : AV → Heap → Prop} {K : AV → Heap → List Nat → Prop}
end Go.Proofs.YtbkhffakhggdaaaDoor.Code
end
section
namespace Go.Proofs.YtbkhffakhggdaaaDoor.Code
open Go Go.Ab
variable {pure : Bool} {base bar : Nat} {H : Heap} {Q : AV → Heap → Prop} {K : AV → Heap → List Nat → Prop}
/-! 42: the reference's check of any shelf -/
def rfC (n : Int) : List (List Int) → List (List Int) → Int
  | _, [] => 0
  | done, l :: r => if errT n (-1) l ≠ 0 then errT n (-1) l else if done.contains l then 6 else rfC n (done ++ [l]) r
theorem rfC_opS {n : Nat} (h1 : 1 ≤ n) (hn : n ≤ 6) : ∀ {ls : List (List Int)} {S : List Nat}, (∀ x ∈ S, x < 64) → rfC n (S.map dyL) ls = (opS n S ls).1
  | [], S, _ => by simp [rfC, opS]
  | l :: r, S, hS => by
    simp only [rfC, opS]
    by_cases he : errT n (-1) l = 0
    · simp only [he, ne_eq, not_true_eq_false, if_false]
      obtain ⟨e1, e2⟩ := dyL_of h1 hn he
      have e64 : orT 0 l < 64 := pw_64 hn e1
      have hc : (S.map dyL).contains l = S.contains (orT 0 l) := by
        rw [Bool.eq_iff_iff, List.contains_iff_mem, List.contains_iff_mem, List.mem_map]
        constructor
        · rintro ⟨x, hx, e⟩
          rw [e2] at e
          rwa [← dyL_inj (hS x hx) e64 e]
        · exact fun h => ⟨_, h, e2.symm⟩
      rw [hc]
      split
      · rfl
      · have := rfC_opS h1 hn (ls := r) (S := S ++ [orT 0 l]) (fun x hx => by
          rcases List.mem_append.1 hx with hx | hx
          · exact hS x hx
          · simp at hx; omega)
        rw [← this, List.map_append, List.map_singleton, ← e2]
    · rw [if_pos he, if_pos he]
theorem l42_1 {id ver fz i : Nat} {ex : Bool} {n : Int} {q v : AV} {l : List Int} {ls : List (List Int)} (hq : isVV q ls) (hv : isV v l) (hl : l.length < 1000) (hll : ∀ l ∈ ls, l.length < 1000) (hi : i < ls.length) (hi2 : i < 1000) (hid : H[id]? = some (.row ver [.int .i64 n, q] fz ex)) {R : PQ} :
    ∀ (c k : Nat), k + c = i →
    (((ls.take i).drop k).contains l = true → R .ret [(2, .int .i64 6)] H) →
    (((ls.take i).drop k).contains l = false → R (.exit 4) [(1, .ptr id ver 0), (3, .int .i64 (i : Int)), (4, v), (6, .int .i64 (i : Int)), (54, .bool false)] H) →
    Wp E base bar (.loop c42_l1) [(1, .ptr id ver 0), (3, .int .i64 (i : Int)), (4, v), (6, .int .i64 (k : Int))] H R := by
  have ld : aload H ⟨false, 1⟩ (.ptr id ver 1) = some q := by rw [aload_ptr hid]; rfl
  have hlt' := (List.getElem?_eq_some_iff.1 hid).1
  intro c
  induction c with
  | zero =>
    intro k hk h1 h2
    obtain rfl : k = i := by omega
    rw [List.drop_eq_nil_of_le (by rw [List.length_take]; omega)] at h2
    rw [wp_round c42_l1.eq_1]
    simp [go_sem]
    exact h2 rfl
  | succ c ih =>
    intro k hk h1 h2
    have hki : k < i := by omega
    have hkl : k < (ls.take i).length := by simp; omega
    rw [List.drop_eq_getElem_cons hkl, List.contains_cons] at h1 h2
    obtain ⟨w, hw, hix⟩ := hq.ix (i := k) (by omega)
    have hwl : (ls[k]'(by omega)).length < 1000 := hll _ (List.getElem_mem _)
    rw [show (ls.take i)[k] = ls[k]'(by omega) by simp] at h1 h2
    generalize ls[k]'(by omega) = m at *
    have hs := i64_suc (show k < 1000000 by omega)
    rw [wp_round c42_l1.eq_1]
    simp [go_sem, hki, ld, hix, hw.fp]
    refine k86 hw hv hwl hl ?_
    by_cases he : m = l
    · subst he
      simp at h1
      simp [go_sem]
      exact h1
    · rw [show (l == m) = false by simpa using fun e => he e.symm, Bool.false_or] at h1 h2
      have next := ih (k + 1) (by omega) h1 h2
      simp [go_sem, he, hs]
      exact next
theorem l42_2 {id ver fz : Nat} {ex : Bool} {n : Nat} {q : AV} {ls : List (List Int)} (hn1 : 1 ≤ n) (hn : n ≤ 6) (hq : isVV q ls) (hl : ls.length < 1000) (hll : ∀ l ∈ ls, l.length < 1000) (hid : H[id]? = some (.row ver [.int .i64 (n : Int), q] fz ex)) {R : PQ} :
    ∀ (c i : Nat), i + c = ls.length →
    (rfC n (ls.take i) (ls.drop i) ≠ 0 → R .ret [(2, .int .i64 (rfC n (ls.take i) (ls.drop i)))] H) →
    (rfC n (ls.take i) (ls.drop i) = 0 → R (.exit 0) [(1, .ptr id ver 0), (3, .int .i64 (ls.length : Nat)), (15, .bool false)] H) →
    Wp E base bar (.loop c42_l2) [(1, .ptr id ver 0), (3, .int .i64 (i : Int))] H R := by
  have ld : aload H ⟨false, 1⟩ (.ptr id ver 1) = some q := by rw [aload_ptr hid]; rfl
  have hlt' := (List.getElem?_eq_some_iff.1 hid).1
  intro c
  induction c with
  | zero =>
    intro i hi h1 h2
    obtain rfl : i = ls.length := by omega
    rw [List.drop_length] at h2
    rw [wp_round c42_l2.eq_1]
    simp [go_sem, ld, hq.len]
    exact h2 rfl
  | succ c ih =>
    intro i hi h1 h2
    have hlt : i < ls.length := by omega
    have htk : ls.take (i + 1) = ls.take i ++ [ls[i]] := by rw [List.take_succ_eq_append_getElem hlt]
    rw [List.drop_eq_getElem_cons hlt] at h1 h2
    obtain ⟨v, hv, hix⟩ := hq.ix (i := i) hlt
    have hvl := hll _ (List.getElem_mem hlt)
    have ih' := ih (i + 1) (by omega)
    rw [htk] at ih'
    generalize ls[i] = l at *
    have hs := i64_suc (show i < 1000000 by omega)
    simp only [rfC] at h1 h2
    rw [wp_round c42_l2.eq_1]
    simp [go_sem, hlt, ld, hq.len, hix, hv.fp]
    refine l42_0 (q := q) hn1 hn hv hvl hid l.length 0 (-1) (by omega) (.inl ⟨rfl, rfl⟩) (fun e => ?_) (fun e => ?_)
    · rw [List.drop_zero] at e
      rw [if_pos e] at h1
      rw [List.drop_zero]
      simp [go_sem]
      exact h1 e
    · rw [List.drop_zero] at e
      rw [if_neg (by simp [e])] at h1 h2
      simp [go_sem]
      refine l42_1 hq hv hvl hll hlt (by omega) hid i 0 (by omega) (fun ec => ?_) (fun ec => ?_)
      · rw [List.drop_zero] at ec
        rw [if_pos ec] at h1
        simp [go_sem]
        exact h1 (by decide)
      · rw [List.drop_zero] at ec
        rw [if_neg (by simpa using ec)] at h1 h2
        have next := ih' h1 h2
        simp [go_sem, hs]
        exact next
theorem k42w {n : Nat} {q : AV} {ls : List (List Int)} (h1 : 1 ≤ n) (hn : n ≤ 6) (hq : isVV q ls) (hl : ls.length < 1000) (hll : ∀ l ∈ ls, l.length < 1000) (h : Q (.int .i64 (opS n [] ls).1) H) : WpCall E pure base bar 42 [.agg [.int .i64 (n : Int), q]] H Q := by
  have hr := rfC_opS h1 hn (ls := ls) (S := []) (by simp)
  rw [← hr] at h
  have hb : (decide (1 ≤ (n : Int)) && decide ((n : Int) ≤ 6)) = true := by
    rw [Bool.and_eq_true, decide_eq_true_eq, decide_eq_true_eq]; omega
  rw [call42]
  simp [go_sem, WpFun, c42, hq.frz, hq.cells, box0, box1]
  refine k84 ?_
  rw [hb]
  simp [go_sem]
  refine l42_2 (id := H.length) (ver := 0) (fz := 0) (ex := true) h1 hn hq hl hll (by rw [own_get0]; rfl) ls.length 0 (by omega) (fun e => ?_) (fun e => ?_)
  · rw [List.take_zero, List.drop_zero] at e ⊢
    simp [go_sem]
    exact h
  · rw [List.take_zero, List.drop_zero] at e
    have h' : Q (.int .i64 0) H := by rw [← e]; exact h
    simp [go_sem]
    exact h'
end Go.Proofs.YtbkhffakhggdaaaDoor.Code
end
section
namespace Go.Proofs.YtbkhffakhggdaaaDoor.Code
open Go Go.Ab
variable {pure : Bool} {base bar : Nat} {H : Heap} {Q : AV → Heap → Prop} {K : AV → Heap → List Nat → Prop}
/-! 71: near, of any shelf's trays -/
theorem k92v {a b : Nat} {v w : AV} (ha : a < 64) (hb : b < 64) (hv : isV v (dyL a)) (hw : isV w (dyL b)) (h : Q (.bool (subB a b)) H) : WpCall E pure base bar 92 [v, w] H Q := by
  refine k92 hv hw (dyL_lt ha) (dyL_lt hb) ?_
  rw [dyL_sub ha hb]; exact h
theorem l71v_0 {id ver fz : Nat} {ex : Bool} {n i u : Nat} {m : Int} {q v5 v6 : AV} {S : List Nat} (hm : m = 1 ∨ m = -1) (hq : isVV q (S.map dyL)) (hS : ∀ t ∈ S, t < 64) (hl : S.length < 1000) (hu : u < 64) (hid : H[id]? = some (.row ver [.int .i64 (n : Int), q] fz ex))
    (h6 : ∀ (k : IntKind) (K : AV → Heap → List Nat → Prop), ixaSWp 1 (some v6) (some (.int k (i : Int))) H K = K (.fp (dy u)) H []) {R : PQ} : ∀ (k j : Nat) (is : Bool), j + k = S.length →
    R (.exit 2) [(1, .int .i64 m), (2, .ptr id ver 0), (5, v5), (6, v6), (7, .int .i64 (i : Nat)), (8, .bool (is || (S.drop j).any (relB m u))), (9, .int .i64 (S.length : Nat)), (24, .bool false)] H →
    Wp E base bar (.loop c71_l0) [(1, .int .i64 m), (2, .ptr id ver 0), (5, v5), (6, v6), (7, .int .i64 (i : Nat)), (8, .bool is), (9, .int .i64 (j : Nat))] H R := by
  have ld : aload H ⟨false, 1⟩ (.ptr id ver 1) = some q := by rw [aload_ptr hid]; rfl
  have hql := fun K => hq.len (H := H) (K := K)
  simp only [List.length_map] at hql
  have hvu := isV_dyL hu
  intro k
  induction k with
  | zero =>
    intro j is hj h
    obtain rfl : j = S.length := by omega
    rw [List.drop_length] at h
    simp only [List.any_nil, Bool.or_false] at h
    rw [wp_round c71_l0.eq_1]
    simp [go_sem, ld, hql]
    exact h
  | succ k ih =>
    intro j is hj h
    have hlt : j < S.length := by omega
    rw [List.drop_eq_getElem_cons hlt, List.any_cons, ← Bool.or_assoc] at h
    have ht := hS _ (List.getElem_mem hlt)
    obtain ⟨w, hw, hix⟩ := hq.ix (i := j) (by simpa using hlt)
    rw [List.getElem_map] at hw
    generalize S[j] = t at *
    have hs := i64_suc (show j < 1000000 by omega)
    have next := ih (j + 1) _ (by omega) h
    have hwl := fun K => hw.len (H := H) (K := K)
    simp only [dyL_len ht] at hwl
    rw [wp_round c71_l0.eq_1]
    cases is
    · simp only [Bool.false_or, relB] at next
      have hwr := wrap_pc (t := t) hm
      by_cases hp : (pc u : Int) = (pc t : Int) + m
      · simp [hp] at next
        simp [go_sem, ld, hql, hlt, hix, h6, dy_fp, hw.fp, dy_len hu, hwl, hwr, hp]
        refine k92v hu ht hvu hw ?_
        cases h1 : subB u t
        · rw [h1] at next
          simp only [Bool.false_or] at next
          simp [go_sem]
          simp [go_sem, hix, h6, dy_fp, hw.fp]
          refine k92v ht hu hw hvu ?_
          simp [go_sem, hs]
          exact next
        · rw [h1] at next
          simp only [Bool.true_or] at next
          simp [go_sem, hs]
          exact next
      · simp [hp] at next
        simp [go_sem, ld, hql, hlt, hix, h6, dy_fp, hw.fp, dy_len hu, hwl, hwr, hp, hs]
        exact next
    · simp only [Bool.true_or] at next
      simp [go_sem, ld, hql, hlt, hix, hw.fp, hs]
      exact next
theorem l71v_1 {id ver fz : Nat} {ex : Bool} {n : Nat} {m : Int} {q : AV} {S : List Nat} {H0 : Heap} (h1 : 1 ≤ n) (hn : n ≤ 6) (hm : m = 1 ∨ m = -1) (hq : isVV q (S.map dyL)) (hS : ∀ t ∈ S, t < 64) (hl : S.length < 1000) (hid : H0[id]? = some (.row ver [.int .i64 (n : Int), q] fz ex))
    (hb : bar ≤ H0.length) (hbase : base ≤ H0.length) {R : PQ} : ∀ (k i : Nat) (acc : List Nat) (v5 : AV) (H : Heap), i + k = (allS n).length → acc.length ≤ i → Grow 1 (dys acc) H0 v5 H →
    (∀ v' H', Grow 1 (dys (acc ++ ((allS n).drop i).filter fun u => S.any (relB m u))) H0 v' H' → R (.exit 0) [(1, .int .i64 m), (2, .ptr id ver 0), (5, v'), (6, al n), (7, .int .i64 ((allS n).length : Nat)), (17, .bool false)] H') →
    Wp E base bar (.loop c71_l1) [(1, .int .i64 m), (2, .ptr id ver 0), (5, v5), (6, al n), (7, .int .i64 (i : Nat))] H R := by
  have hA := allS_lt h1 hn
  have hAl := allS_len hn
  have hal := isS_al (n := n)
  generalize al n = a6 at *
  generalize allS n = A at *
  intro k
  induction k with
  | zero =>
    intro i acc v5 H hi hacc g h
    obtain rfl : i = A.length := by omega
    rw [List.drop_length] at h
    simp only [List.filter_nil, List.append_nil] at h
    rw [wp_round c71_l1.eq_1]
    simp [go_sem, hal.len]
    exact h _ _ g
  | succ k ih =>
    intro i acc v5 H hi hacc g h
    have hlt : i < A.length := by omega
    rw [List.drop_eq_getElem_cons hlt, List.filter_cons] at h
    have hu := hA _ (List.getElem_mem hlt)
    have hix := fun (k : IntKind) (K : AV → Heap → List Nat → Prop) => hal.ix (H := H) (K := K) (k := k) hlt
    have hs := i64_suc (show i < 1000000 by omega)
    generalize A[i] = u at *
    have ld : aload H ⟨false, 1⟩ (.ptr id ver 1) = some q := by rw [aload_ptr (g.get hid)]; rfl
    rw [wp_round c71_l1.eq_1]
    simp [go_sem, hal.len, hlt]
    refine l71v_0 hm hq hS hl hu (g.get hid) hix S.length 0 false (by omega) ?_
    rw [List.drop_zero]
    cases hc : S.any (relB m u)
    · rw [hc] at h
      simp only [Bool.false_eq_true, if_false] at h
      have next := ih (i + 1) acc v5 H (by omega) (by omega) g h
      simp [go_sem, hs]
      exact next
    · rw [hc] at h
      simp only [if_true] at h
      simp [go_sem, hix, dy_fp, dy_isTup, dy_cells, dy_frz, aop, fillA, setCells, chunks, AV.noVec.noVecs, dy_noVec]
      rw [wpop_app]
      simp [Opd.ev, go_sem]
      refine gdys g hb hbase (by omega) fun v' H' tc g' => ?_
      have next := ih (i + 1) (acc ++ [u]) v' H' (by omega) (by simp; omega) g' (by rw [List.append_assoc]; exact h)
      simp [go_sem, hs]
      exact next
theorem k71v {n : Nat} {m : Int} {q : AV} {S : List Nat} (h1 : 1 ≤ n) (hn : n ≤ 6) (hm : m = 1 ∨ m = -1) (hq : isVV q (S.map dyL)) (hS : ∀ t ∈ S, t < 64) (hl : S.length < 1000) (hbar : bar ≤ H.length)
    (h : Q (outL 1 (dys (nearS n S m))) H) : WpCall E pure base bar 71 [.agg [.int .i64 (n : Int), q], .int .i64 m] H Q := by
  rw [call71]
  simp [go_sem, WpFun, c71, hq.frz, hq.cells, box0]
  refine (call85 h1 hn).2 ?_
  simp [go_sem]
  refine l71v_1 (H0 := H ++ [.row 0 [.int .i64 (n : Int), q] 0 true]) h1 hn hm hq hS hl (own_get0 (l := [.row 0 [.int .i64 (n : Int), q] 0 true]) |>.trans rfl) (by cases pure <;> simp <;> omega) (by simp) (allS n).length 0 [] .nils _ (by omega) (by simp) (by exact Grow.nil) fun v' H' g => ?_
  rw [List.drop_zero, List.nil_append] at g
  simp [go_sem]
  refine goutD g (by cases pure <;> simp <;> omega) (by simp) ?_
  simp
  exact h
/-- both programs' lists are the same -/
theorem allS_six {n : Nat} (h1 : 1 ≤ n) (hn : n ≤ 6) : allS n = (allS 6).filter fun u => decide (u < pw n) := by
  have : ((List.range' 1 6).all fun n => allS n == (allS 6).filter fun u => decide (u < pw n)) = true := by decide +kernel
  exact eq_of_beq (List.all_eq_true.1 this n (List.mem_range'_1.2 ⟨h1, by omega⟩))
def upM (up : Bool) : Int := if up then 1 else -1
theorem rel_all : ((List.range' 1 6).all fun n => [false, true].all fun up => (List.range (2 ^ n)).all fun u => (List.range (2 ^ n)).all fun t => relB (upM up) u t == (List.range n).any fun j => Nat.beq u (xr t j) && (decide (t < u) == up)) = true := by decide +kernel
theorem near_eq {n : Nat} {up : Bool} {S : List Nat} (h1 : 1 ≤ n) (hn : n ≤ 6) (hS : ∀ t ∈ S, t < pw n) : nearS n S (upM up) = nearL n up S := by
  unfold nearS nearL sortS
  rw [allS_six h1 hn, List.filter_filter]
  apply List.filter_congr
  intro u hu
  have hrel : ∀ t ∈ S, u < pw n → relB (upM up) u t = (List.range n).any fun j => Nat.beq u (xr t j) && (decide (t < u) == up) := fun t ht hup => by
    have h := List.all_eq_true.1 rel_all n (List.mem_range'_1.2 ⟨h1, by omega⟩)
    have h := List.all_eq_true.1 h up (by cases up <;> simp)
    exact eq_of_beq (List.all_eq_true.1 (List.all_eq_true.1 h u (List.mem_range.2 hup)) t (List.mem_range.2 (hS t ht)))
  rw [Bool.eq_iff_iff, Bool.and_eq_true, List.any_eq_true, decide_eq_true_eq, List.contains_iff_mem, near_mem]
  constructor
  · rintro ⟨⟨t, ht, hr⟩, hup⟩
    rw [hrel t ht hup] at hr
    obtain ⟨j, hj, hb⟩ := List.any_eq_true.1 hr
    rw [Bool.and_eq_true] at hb
    exact .inr ⟨t, ht, j, List.mem_range.1 hj, Nat.eq_of_beq_eq_true hb.1, eq_of_beq hb.2⟩
  · rintro (h | ⟨t, ht, j, hj, e, hd⟩)
    · simp at h
    · have hup : u < pw n := by rw [e]; exact xr_lt hn (hS t ht) hj
      refine ⟨⟨t, ht, ?_⟩, hup⟩
      rw [hrel t ht hup]
      refine List.any_eq_true.2 ⟨j, List.mem_range.2 hj, ?_⟩
      rw [Bool.and_eq_true]
      exact ⟨by rw [beqN, ← e]; simp, by rw [hd]; simp⟩
end Go.Proofs.YtbkhffakhggdaaaDoor.Code
end
section
namespace Go.Proofs.YtbkhffakhggdaaaDoor.Code
open Go Go.Ab
variable {pure : Bool} {base bar : Nat} {H : Heap} {Q : AV → Heap → Prop} {K : AV → Heap → List Nat → Prop}
/-! any shelf as an argument -/
/-- the error of a shelf -/
def errZ (z : Int) (ls : List (List Int)) : Int := if 1 ≤ z ∧ z ≤ 6 then (opS z [] ls).1 else 1
theorem nearS_lt {z : Int} {ls : List (List Int)} (h : 1 ≤ z ∧ z ≤ 6) (he : (opS z [] ls).1 = 0) : ∀ x ∈ (opS z [] ls).2, x < pw z.toNat := by
  obtain ⟨n, rfl⟩ := Int.eq_ofNat_of_zero_le (show 0 ≤ z by omega)
  rw [Int.toNat_natCast]
  exact opS_lt (n := n) (by omega) (by omega) (by simp) he
/-- the lists that were checked are those of their sets -/
theorem opS_map {n : Nat} (h1 : 1 ≤ n) (hn : n ≤ 6) : ∀ {ls : List (List Int)} {S : List Nat}, (opS n S ls).1 = 0 → S.map dyL ++ ls = (opS n S ls).2.map dyL
  | [], S, _ => by simp [opS]
  | l :: r, S, h => by
    simp only [opS] at h ⊢
    by_cases he : errT n (-1) l = 0
    · simp only [he, ne_eq, not_true_eq_false, if_false] at h ⊢
      by_cases hc : S.contains (orT 0 l) = true
      · rw [if_pos hc] at h; cases h
      · rw [if_neg hc] at h ⊢
        have := opS_map h1 hn (ls := r) (S := S ++ [orT 0 l]) h
        rw [← this, List.map_append, List.map_singleton, ← (dyL_of h1 hn he).2, List.append_assoc]
        rfl
    · rw [if_pos he] at h
      exact (he h).elim
theorem k16v {z : Int} {q : AV} {ls : List (List Int)} (hq : isVV q ls) (hl : ls.length < 1000) (hll : ∀ l ∈ ls, l.length < 1000) (hbar : bar ≤ H.length)
    (he : errZ z ls ≠ 0 → Q (.tup [.nils, .int .i64 (errZ z ls)]) H)
    (h0 : errZ z ls = 0 → 1 ≤ z ∧ z ≤ 6 → Q (.tup [outL 1 (dys (nearL z.toNat false (opS z [] ls).2)), .int .i64 0]) H) : WpCall E pure base bar 16 [.agg [.int .i64 z, q]] H Q := by
  unfold errZ at he h0
  by_cases hz : 1 ≤ z ∧ z ≤ 6
  · rw [if_pos hz] at he h0
    obtain ⟨n, rfl⟩ := Int.eq_ofNat_of_zero_le (show 0 ≤ z by omega)
    rw [Int.toNat_natCast] at h0
    exact k16 (by omega) (by omega) hq hl hll hbar he fun e => h0 e hz
  · rw [if_neg hz] at he
    have := he (by decide)
    rw [call16]
    simp [go_sem, WpFun, c16, hq.frz, box2]
    refine k68o hz (fun _ _ _ => hq.frz) hq.cells ?_
    simp [go_sem]
    exact this
theorem k18v {z : Int} {q : AV} {ls : List (List Int)} (hq : isVV q ls) (hl : ls.length < 1000) (hll : ∀ l ∈ ls, l.length < 1000) (hbar : bar ≤ H.length)
    (he : errZ z ls ≠ 0 → Q (.tup [.nils, .int .i64 (errZ z ls)]) H)
    (h0 : errZ z ls = 0 → 1 ≤ z ∧ z ≤ 6 → Q (.tup [outL 1 (dys (nearL z.toNat true (opS z [] ls).2)), .int .i64 0]) H) : WpCall E pure base bar 18 [.agg [.int .i64 z, q]] H Q := by
  unfold errZ at he h0
  by_cases hz : 1 ≤ z ∧ z ≤ 6
  · rw [if_pos hz] at he h0
    obtain ⟨n, rfl⟩ := Int.eq_ofNat_of_zero_le (show 0 ≤ z by omega)
    rw [Int.toNat_natCast] at h0
    exact k18 (by omega) (by omega) hq hl hll hbar he fun e => h0 e hz
  · rw [if_neg hz] at he
    have := he (by decide)
    rw [call18]
    simp [go_sem, WpFun, c18, hq.frz, box2]
    refine k68o hz (fun _ _ _ => hq.frz) hq.cells ?_
    simp [go_sem]
    exact this
theorem k42z {z : Int} {q : AV} {ls : List (List Int)} (hq : isVV q ls) (hl : ls.length < 1000) (hll : ∀ l ∈ ls, l.length < 1000) (h : Q (.int .i64 (errZ z ls)) H) : WpCall E pure base bar 42 [.agg [.int .i64 z, q]] H Q := by
  unfold errZ at h
  by_cases hz : 1 ≤ z ∧ z ≤ 6
  · rw [if_pos hz] at h
    obtain ⟨n, rfl⟩ := Int.eq_ofNat_of_zero_le (show 0 ≤ z by omega)
    exact k42w (by omega) (by omega) hq hl hll h
  · rw [if_neg hz] at h
    exact k42o hz (fun _ _ _ => hq.frz) hq.cells h
theorem k17v {z : Int} {q : AV} {ls : List (List Int)} (hq : isVV q ls) (hl : ls.length < 1000) (hll : ∀ l ∈ ls, l.length < 1000) (hbar : bar ≤ H.length)
    (he : errZ z ls ≠ 0 → Q (.tup [.nils, .int .i64 (errZ z ls)]) H)
    (h0 : errZ z ls = 0 → 1 ≤ z ∧ z ≤ 6 → Q (.tup [outL 1 (dys (nearL z.toNat false (opS z [] ls).2)), .int .i64 0]) H) : WpCall E pure base bar 17 [.agg [.int .i64 z, q]] H Q := by
  have hbp : (if pure = true then H.length else bar) ≤ H.length := by cases pure <;> simp <;> omega
  rw [call17]
  simp [go_sem, WpFun, c17, hq.frz, box2]
  generalize (if pure = true then H.length else bar) = bar' at *
  refine k42z hq hl hll ?_
  by_cases e : errZ z ls = 0
  · have hz : 1 ≤ z ∧ z ≤ 6 := Classical.byContradiction fun hc => by simp [errZ, if_neg hc] at e
    have := h0 e hz
    have e' : (opS z [] ls).1 = 0 := by simpa [errZ, if_pos hz] using e
    have hlt := nearS_lt hz e'
    have hmap : ls = (opS z [] ls).2.map dyL := by
      obtain ⟨n, rfl⟩ := Int.eq_ofNat_of_zero_le (show 0 ≤ z by omega)
      simpa using opS_map (n := n) (by omega) (by omega) (S := []) e'
    obtain ⟨n, rfl⟩ := Int.eq_ofNat_of_zero_le (show 0 ≤ z by omega)
    rw [Int.toNat_natCast] at this hlt
    rw [hmap] at hq
    have hlS : (opS (n : Int) [] ls).2.length < 1000 := by
      have := congrArg List.length hmap
      simp at this; omega
    rw [← near_eq (by omega) (by omega) hlt] at this
    generalize (opS (n : Int) [] ls).2 = S at *
    have hs : isS (outL 1 (dys (nearS n S (-1)))) (nearS n S (-1)) := isS.out
    simp [go_sem, e]
    simp [go_sem, box2]
    refine k71v (by omega) (by omega) (.inr rfl) hq (fun x hx => pw_64 (by omega) (hlt x hx)) hlS (by simp; omega) ?_
    simp [go_sem, hs.frz, tops_cons, tops_nil, hs.top]
    exact this
  · have := he e
    simp [go_sem, e]
    exact this
theorem k19v {z : Int} {q : AV} {ls : List (List Int)} (hq : isVV q ls) (hl : ls.length < 1000) (hll : ∀ l ∈ ls, l.length < 1000) (hbar : bar ≤ H.length)
    (he : errZ z ls ≠ 0 → Q (.tup [.nils, .int .i64 (errZ z ls)]) H)
    (h0 : errZ z ls = 0 → 1 ≤ z ∧ z ≤ 6 → Q (.tup [outL 1 (dys (nearL z.toNat true (opS z [] ls).2)), .int .i64 0]) H) : WpCall E pure base bar 19 [.agg [.int .i64 z, q]] H Q := by
  have hbp : (if pure = true then H.length else bar) ≤ H.length := by cases pure <;> simp <;> omega
  rw [call19]
  simp [go_sem, WpFun, c19, hq.frz, box2]
  generalize (if pure = true then H.length else bar) = bar' at *
  refine k42z hq hl hll ?_
  by_cases e : errZ z ls = 0
  · have hz : 1 ≤ z ∧ z ≤ 6 := Classical.byContradiction fun hc => by simp [errZ, if_neg hc] at e
    have := h0 e hz
    have e' : (opS z [] ls).1 = 0 := by simpa [errZ, if_pos hz] using e
    have hlt := nearS_lt hz e'
    have hmap : ls = (opS z [] ls).2.map dyL := by
      obtain ⟨n, rfl⟩ := Int.eq_ofNat_of_zero_le (show 0 ≤ z by omega)
      simpa using opS_map (n := n) (by omega) (by omega) (S := []) e'
    obtain ⟨n, rfl⟩ := Int.eq_ofNat_of_zero_le (show 0 ≤ z by omega)
    rw [Int.toNat_natCast] at this hlt
    rw [hmap] at hq
    have hlS : (opS (n : Int) [] ls).2.length < 1000 := by
      have := congrArg List.length hmap
      simp at this; omega
    rw [← near_eq (by omega) (by omega) hlt] at this
    generalize (opS (n : Int) [] ls).2 = S at *
    have hs : isS (outL 1 (dys (nearS n S 1))) (nearS n S 1) := isS.out
    simp [go_sem, e]
    simp [go_sem, box2]
    refine k71v (by omega) (by omega) (.inl rfl) hq (fun x hx => pw_64 (by omega) (hlt x hx)) hlS (by simp; omega) ?_
    simp [go_sem, hs.frz, tops_cons, tops_nil, hs.top]
    exact this
  · have := he e
    simp [go_sem, e]
    exact this
/-! 20: the same lists -/
theorem l20 {v w : AV} {S : List Nat} (hv : isS v S) (hw : isS w S) (hS : ∀ x ∈ S, x < 64) (hl : S.length < 1000) {R : PQ} : ∀ (k i : Nat), i + k = S.length →
    (∀ y, R (.exit 0) [(0, v), (1, w), (5, y), (14, .bool false)] H) → Wp E base bar (.loop c20_l0) [(0, v), (1, w), (5, .int .i64 (i : Int))] H R := by
  intro k
  induction k with
  | zero =>
    intro i hi h
    obtain rfl : i = S.length := by omega
    rw [wp_round c20_l0.eq_1]
    simp [go_sem, hv.len]
    exact h _
  | succ k ih =>
    intro i hi h
    have hlt : i < S.length := by omega
    have hx := hS _ (List.getElem_mem hlt)
    have hix := fun (K : AV → Heap → List Nat → Prop) (k : IntKind) => hv.ix (H := H) (K := K) (k := k) hlt
    have hjx := fun (K : AV → Heap → List Nat → Prop) (k : IntKind) => hw.ix (H := H) (K := K) (k := k) hlt
    generalize S[i] = x at *
    have hs := i64_suc (show i < 1000000 by omega)
    rw [wp_round c20_l0.eq_1]
    simp [go_sem, hv.len, hlt, hix, hjx, dy_fp]
    refine k29s hx hx ?_
    simp [go_sem, hs]
    exact ih (i + 1) (by omega) h
theorem k20s {v w : AV} {S : List Nat} (hv : isS v S) (hw : isS w S) (hS : ∀ x ∈ S, x < 64) (hl : S.length < 1000) (h : Q (.bool true) H) : WpCall E pure base bar 20 [v, w] H Q := by
  rw [call20]
  simp [go_sem, WpFun, c20, hv.frz, hw.frz, hv.len, hw.len]
  refine l20 hv hw hS hl S.length 0 (by omega) fun y => ?_
  simp [go_sem]
  exact h
/-! 14: much too large? -/
def lg (ls : List (List Int)) : Bool := decide (80 < ls.length) || ls.any fun l => decide (30 < l.length)
theorem l14 {z : Int} {q : AV} {ls : List (List Int)} {id ver fz : Nat} {ex : Bool} (hq : isVV q ls) (hl : ls.length ≤ 80) (hid : H[id]? = some (.row ver [.int .i64 z, q] fz ex)) {R : PQ} : ∀ (k i : Nat), i + k = ls.length →
    ((ls.drop i).any (fun l => decide (30 < l.length)) = true → R .ret [(2, .bool true)] H) →
    ((ls.drop i).any (fun l => decide (30 < l.length)) = false → R (.exit 0) [(1, .ptr id ver 0), (3, .int .i64 (ls.length : Nat)), (12, .bool false)] H) →
    Wp E base bar (.loop c14_l0) [(1, .ptr id ver 0), (3, .int .i64 (i : Int))] H R := by
  have ld : aload H ⟨false, 1⟩ (.ptr id ver 1) = some q := by rw [aload_ptr hid]; rfl
  intro k
  induction k with
  | zero =>
    intro i hi h1 h2
    obtain rfl : i = ls.length := by omega
    rw [List.drop_length] at h2
    rw [wp_round c14_l0.eq_1]
    simp [go_sem, ld, hq.len]
    exact h2 rfl
  | succ k ih =>
    intro i hi h1 h2
    have hlt : i < ls.length := by omega
    rw [List.drop_eq_getElem_cons hlt, List.any_cons] at h1 h2
    obtain ⟨v, hv, hix⟩ := hq.ix (i := i) hlt
    generalize ls[i] = l at *
    have hs := i64_suc (show i < 1000000 by omega)
    rw [wp_round c14_l0.eq_1]
    by_cases hb : 30 < l.length
    · have hb1 : (30 : Int) < (l.length : Int) := by omega
      have := h1 (by simp [hb])
      simp [go_sem, ld, hq.len, hlt, hix, hv.fp, hv.len, hb1]
      exact this
    · have hb1 : ¬ (30 : Int) < (l.length : Int) := by omega
      rw [show decide (30 < l.length) = false from decide_eq_false hb, Bool.false_or] at h1 h2
      simp [go_sem, ld, hq.len, hlt, hix, hv.fp, hv.len, hb1, hs]
      exact ih (i + 1) (by omega) h1 h2
theorem k14 {z : Int} {q : AV} {ls : List (List Int)} (hq : isVV q ls) (h : Q (.bool (lg ls)) H) : WpCall E pure base bar 14 [.agg [.int .i64 z, q]] H Q := by
  unfold lg at h
  rw [call14]
  by_cases hb : 80 < ls.length
  · have hb1 : (80 : Int) < (ls.length : Int) := by omega
    rw [show decide (80 < ls.length) = true from decide_eq_true hb, Bool.true_or] at h
    simp [go_sem, WpFun, c14, hq.frz, box1, hq.len, hb1]
    exact h
  · have hb1 : ¬ (80 : Int) < (ls.length : Int) := by omega
    rw [show decide (80 < ls.length) = false from decide_eq_false hb, Bool.false_or] at h
    simp [go_sem, WpFun, c14, hq.frz, box1, hq.len, hb1]
    refine l14 (id := H.length) (ver := 0) (fz := 0) (ex := true) (z := z) hq (by omega) (by rw [own_get0]; rfl) ls.length 0 (by omega) (fun e => ?_) (fun e => ?_)
    all_goals
      rw [List.drop_zero] at e
      rw [e] at h
      simp [go_sem]
      exact h
theorem law3 {z : Int} {q : AV} {ls : List (List Int)} (hq : isVV q ls) : WpCall E false 0 0 3 [.agg [.int .i64 z, q]] [] (fun v _ => v = .bool true) := by
  rw [call3]
  simp [go_sem, WpFun, c3, hq.frz, hq.cells]
  simp [go_sem, aload, Ab.part]
  refine k14 hq ?_
  cases hlg : lg ls
  · have hl : ls.length < 1000 := by
      unfold lg at hlg
      rw [Bool.or_eq_false_iff] at hlg
      have := of_decide_eq_false hlg.1
      omega
    have hll : ∀ l ∈ ls, l.length < 1000 := fun l hl => by
      unfold lg at hlg
      rw [Bool.or_eq_false_iff, List.any_eq_false] at hlg
      have := hlg.2 l hl
      simp at this
      omega
    simp [go_sem, storeWp, astore, setCells, aload, Ab.part, hq.isTup, hq.cells, hq.top, AV.top.tops, AV.top]
    have hfin : ∀ (A C : List Nat) (a b c d : AV) (e : Int), isS a A → isS b A → isS c C → isS d C → (∀ x ∈ A, x < 64) → (∀ x ∈ C, x < 64) → A.length < 1000 → C.length < 1000 → True := fun _ _ _ _ _ _ _ _ _ _ _ _ _ _ _ => trivial
    by_cases e : errZ z ls = 0
    · have hz : 1 ≤ z ∧ z ≤ 6 := Classical.byContradiction fun hc => by simp [errZ, if_neg hc] at e
      have e' : (opS z [] ls).1 = 0 := by simpa [errZ, if_pos hz] using e
      have hlt := nearS_lt hz e'
      have n6 : z.toNat ≤ 6 := by omega
      obtain ⟨b1, b2, b3⟩ := nearB_ok (up := false) n6 hlt
      obtain ⟨d1, d2, d3⟩ := nearB_ok (up := true) n6 hlt
      have pA := sortS_perm b2 b1
      have pC := sortS_perm d2 d1
      have hA64 : ∀ x ∈ nearL z.toNat false (opS z [] ls).2, x < 64 := fun x hx => b2 x (pA.mem_iff.1 hx)
      have hC64 : ∀ x ∈ nearL z.toNat true (opS z [] ls).2, x < 64 := fun x hx => d2 x (pC.mem_iff.1 hx)
      have hAl : (nearL z.toNat false (opS z [] ls).2).length ≤ 64 := by unfold nearL; rw [pA.length_eq]; exact b3
      have hCl : (nearL z.toNat true (opS z [] ls).2).length ≤ 64 := by unfold nearL; rw [pC.length_eq]; exact d3
      have sA : isS (outL 1 (dys (nearL z.toNat false (opS z [] ls).2))) (nearL z.toNat false (opS z [] ls).2) := isS.out
      have sC : isS (outL 1 (dys (nearL z.toNat true (opS z [] ls).2))) (nearL z.toNat true (opS z [] ls).2) := isS.out
      refine k16v hq hl hll (Nat.zero_le _) (fun c => (c e).elim) (fun _ _ => ?_)
      simp [go_sem, aload, Ab.part]
      refine k17v hq hl hll (Nat.zero_le _) (fun c => (c e).elim) (fun _ _ => ?_)
      simp [go_sem, aload, Ab.part]
      refine k18v hq hl hll (Nat.zero_le _) (fun c => (c e).elim) (fun _ _ => ?_)
      simp [go_sem, aload, Ab.part]
      refine k19v hq hl hll (Nat.zero_le _) (fun c => (c e).elim) (fun _ _ => ?_)
      generalize outL 1 (dys (nearL z.toNat false (opS z [] ls).2)) = a at *
      generalize outL 1 (dys (nearL z.toNat true (opS z [] ls).2)) = c at *
      simp [go_sem]
      refine k20s sA sA hA64 (by omega) ?_
      simp [go_sem]
      refine k20s sC sC hC64 (by omega) ?_
      simp [go_sem]
      refine call15.2 ?_
      simp [go_sem]
    · have sN : isS .nils [] := .inl ⟨rfl, rfl⟩
      refine k16v hq hl hll (Nat.zero_le _) (fun _ => ?_) (fun c => (e c).elim)
      simp [go_sem, aload, Ab.part]
      refine k17v hq hl hll (Nat.zero_le _) (fun _ => ?_) (fun c => (e c).elim)
      simp [go_sem, aload, Ab.part]
      refine k18v hq hl hll (Nat.zero_le _) (fun _ => ?_) (fun c => (e c).elim)
      simp [go_sem, aload, Ab.part]
      refine k19v hq hl hll (Nat.zero_le _) (fun _ => ?_) (fun c => (e c).elim)
      simp [go_sem]
      refine k20s sN sN (by simp) (by simp) ?_
      simp [go_sem]
      refine k20s sN sN (by simp) (by simp) ?_
      simp [go_sem]
      refine call15.2 ?_
      simp [go_sem]
  · simp [go_sem]
    refine call15.2 ?_
    simp [go_sem]
theorem near_true {z : Int} {q : AV} {ls : List (List Int)} (hq : isVV q ls) : ∃ f H', acall E f 3 [.agg [.int .i64 z, q]] [] = some (.bool true, H') := by
  obtain ⟨f, v, H', h, rfl⟩ := law3 (z := z) hq
  exact ⟨f, H', h⟩
end Go.Proofs.YtbkhffakhggdaaaDoor.Code
end
section
namespace Go.Proofs.YtbkhffakhggdaaaDoor.Code
open Go Go.Ab Go.RowKit Go.ChangeShapes Go.WideShapes
variable {H : Type} {enc : TypeId × Value → H} {P : Program} {W : World} {spare : Nat → Bool} {held : Bool}
/-! a shelf as an argument: lists of lists -/
theorem allV_get : ∀ {vs : List AV} {ls : List (List Int)}, vs.length = ls.length → (∀ (i : Nat) (v : AV) (l : List Int), vs[i]? = some v → ls[i]? = some l → isV v l) → allV vs ls
  | [], [], _, _ => trivial
  | v :: vs, l :: ls, h, g => ⟨g 0 v l rfl rfl, allV_get (by simpa using h) fun i v l hv hl => g (i + 1) v l hv hl⟩
  | [], _ :: _, h, _ => by simp at h
  | _ :: _, [], h, _ => by simp at h
theorem isV.one {v : AV} {l : List Int} (h : isV v l) : v.one = true := by
  rcases h with ⟨rfl, rfl⟩ | rfl <;> rfl
theorem addr_add (b o n : Nat) : (⟨b, o, none⟩ : Addr).add n = ⟨b, o + n, none⟩ := by
  unfold Addr.add
  split <;> simp_all
theorem cell_block {b o : Nat} {u : Value} (hu : W.cell? ⟨b, o, none⟩ = some u) : b < W.heap.size := by
  unfold World.cell? at hu
  split at hu
  · rename_i hh; exact (Array.getElem?_eq_some_iff.1 hh).1
  · cases hu
/-- a list of numbers in a cell -/
theorem vints_cell {t e : TypeId} {v : Value} {fuel : Nat} {x : DataW H × List MemPlace} (ht : P.underlying t = some (.slice e)) (he : P.underlying e = some (.int .i64)) (ce : P.cellsOf e = 1)
    (h : DataW.trod enc P W 0 spare held fuel t [v] = some x) : ∃ q l, VR (ctx0 W) q v ∧ isV q l := by
  rcases DataW.trod_slice ht h with ⟨h1, _⟩ | ⟨a, len, cap, elems, rest, k, rfl, h1, h2, h3, h4, h5, h6, h7, h8⟩
  · simp only [List.cons.injEq, and_true] at h1
    subst h1
    exact ⟨.nils, [], .nils, .inl ⟨rfl, rfl⟩⟩
  · simp only [List.cons.injEq, and_true] at h1
    subst h1
    rw [ce] at h7
    by_cases h0 : len = 0
    · subst h0
      exact ⟨.lst 1 false [], [], .emp 1 false a cap (by simp), .inr rfl⟩
    have hcell : ∀ i, i < len → ∃ z : Int, W.cell? (a.add (i * 1)) = some (.int .i64 z) := fun i hi => by
      have hbind := h7 i hi
      rw [List.getElem?_eq_getElem (by omega)] at hbind
      simp only [Option.bind_eq_some_iff] at hbind
      obtain ⟨cs, hc1, hc2⟩ := hbind
      obtain ⟨_, hlen, hcell⟩ := World.cells?_some hc1
      obtain ⟨z, hz, _, _⟩ := DataW.trod_int he hc2
      have := hcell 0 (by omega)
      rw [hz] at this
      refine ⟨z, ?_⟩
      have e1 : ∀ x : Addr, x.add 0 = x := fun x => by unfold Addr.add; rw [if_pos rfl]
      rwa [e1] at this
    have hs : a.spot = none := by
      obtain ⟨z, hz⟩ := hcell 0 (by omega)
      have := World.cell?_spot hz
      simpa [Addr.add] using this
    obtain ⟨b, o, sp⟩ := a
    simp only at hs
    subst hs
    obtain ⟨Y, hY⟩ := Go.Deep.choose_lt hcell
    let l : List Int := (List.range len).map Y
    have hll : l.length = len := by simp [l]
    have hli : ∀ i y, (ints l)[i]? = some y → i < len ∧ y = .int .i64 (Y i) := fun i y hy => by
      have hlt : i < (ints l).length := (List.getElem?_eq_some_iff.1 hy).1
      have hlt' : i < len := by simpa [ints, hll] using hlt
      refine ⟨hlt', ?_⟩
      simp [ints, l, hlt'] at hy
      exact hy.symm
    refine ⟨.lst 1 false (ints l), l, ?_, .inr rfl⟩
    have hv := VR.lst (Γ := ctx0 W) 1 false (ints l) b o cap (fun i j => (W.cell? ⟨b, o + i * 1 + j, none⟩).getD default) (by simp [ints, hll]; omega) (by simp) (fun y hy => by
        obtain ⟨i, hi⟩ := List.getElem?_of_mem hy
        obtain ⟨_, rfl⟩ := hli i y hi
        exact ⟨rfl, fun c hc => by simp [AV.cells] at hc; subst hc; rfl⟩) (fun i y j c hy hc => by
        obtain ⟨hlt, rfl⟩ := hli i y hy
        have hj : j = 0 := by
          have := (List.getElem?_eq_some_iff.1 hc).1
          simp [AV.cells] at this; omega
        subst hj
        have hu := hY i hlt
        rw [addr_add] at hu
        rw [Nat.add_zero]
        exact ⟨by show W.cell? _ = _; rw [hu]; rfl, cell_block hu⟩) (fun i y j c hy hc => by
        obtain ⟨hlt, rfl⟩ := hli i y hy
        have hj : j = 0 := by
          have := (List.getElem?_eq_some_iff.1 hc).1
          simp [AV.cells] at this; omega
        subst hj
        simp [AV.cells] at hc
        subst hc
        have hu := hY i hlt
        rw [addr_add] at hu
        simp only [Nat.add_zero, hu, Option.getD_some]
        exact .int _ _)
    have hx : (ints l).length = len := by simp [ints, hll]
    rw [hx] at hv
    exact hv
/-- a list of lists -/
theorem vvints_vr {t t2 e : TypeId} {v : Value} {fuel : Nat} {x : DataW H × List MemPlace} (ht : P.underlying t = some (.slice t2)) (h2 : P.underlying t2 = some (.slice e)) (c2 : P.cellsOf t2 = 1) (he : P.underlying e = some (.int .i64)) (ce : P.cellsOf e = 1)
    (h : DataW.trod enc P W 0 spare held fuel t [v] = some x) {r : Reach} {b0 : Nat} (hok : Cell.okWide P W r b0 t v) : ∃ q ls, VR (ctx0 W) q v ∧ isVV q ls := by
  rcases DataW.trod_slice ht h with ⟨h1, _⟩ | ⟨a, len, cap, elems, rest, k, rfl, h1, h2', h3, h4, h5, h6, h7, h8⟩
  · simp only [List.cons.injEq, and_true] at h1
    subst h1
    exact ⟨.nils, [], .nils, .inl ⟨rfl, rfl⟩⟩
  · simp only [List.cons.injEq, and_true] at h1
    subst h1
    rw [c2] at h7
    have hs : a.spot = none := by
      unfold Cell.okWide at hok
      rw [ht] at hok
      simp only at hok
      unfold Cell.ok at hok
      rw [ht] at hok
      exact hok.2.2.2.1
    obtain ⟨b, o, sp⟩ := a
    simp only at hs
    subst hs
    have hcell : ∀ i, i < len → ∃ p : (AV × List Int), isV p.1 p.2 ∧ ∃ u, W.cell? ⟨b, o + i * 1, none⟩ = some u ∧ VR (ctx0 W) p.1 u := fun i hi => by
      have hbind := h7 i hi
      rw [List.getElem?_eq_getElem (by omega)] at hbind
      simp only [Option.bind_eq_some_iff] at hbind
      obtain ⟨cs, hc1, hc2⟩ := hbind
      obtain ⟨_, hlen, hcell⟩ := World.cells?_some hc1
      obtain ⟨u, rfl⟩ : ∃ u, cs = [u] := by
        match cs, hlen with
        | [u], _ => exact ⟨u, rfl⟩
      obtain ⟨q, l, q1, q2⟩ := vints_cell h2 he ce hc2
      have := hcell 0 (by omega)
      rw [addr_add, addr_add, Nat.add_zero] at this
      exact ⟨(q, l), q2, u, this, q1⟩
    obtain ⟨Y, hY⟩ := Go.Deep.choose_lt hcell
    let xs : List AV := (List.range len).map fun i => (Y i).1
    let ls : List (List Int) := (List.range len).map fun i => (Y i).2
    have hxl : xs.length = len := by simp [xs]
    have hxi : ∀ i y, xs[i]? = some y → i < len ∧ y = (Y i).1 := fun i y hy => by
      have hlt : i < xs.length := (List.getElem?_eq_some_iff.1 hy).1
      rw [List.getElem?_eq_getElem hlt] at hy
      refine ⟨by omega, ?_⟩
      simp [xs] at hy
      exact hy.symm
    refine ⟨.lst 1 false xs, ls, ?_, .inr ⟨false, xs, rfl, allV_get (by simp [xs, ls]) fun i v l hv hl => ?_⟩⟩
    · have hv := VR.lst (Γ := ctx0 W) 1 false xs b o cap (fun i j => (W.cell? ⟨b, o + i * 1 + j, none⟩).getD default) (by omega) (by simp) (fun y hy => by
          obtain ⟨i, hi⟩ := List.getElem?_of_mem hy
          obtain ⟨hlt, rfl⟩ := hxi i y hi
          obtain ⟨g1, _⟩ := hY i hlt
          rw [g1.cells]
          exact ⟨rfl, fun c hc => by simp at hc; subst hc; exact g1.one⟩) (fun i y j c hy hc => by
          obtain ⟨hlt, rfl⟩ := hxi i y hy
          obtain ⟨g1, u, hu, _⟩ := hY i hlt
          rw [g1.cells] at hc
          have hj : j = 0 := by
            have := (List.getElem?_eq_some_iff.1 hc).1
            simp at this; omega
          subst hj
          rw [Nat.add_zero]
          exact ⟨by show W.cell? _ = _; rw [hu]; rfl, cell_block hu⟩) (fun i y j c hy hc => by
          obtain ⟨hlt, rfl⟩ := hxi i y hy
          obtain ⟨g1, u, hu, hvr⟩ := hY i hlt
          rw [g1.cells] at hc
          have hj : j = 0 := by
            have := (List.getElem?_eq_some_iff.1 hc).1
            simp at this; omega
          subst hj
          simp at hc
          subst hc
          simp only [Nat.add_zero, hu, Option.getD_some]
          exact hvr)
      rw [hxl] at hv
      exact hv
    · obtain ⟨hlt, rfl⟩ := hxi i v hv
      have : l = (Y i).2 := by
        simp [ls, hlt] at hl
        exact hl.symm
      subst this
      exact (hY i hlt).1
theorem shelf_vr {t t2 e : TypeId} {f0 f1 : Field} {v : Value} {d : DataW H} {ps : List MemPlace} {r : Reach} {b0 : Nat}
    (ht : P.underlying t = some (.struct #[f0, f1])) (o0 : f0.offset = 0) (o1 : f1.offset = 1) (c0 : P.cellsOf f0.type = 1) (c1 : P.cellsOf f1.type = 1) (ct : P.cellsOf t = 2)
    (h0 : P.underlying f0.type = some (.int .i64)) (h1 : P.underlying f1.type = some (.slice t2)) (h2 : P.underlying t2 = some (.slice e)) (c2 : P.cellsOf t2 = 1) (he : P.underlying e = some (.int .i64)) (ce : P.cellsOf e = 1)
    (hct : P.cellTypes P.depth t = some [f0.type, f1.type]) (hval : Value.okWide P W r b0 t v) (hd : DataW.Trod enc P W 0 spare held t v d ps) :
    ∃ (z : Int) (q : AV) (ls : List (List Int)), VR (ctx0 W) (.agg [.int .i64 z, q]) v ∧ isVV q ls := by
  unfold Value.okWide at hval
  rw [ht] at hval
  obtain ⟨cs, rfl, hcs, ts, hts, _, hcell⟩ := hval
  rw [hct] at hts
  cases hts
  obtain ⟨fuel, hd⟩ := hd
  obtain ⟨xs, m, _, _, hl, hxl, hx⟩ := DataW.trod_struct ht hd
  have g0 := hx 0 f0 rfl
  have g1 := hx 1 f1 rfl
  have hxl2 : xs.length = 2 := hxl
  rw [List.getElem?_eq_getElem (by omega), o0, c0] at g0
  rw [List.getElem?_eq_getElem (by omega), o1, c1] at g1
  have hl2 : cs.toList.length = 2 := by simpa [ct] using hcs
  obtain ⟨u0, u1, hu⟩ : ∃ u0 u1, cs.toList = [u0, u1] := by
    match cs.toList, hl2 with
    | [a, b], _ => exact ⟨a, b, rfl⟩
  have hcl : (Value.agg cs).cells = cs := rfl
  rw [hcl, hu] at g0 g1
  simp at g0 g1
  obtain ⟨z, hn, _, hw⟩ := DataW.trod_int h0 g0
  simp at hn
  subst hn
  have hcs1 : cs[1]? = some u1 := by
    have : cs.toList[1]? = some u1 := by rw [hu]; rfl
    simpa using this
  obtain ⟨u, hu1, hok⟩ := hcell 1 u1 hcs1
  simp at hu1
  subst hu1
  obtain ⟨q, ls, q1, q2⟩ := vvints_vr h1 h2 c2 he ce g1 hok
  refine ⟨z, q, ls, ?_, q2⟩
  have e : cs = #[.int .i64 z, u1] := by
    apply Array.toList_inj.1
    rw [hu]
  subst e
  refine .agg [.int .i64 z, q] #[.int .i64 z, u1] rfl (fun c hc => ?_) fun i c v hc hv => ?_
  · simp at hc
    rcases hc with rfl | rfl
    · rfl
    · rcases q2 with ⟨rfl, _⟩ | ⟨_, _, rfl, _⟩ <;> rfl
  · match i with
    | 0 => simp at hc hv; subst hc; subst hv; exact .int _ _
    | 1 => simp at hc hv; subst hc; subst hv; exact q1
    | i + 2 => simp at hc
end Go.Proofs.YtbkhffakhggdaaaDoor.Code
end
