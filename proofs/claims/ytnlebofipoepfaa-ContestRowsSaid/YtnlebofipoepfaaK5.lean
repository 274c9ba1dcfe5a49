/-
  Parts of the proofs about this chapter, joined: contracts of functions and plain laws.
-/
import Derived.Test.YtnlebofipoepfaaK4
import Derived.Test.YtnlebofipoepfaaK3
set_option linter.all false
section
namespace Go.Proofs.Ytnlebofipoepfaa.Code
open Go Go.Ab

/-! who reaches all in two steps -/
section
variable {n x : Nat} {f : Nat → Nat → Bool} {w : Nat → Nat}
theorem reach2_iff (hx : x < n) {z : Nat} : reachR f n x 2 z = true ↔ z = x ∨ z < n ∧ (f x z = true ∨ ∃ u, u < n ∧ f x u = true ∧ f u z = true) := by
  have h1 : ∀ z, reachR f n x 1 z = true ↔ z = x ∨ z < n ∧ f x z = true := fun z => by
    show nextR f n (reachR f n x 0) n z = true ↔ _
    rw [nextR_iff]
    simp only [reachR, decide_eq_true_eq]
    constructor
    · rintro (h | ⟨h1, y, _, rfl, h3⟩)
      · exact .inl h
      · exact .inr ⟨h1, h3⟩
    · rintro (h | ⟨h1, h2⟩)
      · exact .inl h
      · exact .inr ⟨h1, x, hx, rfl, h2⟩
  show nextR f n (reachR f n x 1) n z = true ↔ _
  rw [nextR_iff, h1]
  constructor
  · rintro ((h | ⟨h2, h3⟩) | ⟨h2, u, hu, h4, h5⟩)
    · exact .inl h
    · exact .inr ⟨h2, .inl h3⟩
    · rcases (h1 u).1 h4 with rfl | ⟨_, h6⟩
      · exact .inr ⟨h2, .inl h5⟩
      · exact .inr ⟨h2, .inr ⟨u, hu, h6, h5⟩⟩
  · rintro (h | ⟨h2, (h3 | ⟨u, hu, h4, h5⟩)⟩)
    · exact .inl (.inl h)
    · exact .inl (.inr ⟨h2, h3⟩)
    · exact .inr ⟨h2, u, hu, (h1 u).2 (.inr ⟨hu, h4⟩), h5⟩
/-- one who reaches all over at most one -/
def kingB (f : Nat → Nat → Bool) (n x : Nat) : Bool := (List.range n).all (reachR f n x 2)
theorem king_iff (hx : x < n) : kingB f n x = true ↔ ∀ z, z < n → z = x ∨ f x z = true ∨ ∃ u, u < n ∧ f x u = true ∧ f u z = true := by
  unfold kingB
  simp only [List.all_eq_true, List.mem_range]
  constructor
  · intro h z hz
    rcases (reach2_iff hx).1 (h z hz) with h | ⟨_, h⟩
    · exact .inl h
    · exact .inr h
  · intro h z hz
    rcases h z hz with h | h
    · exact (reach2_iff hx).2 (.inl h)
    · exact (reach2_iff hx).2 (.inr ⟨hz, h⟩)
theorem best_king (hbd : BoardW n w) (hw : ∀ x y, (w x).testBit y = f x y) (hx : x < n) : isBest n w x = kingB f n x := by
  have hn := hbd.le
  have hp : pw x < 128 := Nat.pow_lt_pow_right (by decide) (show x < 7 by omega)
  have hb1 : ∀ z, (fartS w (pw x)).testBit z = true ↔ z = x ∨ f x z = true := fun z => by
    rw [fart_bit (n := n) hp, testBit_pw]
    constructor
    · rintro (h | ⟨y, hy, h⟩)
      · left; have := of_decide_eq_true h; omega
      · rw [testBit_pw] at hy
        have := of_decide_eq_true hy
        subst this
        right; rw [← hw]; exact h
    · rintro (h | h)
      · left; simp [h]
      · right; exact ⟨x, by simp [testBit_pw], by rw [hw]; exact h⟩
  have hb2 : ∀ z, (fartS w (fartS w (pw x))).testBit z = true ↔ z = x ∨ f x z = true ∨ ∃ u, f x u = true ∧ f u z = true := fun z => by
    rw [fart_bit (n := n) (fart_lt hbd hp), hb1]
    constructor
    · rintro ((h | h) | ⟨u, hu, h⟩)
      · exact .inl h
      · exact .inr (.inl h)
      · rw [hw] at h
        rcases (hb1 u).1 hu with rfl | hu
        · exact .inr (.inl h)
        · exact .inr (.inr ⟨u, hu, h⟩)
    · rintro (h | h | ⟨u, h1, h2⟩)
      · exact .inl (.inl h)
      · exact .inl (.inr h)
      · exact .inr ⟨u, (hb1 u).2 (.inr h1), by rw [hw]; exact h2⟩
  have hdom : ∀ u z, f u z = true → u < n ∧ z < n := fun u z h => hbd.dom u z (by rw [hw]; exact h)
  rw [Bool.eq_iff_iff, king_iff hx]
  unfold isBest
  rw [beq_iff_eq]
  constructor
  · intro he z hz
    have : (fartS w (fartS w (pw x))).testBit z = true := by rw [he, testBit_all]; simp [hz]
    rcases (hb2 z).1 this with h | h | ⟨u, h1, h2⟩
    · exact .inl h
    · exact .inr (.inl h)
    · exact .inr (.inr ⟨u, (hdom u z h2).1, h1, h2⟩)
  · intro h
    apply Nat.eq_of_testBit_eq
    intro z
    rw [testBit_all, Bool.eq_iff_iff, hb2, decide_eq_true_eq]
    constructor
    · rintro (h | h | ⟨u, _, h⟩)
      · omega
      · exact (hdom _ _ h).2
      · exact (hdom _ _ h).2
    · intro hz
      rcases h z hz with h | h | ⟨u, _, h1, h2⟩
      · exact .inl h
      · exact .inr (.inl h)
      · exact .inr (.inr ⟨u, h1, h2⟩)
/-- how many of some one beat -/
def scP (f : Nat → Nat → Bool) (n : Nat) (p : Nat → Bool) (z : Nat) : Nat := ((List.range n).filter fun u => p u && f z u).length
theorem exists_most {g : Nat → Nat} : ∀ {l : List Nat}, l ≠ [] → ∃ v ∈ l, ∀ u ∈ l, g u ≤ g v
  | [x], _ => ⟨x, List.mem_cons_self .., fun u hu => by simp at hu; subst hu; exact Nat.le_refl _⟩
  | x :: y :: r, _ => by
    obtain ⟨v, hv, hm⟩ := exists_most (g := g) (l := y :: r) (by simp)
    by_cases hx : g v ≤ g x
    · exact ⟨x, List.mem_cons_self .., fun u hu => by
        rcases List.mem_cons.1 hu with rfl | hu
        · exact Nat.le_refl _
        · exact Nat.le_trans (hm u hu) hx⟩
    · exact ⟨v, List.mem_cons_of_mem _ hv, fun u hu => by
        rcases List.mem_cons.1 hu with rfl | hu
        · omega
        · exact hm u hu⟩
structure Tour (n : Nat) (f : Nat → Nat → Bool) : Prop where
  irr : ∀ x, f x x = false
  one : ∀ x y, x < n → y < n → x ≠ y → f x y = !f y x
theorem max_reach (ht : Tour n f) {p : Nat → Bool} {y : Nat} (hy : y < n) (hpy : p y = true) (hmax : ∀ z, z < n → p z = true → scP f n p z ≤ scP f n p y) {z : Nat} (hz : z < n) (hpz : p z = true) :
    z = y ∨ f y z = true ∨ ∃ u, u < n ∧ p u = true ∧ f y u = true ∧ f u z = true := by
  apply Decidable.byContradiction
  intro hc
  have hne : z ≠ y := fun h => hc (.inl h)
  have hyz : f y z = false := by
    cases h : f y z
    · rfl
    · exact absurd (.inr (.inl h)) hc
  have hzy : f z y = true := by rw [ht.one z y hz hy hne, hyz]; rfl
  have := sub_len (l := y :: (List.range n).filter fun u => p u && f y u) (m := (List.range n).filter fun u => p u && f z u) (by
    rw [List.nodup_cons]
    exact ⟨fun hm => (by have := (List.mem_filter.1 hm).2; rw [ht.irr] at this; simp at this), List.nodup_range.filter _⟩) fun u hu => by
      rcases List.mem_cons.1 hu with rfl | hu
      · exact List.mem_filter.2 ⟨List.mem_range.2 hy, by rw [hpy, hzy]; rfl⟩
      · obtain ⟨h1, h2⟩ := List.mem_filter.1 hu
        have hun := List.mem_range.1 h1
        rw [Bool.and_eq_true] at h2
        have hnu : u ≠ z := fun h => by rw [h, hyz] at h2; cases h2.2
        have : f z u = true := by
          rw [ht.one z u hz hun (Ne.symm hnu)]
          cases h : f u z
          · rfl
          · exact absurd (.inr (.inr ⟨u, hun, h2.1, h2.2, h⟩)) hc
        exact List.mem_filter.2 ⟨h1, by rw [h2.1, this]; rfl⟩
  have hm := hmax z hz hpz
  unfold scP at hm
  rw [List.length_cons] at this
  omega
theorem scP_all {z : Nat} : scP f n (fun _ => true) z = ((List.range n).filter (f z)).length := by
  unfold scP; simp
theorem most_king (ht : Tour n f) {y : Nat} (hy : y < n) (hmax : ∀ z, z < n → ((List.range n).filter (f z)).length ≤ ((List.range n).filter (f y)).length) : kingB f n y = true := by
  rw [king_iff hy]
  intro z hz
  rcases max_reach ht (p := fun _ => true) hy rfl (fun z hz _ => by rw [scP_all, scP_all]; exact hmax z hz) hz rfl with h | h | ⟨u, h1, _, h2, h3⟩
  · exact .inl h
  · exact .inr (.inl h)
  · exact .inr (.inr ⟨u, h1, h2, h3⟩)
theorem king_in (ht : Tour n f) {x y0 : Nat} (hx : x < n) (hy0 : y0 < n) (h0 : f y0 x = true) : ∃ y, y < n ∧ f y x = true ∧ kingB f n y = true := by
  obtain ⟨y, hy, hm⟩ := exists_most (g := scP f n (f · x)) (l := (List.range n).filter (f · x)) (List.ne_nil_of_mem (List.mem_filter.2 ⟨List.mem_range.2 hy0, h0⟩))
  obtain ⟨hyn, hyx⟩ := List.mem_filter.1 hy
  have hyn := List.mem_range.1 hyn
  refine ⟨y, hyn, hyx, (king_iff hyn).2 fun z hz => ?_⟩
  by_cases hzx : z = x
  · subst hzx; exact .inr (.inl hyx)
  · cases hp : f z x
    · right; right
      exact ⟨x, hx, hyx, by rw [ht.one x z hx hz (Ne.symm hzx), hp]; rfl⟩
    · rcases max_reach ht (p := (f · x)) hyn hyx (fun z hz hpz => hm z (List.mem_filter.2 ⟨List.mem_range.2 hz, hpz⟩)) hz hp with h | h | ⟨u, h1, _, h2, h3⟩
      · exact .inl h
      · exact .inr (.inl h)
      · exact .inr (.inr ⟨u, h1, h2, h3⟩)
theorem two_of {l : List Nat} (hn : l.Nodup) {C : List Nat} (hC : C.Nodup) (h : ∀ x ∈ C, x ∈ l) : C.length ≤ l.length := sub_len hC h
/-- either one beat all others and is the only king, or there are three kings -/
theorem kings_count (ht : Tour n f) (h1 : 1 ≤ n) {M : Nat} (hM : ∀ z, z < n → ((List.range n).filter (f z)).length ≤ M) (hM2 : ∃ y, y < n ∧ ((List.range n).filter (f y)).length = M) :
    (M = n - 1 ∧ ((List.range n).filter (kingB f n)).length = 1) ∨ (M ≠ n - 1 ∧ 3 ≤ ((List.range n).filter (kingB f n)).length) := by
  obtain ⟨a, ha, hsa⟩ := hM2
  have hka := most_king ht ha fun z hz => by rw [hsa]; exact hM z hz
  have hsplit : ∀ x, x < n → ((List.range n).filter (f x)).length = n - 1 → ∀ y, y < n → y ≠ x → f x y = true := fun x hx hs y hy hne => by
    cases hf : f x y
    · exfalso
      have := sub_len (l := x :: y :: (List.range n).filter (f x)) (m := List.range n) (by
        rw [List.nodup_cons, List.nodup_cons]
        refine ⟨fun hm => ?_, fun hm => ?_, List.nodup_range.filter _⟩
        · rcases List.mem_cons.1 hm with h | h
          · exact hne h.symm
          · have := (List.mem_filter.1 h).2; rw [ht.irr] at this; cases this
        · have := (List.mem_filter.1 hm).2; rw [hf] at this; cases this) fun u hu => by
          rcases List.mem_cons.1 hu with rfl | hu
          · exact List.mem_range.2 hx
          · rcases List.mem_cons.1 hu with rfl | hu
            · exact List.mem_range.2 hy
            · exact (List.mem_filter.1 hu).1
      rw [List.length_cons, List.length_cons, hs, List.length_range] at this
      omega
    · rfl
  by_cases hMn : M = n - 1
  · left
    refine ⟨hMn, ?_⟩
    have hall := hsplit a ha (by rw [hsa, hMn])
    have honly : ∀ x, x < n → kingB f n x = true → x = a := fun x hx hk => by
      apply Decidable.byContradiction
      intro hne
      have hno : ∀ u, u < n → f u a = false := fun u hu => by
        by_cases hua : u = a
        · subst hua; exact ht.irr u
        · rw [ht.one u a hu ha hua, hall u hu hua]; rfl
      rcases (king_iff hx).1 hk a ha with h | h | ⟨u, hu, _, h⟩
      · exact hne h.symm
      · rw [hno x hx] at h; cases h
      · rw [hno u hu] at h; cases h
    have g1 := sub_len (l := [a]) (m := (List.range n).filter (kingB f n)) (by simp) fun x hx => by
      rw [List.mem_singleton] at hx; subst hx
      exact List.mem_filter.2 ⟨List.mem_range.2 ha, hka⟩
    have g2 := sub_len (l := (List.range n).filter (kingB f n)) (m := [a]) (List.nodup_range.filter _) fun x hx => by
      obtain ⟨h1, h2⟩ := List.mem_filter.1 hx
      rw [List.mem_singleton]; exact honly x (List.mem_range.1 h1) h2
    simp only [List.length_cons, List.length_nil] at g1 g2
    omega
  · right
    refine ⟨hMn, ?_⟩
    have hloser : ∀ x, x < n → ∃ y, y < n ∧ f y x = true := fun x hx => by
      apply Decidable.byContradiction
      intro hno
      have hall : ∀ y, y < n → y ≠ x → f x y = true := fun y hy hne => by
        rw [ht.one x y hx hy (Ne.symm hne)]
        cases h : f y x
        · rfl
        · exact absurd ⟨y, hy, h⟩ hno
      have := sub_len (l := (List.range n).erase x) (m := (List.range n).filter (f x)) (List.nodup_range.erase _) fun y hy => by
        have h1 := List.mem_of_mem_erase hy
        have hne : y ≠ x := fun h => by
          subst h
          exact (List.Nodup.mem_erase_iff List.nodup_range).1 hy |>.1 rfl
        exact List.mem_filter.2 ⟨h1, hall y (List.mem_range.1 h1) hne⟩
      rw [List.length_erase_of_mem (List.mem_range.2 hx), List.length_range] at this
      have h2 := hM x hx
      have h3 : ((List.range n).filter (f x)).length ≤ n - 1 := by
        have := sub_len (l := x :: (List.range n).filter (f x)) (m := List.range n) (by
          rw [List.nodup_cons]
          exact ⟨fun hm => (by have := (List.mem_filter.1 hm).2; rw [ht.irr] at this; cases this), List.nodup_range.filter _⟩) fun u hu => by
            rcases List.mem_cons.1 hu with rfl | hu
            · exact List.mem_range.2 hx
            · exact (List.mem_filter.1 hu).1
        rw [List.length_cons, List.length_range] at this
        omega
      have h4 : M ≤ n - 1 := by
        have := sub_len (l := a :: (List.range n).filter (f a)) (m := List.range n) (by
          rw [List.nodup_cons]
          exact ⟨fun hm => (by have := (List.mem_filter.1 hm).2; rw [ht.irr] at this; cases this), List.nodup_range.filter _⟩) fun u hu => by
            rcases List.mem_cons.1 hu with rfl | hu
            · exact List.mem_range.2 ha
            · exact (List.mem_filter.1 hu).1
        rw [List.length_cons, List.length_range] at this
        omega
      omega
    obtain ⟨y0, hy0, h0⟩ := hloser a ha
    obtain ⟨b, hb, hba, hkb⟩ := king_in ht ha hy0 h0
    obtain ⟨y1, hy1, h1⟩ := hloser b hb
    obtain ⟨c, hc, hcb, hkc⟩ := king_in ht hb hy1 h1
    have hnab : a ≠ b := fun h => by subst h; rw [ht.irr] at hba; cases hba
    have hncb : c ≠ b := fun h => by subst h; rw [ht.irr] at hcb; cases hcb
    have hnca : c ≠ a := fun h => by
      subst h
      rw [ht.one b c hb hc (Ne.symm hncb), hcb] at hba; cases hba
    exact sub_len (l := [a, b, c]) (m := (List.range n).filter (kingB f n)) (by simp; omega) fun x hx => by
      simp only [List.mem_cons, List.not_mem_nil, or_false] at hx
      rcases hx with rfl | rfl | rfl
      · exact List.mem_filter.2 ⟨List.mem_range.2 ha, hka⟩
      · exact List.mem_filter.2 ⟨List.mem_range.2 hb, hkb⟩
      · exact List.mem_filter.2 ⟨List.mem_range.2 hc, hkc⟩
/-- who reaches all is in the first group -/
theorem king_first {G : List (List Nat)} (hbd : BoardW n w) (hpa : Parts n w G) {x : Nat} (hx : x < n) (hr : ∀ y, y < n → Rch w x y) : idxG G x = 0 := by
  have hkeep : ∀ y, Rch w x y → idxG G x ≤ idxG G y := fun y h => by
    induction h with
    | refl => exact Nat.le_refl _
    | @step y z h1 h2 ih =>
      have hd := hbd.dom _ _ h2
      apply Decidable.byContradiction
      intro hc
      have := hpa.order z y hd.2 hd.1 (by omega)
      have hne : y ≠ z := fun h => by subst h; rw [hbd.irr] at h2; cases h2
      rw [hbd.one y z hd.1 hd.2 hne, this] at h2; cases h2
  obtain ⟨h1, _⟩ := hpa.has x hx
  have hl0 : 0 < G.length := by omega
  obtain ⟨_, e2, e3, _⟩ := hpa.each G[0] (List.getElem_mem hl0)
  obtain ⟨y, hy⟩ := List.exists_mem_of_ne_nil _ e2
  have h0 := hpa.idx 0 hl0 y hy
  have := hkeep y (hr y (e3 y hy))
  omega
end
end Go.Proofs.Ytnlebofipoepfaa.Code
end

section
namespace Go.Proofs.Ytnlebofipoepfaa.Code
open Go Go.Ab
variable {base bar : Nat} {H : Heap}

def scF (f : Nat → Nat → Bool) (n x : Nat) : Nat := ((List.range n).filter (f x)).length
def wantF (f : Nat → Nat → Bool) (n a : Nat) : List Nat := (List.range a).filter (kingB f n)
def mostF (f : Nat → Nat → Bool) (n a : Nat) : Nat := maxL ((List.range a).map (scF f n))
theorem mostF_succ {f : Nat → Nat → Bool} {n a : Nat} : mostF f n (a + 1) = max (mostF f n a) (scF f n a) := by
  unfold mostF maxL
  rw [List.range_succ, List.map_append, List.foldl_append]; rfl
theorem scF_le {f : Nat → Nat → Bool} {n x : Nat} : scF f n x ≤ n := by
  unfold scF
  exact Nat.le_trans (List.length_filter_le _ _) (by simp)
theorem often_sc {n x : Nat} {f : Nat → Nat → Bool} {w : Nat → Nat} (hbd : BoardW n w) (hw : ∀ x y, (w x).testBit y = f x y) (hx : x < (oftenS n w).length) : (oftenS n w)[x] = scF f n x := by
  have e : (oftenS n w)[x] = (bitsOf (w x)).length := by simp [oftenS]
  rw [e]
  unfold scF bitsOf
  have hn := hbd.le
  obtain ⟨d, hd⟩ : ∃ d, 8 = n + d := ⟨8 - n, by omega⟩
  rw [hd, filter_range_cut d fun c hc1 hc2 => by
    cases hc : (w x).testBit c
    · rfl
    · have := (hbd.dom x c hc).2; omega]
  congr 1
  apply List.filter_congr
  intro y _
  exact hw x y
section
variable {n i4 : Nat} {f : Nat → Nat → Bool} {lv sv gv : AV}
theorem l13a {a : Nat} {wv : AV} {most : Nat} (h4 : H[i4]? = some (.row 0 (gcells f) 0 true)) (hn : n ≤ 7) (ha : a < n) {R : PQ} : ∀ (k b : Nat), b + k = n →
    R (.exit 2) [(4, .ptr i4 0 0), (5, .int .i64 (n : Nat)), (6, lv), (8, sv), (10, gv), (12, wv), (13, .int .i64 (most : Nat)), (63, .int .i64 (n : Nat)), (64, .int .i64 (a : Nat)), (14, .int .i64 (a : Nat)), (15, .int .i64 (scF f n a : Nat)), (67, .int .i64 (n : Nat)), (68, .int .i64 (n : Nat)), (69, .bool false)] H →
    Wp E base bar (.loop c13_l0) [(4, .ptr i4 0 0), (5, .int .i64 (n : Nat)), (6, lv), (8, sv), (10, gv), (12, wv), (13, .int .i64 (most : Nat)), (63, .int .i64 (n : Nat)), (64, .int .i64 (a : Nat)), (14, .int .i64 (a : Nat)), (15, .int .i64 (scF f b a : Nat)), (67, .int .i64 (n : Nat)), (68, .int .i64 (b : Nat))] H R := by
  intro k
  induction k with
  | zero =>
    intro b hb h
    obtain rfl : b = n := by omega
    rw [wp_round c13_l0.eq_1]
    simp [go_sem]
    exact h
  | succ k ih =>
    intro b hb h
    have hlt : b < n := by omega
    have next := ih (b + 1) (by omega) h
    have hst : scF f (b + 1) a = scF f b a + if f a b = true then 1 else 0 := by
      unfold scF
      rw [List.range_succ, List.filter_append, List.length_append]
      cases hc : f a b <;> simp [hc]
    have hle : scF f b a ≤ b := scF_le
    rw [hst] at next
    have g1 := loadG (s := 1) h4 (show a < 7 by omega) (show b < 7 by omega)
    rw [wp_round c13_l0.eq_1]
    cases hc : f a b
    · rw [hc] at g1 next
      simp at next
      simp [go_sem, hlt, show a < 7 by omega, show b < 7 by omega, g1, i64_suc (show b < 1000000 by omega)]
      exact next
    · rw [hc] at g1 next
      simp at next
      simp [go_sem, hlt, show a < 7 by omega, show b < 7 by omega, g1, i64_suc (show b < 1000000 by omega), i64_suc (show scF f b a < 1000000 by omega)]
      exact next
theorem l13b {w : Nat → Nat} {H0 : Heap} (h4 : H0[i4]? = some (.row 0 (gcells f) 0 true)) (hn : n ≤ 7) (hbd : BoardW n w) (hw : ∀ x y, (w x).testBit y = f x y) (hs : isL sv (oftenS n w)) (hb : bar ≤ H0.length) (hbase : base ≤ H0.length) {R : PQ} :
    ∀ (k a : Nat) (wv : AV) (H : Heap), a + k = n → Grow 1 (nats (wantF f n a)) H0 wv H →
    (∀ wv' H', Grow 1 (nats (wantF f n n)) H0 wv' H' → R (.exit 0) [(4, .ptr i4 0 0), (5, .int .i64 (n : Nat)), (6, lv), (8, sv), (10, gv), (12, wv'), (13, .int .i64 (mostF f n n : Nat)), (63, .int .i64 (n : Nat)), (64, .int .i64 (n : Nat)), (65, .bool false)] H') →
    Wp E base bar (.loop c13_l1) [(4, .ptr i4 0 0), (5, .int .i64 (n : Nat)), (6, lv), (8, sv), (10, gv), (12, wv), (13, .int .i64 (mostF f n a : Nat)), (63, .int .i64 (n : Nat)), (64, .int .i64 (a : Nat))] H R := by
  intro k
  induction k with
  | zero =>
    intro a wv H ha hg h
    obtain rfl : a = n := by omega
    rw [wp_round c13_l1.eq_1]
    simp [go_sem]
    exact h wv H hg
  | succ k ih =>
    intro a wv H ha hg h
    have hlt : a < n := by omega
    have hsl : a < (oftenS n w).length := by rw [oftenS_len]; exact hlt
    have hsa := often_sc hbd hw hsl
    have hgl := hg.len
    have h4' := hg.get h4
    have hst : wantF f n (a + 1) = wantF f n a ++ if kingB f n a = true then [a] else [] := by
      unfold wantF
      rw [List.range_succ, List.filter_append]
      cases hc : kingB f n a <;> simp [hc]
    have hwl : (wantF f n a).length ≤ a := by
      unfold wantF
      exact Nat.le_trans (List.length_filter_le _ _) (by simp)
    have hmx : (if mostF f n a < scF f n a then ((scF f n a : Nat) : Int) else ((mostF f n a : Nat) : Int)) = ((mostF f n (a + 1) : Nat) : Int) := by
      rw [mostF_succ]
      split <;> omega
    have hix : ∀ {K : AV → Heap → List Nat → Prop}, ixaSWp 1 (some sv) (some (.int .i64 (a : Int))) H K = K (.fp (.int .i64 ((scF f n a : Nat) : Int))) H [] := fun {K} => by rw [hs.ix hsl, hsa]
    rw [wp_round c13_l1.eq_1]
    have e0 : scF f 0 a = 0 := rfl
    simp [go_sem, hlt]
    refine l13a h4' hn hlt n 0 (by omega) ?_
    simp [go_sem, hix, aop, hmx, loadGG h4']
    refine k45 (steps := 2) hn (by omega) (by omega) (by omega) ?_
    simp [go_sem]
    refine k54 hn (by omega) ?_
    have hk : (List.range n).all (reachR f n a 2) = kingB f n a := rfl
    rw [hk]
    cases hc : kingB f n a
    · rw [hc] at hst
      simp [go_sem, i64_suc (show a < 1000000 by omega)]
      refine ih (a + 1) wv H (by omega) ?_ h
      rw [hst]; simpa using hg
    · rw [hc] at hst
      simp [go_sem, aop, fillA, setCells, chunks]
      refine hg.nat hb hbase (by omega) fun v' H' tc g' => ?_
      simp [go_sem, i64_suc (show a < 1000000 by omega)]
      refine ih (a + 1) v' H' (by omega) ?_ h
      rw [hst]; simpa using g'
theorem l13c {w : Nat → Nat} {want : List Nat} {wv : AV} {M : Nat} (hn : n ≤ 7) (hbd : BoardW n w) (hw : ∀ x y, (w x).testBit y = f x y) (hs : isL sv (oftenS n w)) (hwl : want.length < 1000) (hM : ∀ x, x < n → scF f n x = M → x ∈ want) {R : PQ} :
    ∀ (k a : Nat) (H : Heap), a + k = n → Wv want wv H →
    (∀ H', Wv want wv H' → R (.exit 4) [(5, .int .i64 (n : Nat)), (6, lv), (8, sv), (10, gv), (12, wv), (13, .int .i64 (M : Nat)), (99, .int .i64 (n : Nat)), (100, .int .i64 (n : Nat)), (101, .bool false)] H') →
    Wp E 0 0 (.loop c13_l2) [(5, .int .i64 (n : Nat)), (6, lv), (8, sv), (10, gv), (12, wv), (13, .int .i64 (M : Nat)), (99, .int .i64 (n : Nat)), (100, .int .i64 (a : Nat))] H R := by
  intro k
  induction k with
  | zero =>
    intro a H ha hv h
    obtain rfl : a = n := by omega
    rw [wp_round c13_l2.eq_1]
    simp [go_sem]
    exact h H hv
  | succ k ih =>
    intro a H ha hv h
    have hlt : a < n := by omega
    have hsl : a < (oftenS n w).length := by rw [oftenS_len]; exact hlt
    have hsa := often_sc hbd hw hsl
    have hix : ∀ {K : AV → Heap → List Nat → Prop}, ixaSWp 1 (some sv) (some (.int .i64 (a : Int))) H K = K (.fp (.int .i64 ((scF f n a : Nat) : Int))) H [] := fun {K} => by rw [hs.ix hsl, hsa]
    rw [wp_round c13_l2.eq_1]
    by_cases hc : scF f n a = M
    · obtain ⟨v', H', f1, f2, f3⟩ := hv.frz
      simp [go_sem, hlt, hix, natEq, hc]
      refine frz_first call55 (args' := [v', .int .i64 (a : Nat)]) (by simp [go_sem, f1]; rfl) (by simp [go_sem, f2.frz]) ?_
      refine k55 f2 hwl ?_
      rw [decide_eq_true (hM a hlt hc)]
      simp [go_sem, i64_suc (show a < 1000000 by omega)]
      exact ih (a + 1) H' (by omega) f3 h
    · simp [go_sem, hlt, hix, natEq, hc, i64_suc (show a < 1000000 by omega)]
      exact ih (a + 1) H (by omega) hv h
theorem l13d {want g0 : List Nat} {gr : List (List Nat)} {wv : AV} {M : Nat} (hg : isLL gv (g0 :: gr)) (hgl : g0.length < 1000) (hin : ∀ x ∈ want, x ∈ g0) (hwl : want.length < 1000) {R : PQ} :
    ∀ (k i : Nat), i + k = want.length → Wv want wv H →
    R (.exit 6) [(5, .int .i64 (n : Nat)), (6, lv), (10, gv), (12, wv), (13, .int .i64 (M : Nat)), (116, wv), (117, .int .i64 (want.length : Nat)), (118, .int .i64 (want.length : Nat)), (119, .bool false)] H →
    Wp E base bar (.loop c13_l3) [(5, .int .i64 (n : Nat)), (6, lv), (10, gv), (12, wv), (13, .int .i64 (M : Nat)), (116, wv), (117, .int .i64 (want.length : Nat)), (118, .int .i64 (i : Nat))] H R := by
  intro k
  induction k with
  | zero =>
    intro i hi hv h
    obtain rfl : i = want.length := by omega
    rw [wp_round c13_l3.eq_1]
    simp [go_sem]
    exact h
  | succ k ih =>
    intro i hi hv h
    have hlt : i < want.length := by omega
    have hmem := List.getElem_mem hlt
    obtain ⟨p, hp1, hp2⟩ := hv.ix hlt
    obtain ⟨u, hu1, hu2⟩ := isLL.ix0 hg
    rw [wp_round c13_l3.eq_1]
    simp [go_sem, hlt, hp1, hp2, hu2, aload_fpL hu1]
    refine k55 hu1 hgl ?_
    rw [decide_eq_true (hin _ hmem)]
    simp [go_sem, i64_suc (show i < 1000000 by omega)]
    exact ih (i + 1) (by omega) hv h
end
end Go.Proofs.Ytnlebofipoepfaa.Code
end

section
namespace Go.Proofs.Ytnlebofipoepfaa.Code
open Go Go.Ab

theorem MadeC.tour {n bits : Nat} {l : List ZZ} {f : Nat → Nat → Bool} (h : MadeC n bits l f) : Tour n f := ⟨h.irr, fun x y hx hy hne => h.one hx hy hne⟩
theorem half_small : ∀ n, n ≤ 7 → halfN n < 1000 := by decide
set_option maxRecDepth 4000 in
theorem law13 {p bits : Nat} (hp : p < 256) (hbits : bits < 4294967296) :
    WpCall E false 0 0 13 [.agg [.int .u8 (p : Nat), .int .u32 (bits : Nat)]] [] (fun v _ => v = .bool true) := by
  rw [call13]
  have e0 : aload [Blk.row 0 [AV.int .u8 (p : Nat), .int .u32 (bits : Nat)] 0 true] ⟨true, 2⟩ (.ptr 0 0 0) = some (.agg [.int .u8 (p : Nat), .int .u32 (bits : Nat)]) := rfl
  simp [go_sem, WpFun, c13, e0]
  refine k44 (most := 7) (n := 1 + p % 7) hp hbits (by omega) (by omega) (Nat.zero_le _) rfl fun q l f hq hm => ?_
  generalize 1 + p % 7 = n at *
  have hn := hm.le
  have hn1 := hm.pos
  obtain ⟨hbd, hbit⟩ := hm.board
  obtain ⟨g, hg⟩ := reach_w hbd
  have hpa := parts_of hbd hg
  have hl : l.length < 1000 := by rw [hm.len]; exact half_small n hn
  have d1 : aload [Blk.row 0 [AV.int .u8 (p : Nat), .int .u32 (bits : Nat)] 0 true, Blk.row 0 [.int .i64 (n : Nat), q] 0 true, Blk.row 0 (gcells f) 0 true] ⟨false, 1⟩ (.ptr 1 0 0) = some (.int .i64 (n : Nat)) := rfl
  have d2 : aload [Blk.row 0 [AV.int .u8 (p : Nat), .int .u32 (bits : Nat)] 0 true, Blk.row 0 [.int .i64 (n : Nat), q] 0 true, Blk.row 0 (gcells f) 0 true] ⟨true, 2⟩ (.ptr 1 0 0) = some (.agg [.int .i64 (n : Nat), q]) := rfl
  simp [go_sem, storeWp, astore, setCells, hq.cells, hq.top, hq.isTup, gcells_length, gcells_over, d1, d2]
  refine k20 hq hl hm (Nat.zero_le _) fun lv hlv => ?_
  simp [go_sem, d2]
  refine k18 hq hl hm (Nat.zero_le _) fun sv hsv => ?_
  simp [go_sem, d2]
  refine k33 hq hl hm hg (Nat.zero_le _) fun gv hgv => ?_
  generalize groupsT g 8 (pw n - 1) = G at *
  generalize boardF l (fun _ => 0) = w at *
  have hGl := hpa.len
  cases hG : G with
  | nil =>
    exfalso
    obtain ⟨h1, _⟩ := hpa.has 0 (by omega)
    rw [hG] at h1; simp at h1
  | cons G0 Gr =>
  have hg0 := hpa.each G0 (by rw [hG]; exact List.mem_cons_self ..)
  have hbest : bestS n w = wantF f n n := by
    unfold bestS wantF
    apply List.filter_congr
    intro x hx
    exact best_king hbd hbit (List.mem_range.1 hx)
  have hwl : (wantF f n n).length ≤ n := by
    unfold wantF
    exact Nat.le_trans (List.length_filter_le _ _) (by simp)
  have hMle : ∀ z, z < n → scF f n z ≤ mostF f n n := fun z hz => maxL_le (List.mem_map.2 ⟨z, List.mem_range.2 hz, rfl⟩)
  have hMex : ∃ y, y < n ∧ scF f n y = mostF f n n := by
    have hne : (List.range n).map (scF f n) ≠ [] := by
      intro h
      have := congrArg List.length h
      simp at this; omega
    obtain ⟨y, hy, he⟩ := List.mem_map.1 (maxL_mem hne)
    exact ⟨y, List.mem_range.1 hy, he⟩
  have hcount := kings_count hm.tour hn1 (M := mostF f n n) hMle hMex
  rw [hG] at hgv
  have H3e : ∀ (X : Heap), X = [Blk.row 0 [AV.int .u8 (p : Nat), .int .u32 (bits : Nat)] 0 true, Blk.row 0 [.int .i64 (n : Nat), q] 0 true, Blk.row 0 (gcells f) 0 true] → X[2]? = some (Blk.row 0 (gcells f) 0 true) := fun X h => by rw [h]; rfl
  simp [go_sem, hsv.len, oftenS_len, hgv.len]
  rw [show ((Gr.length : Int) + 1 = 0) = False by simp; omega]
  simp [go_sem]
  refine l13b (i4 := 2) (H0 := [Blk.row 0 [AV.int .u8 (p : Nat), .int .u32 (bits : Nat)] 0 true, Blk.row 0 [.int .i64 (n : Nat), q] 0 true, Blk.row 0 (gcells f) 0 true]) rfl hn hbd hbit hsv (Nat.zero_le _) (Nat.zero_le _) n 0 .nils _ (by omega) .nil fun wv H1 hgw => ?_
  have hv := Wv.of_grow hgw
  clear hgw
  simp [go_sem]
  refine l13c (want := wantF f n n) hn hbd hbit hsv (by omega) (fun x hx he => ?_) n 0 H1 (by omega) hv fun H2 hv2 => ?_
  · exact List.mem_filter.2 ⟨List.mem_range.2 hx, most_king hm.tour hx fun z hz => by
      have := hMle z hz
      unfold scF at he this
      omega⟩
  simp [go_sem, hv2.len]
  refine l13d (want := wantF f n n) hgv (by omega) (fun x hx => ?_) (by omega) (wantF f n n).length 0 (by omega) hv2 ?_
  · obtain ⟨hx1, hx2⟩ := List.mem_filter.1 hx
    have hxn := List.mem_range.1 hx1
    have h0 := king_first hbd hpa hxn fun y hy => reachR_sound hbit (by
      unfold kingB at hx2
      rw [List.all_eq_true] at hx2
      exact hx2 y (List.mem_range.2 hy))
    obtain ⟨h1, h2⟩ := hpa.has x hxn
    have h0' : idxG (G0 :: Gr) x = 0 := by rw [← hG]; exact h0
    simp only [hG, h0'] at h2
    exact h2
  obtain ⟨v3, H3, f1, f2, f3⟩ := hv2.frz
  simp [go_sem]
  refine frz_first call22 (args' := [lv, v3]) (H' := H3) (by simp [go_sem, hlv.frz, f1]) (by simp [go_sem, hlv.frz, f2.frz]) ?_
  refine k22 hlv f2 (by rw [hbest]; omega) (by omega) ?_
  rw [decide_eq_true hbest]
  have e2 : IntKind.i64.wrap ((n : Int) - 1) = ((n - 1 : Nat) : Int) := by
    rw [show (n : Int) - 1 = ((n - 1 : Nat) : Int) by omega, i64_nat (by omega)]
  have hw1 : (wantF f n n).length = ((List.range n).filter (kingB f n)).length := rfl
  rw [← hw1] at hcount
  generalize mostF f n n = M at *
  generalize hnn : n - 1 = n1 at *
  simp [go_sem, f3.len, e2, eqWp_bool, natEq]
  have hM2 : ∀ M n1 : Nat, (((M : Int) == (n1 : Int)) = true) ↔ M = n1 := fun M n1 => by simp; omega
  refine ⟨?_, ?_, by simp [go_sem, call16]⟩
  · rw [Bool.eq_iff_iff, hM2]
    simp only [beq_iff_eq]
    rcases hcount with ⟨h1, h2⟩ | ⟨h1, h2⟩
    · constructor
      · intro _; exact h1
      · intro _; omega
    · constructor
      · intro h; omega
      · intro h; exact absurd h h1
  · rcases hcount with ⟨h1, h2⟩ | ⟨h1, h2⟩ <;> omega
theorem kings_true {p bits : Nat} (hp : p < 256) (hbits : bits < 4294967296) : ∃ f H', acall E f 13 [.agg [.int .u8 (p : Nat), .int .u32 (bits : Nat)]] [] = some (.bool true, H') := by
  obtain ⟨f, v, H', h, rfl⟩ := law13 hp hbits
  exact ⟨f, H', h⟩
end Go.Proofs.Ytnlebofipoepfaa.Code
end
