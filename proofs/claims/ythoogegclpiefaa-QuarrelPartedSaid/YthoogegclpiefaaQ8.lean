/-
  Parts of the proofs about this chapter, joined: contracts of functions and plain laws.
-/
import Derived.Test.YthoogegclpiefaaQ6
set_option linter.all false
section
namespace Go.Proofs.Ythoogegclpiefaa.Code
open Go Go.Ab

/-! a list of people as a set -/
def setOf : List Nat → Nat
  | [] => 0
  | x :: r => bor (setOf r) (pw x)
theorem setOf_lt : ∀ {l : List Nat}, (∀ x ∈ l, x < 8) → setOf l < 256
  | [], _ => by decide
  | x :: r, h => bor_lt (setOf_lt fun y hy => h y (List.mem_cons_of_mem _ hy)) (pw_lt (h x (List.mem_cons_self ..)))
theorem setOf_bit : ∀ {l : List Nat} {y : Nat}, (setOf l).testBit y = true ↔ y ∈ l
  | [], y => by simp [setOf]
  | x :: r, y => by
    rw [setOf, testBit_bor, Bool.or_eq_true, setOf_bit, testBit_pw, decide_eq_true_eq, List.mem_cons]
    constructor
    · rintro (h | h)
      · exact .inr h
      · exact .inl h.symm
    · rintro (h | h)
      · exact .inr h.symm
      · exact .inl h
theorem setOf_len : ∀ {l : List Nat}, l.Nodup → (∀ x ∈ l, x < 8) → (bitsOf (setOf l)).length = l.length
  | [], _, _ => by decide
  | x :: r, hn, h => by
    rw [List.nodup_cons] at hn
    have hb : (setOf r).testBit x = false := by
      cases hc : (setOf r).testBit x
      · rfl
      · exact absurd (setOf_bit.1 hc) hn.1
    rw [setOf, bits_put _ (setOf_lt fun y hy => h y (List.mem_cons_of_mem _ hy)) x (h x (List.mem_cons_self ..)) hb, setOf_len hn.2 fun y hy => h y (List.mem_cons_of_mem _ hy)]
    rfl
/-- any who all quarrel are at most as many as the largest brawl -/
theorem clique_le {n : Nat} {w : Nat → Nat} (h : RoomW n w) (hn : n ≤ 8) {C : List Nat} (hC : ∀ x ∈ C, x < n) (hnd : C.Nodup) (hp : C.Pairwise fun x y => (w x).testBit y = true) : C.length ≤ (largestS n w).length := by
  cases C with
  | nil => simp
  | cons c r =>
    have h8 : ∀ x ∈ c :: r, x < 8 := fun x hx => by have := hC x hx; omega
    rw [← setOf_len hnd h8]
    refine largest_max ?_ (lt_pw fun i hi => hC i (setOf_bit.1 hi)) ((brawl_iff h (setOf_lt h8)).2 fun x y hx hy hxy => ?_)
    · apply Decidable.byContradiction
      intro hc
      have := setOf_bit.2 (List.mem_cons_self (a := c) (l := r))
      rw [show setOf (c :: r) = 0 by omega] at this
      simp at this
    · exact pairwise_all (P := fun x y => (w x).testBit y = true) (fun x y hp => by rw [h.sym]; exact hp) hp x (setOf_bit.1 hx) y (setOf_bit.1 hy) hxy

/-! the sum of 1 / (n - d) -/
def nonG (f : Nat → Nat → Bool) (S : List Nat) (v : Nat) : Nat := (S.filter fun u => !f v u).length
def sumG (g : Nat → Nat) : List Nat → Nat
  | [] => 0
  | x :: r => g x + sumG g r
theorem sumG_split {g : Nat → Nat} {p : Nat → Bool} : ∀ {l : List Nat}, sumG g l = sumG g (l.filter fun u => !p u) + sumG g (l.filter p)
  | [] => rfl
  | x :: r => by
    rw [sumG, sumG_split (p := p) (l := r), List.filter_cons, List.filter_cons]
    cases p x <;> simp [sumG] <;> omega
theorem sumG_le {g : Nat → Nat} {c : Nat} : ∀ {l : List Nat}, (∀ x ∈ l, g x ≤ c) → sumG g l ≤ l.length * c
  | [], _ => by simp [sumG]
  | x :: r, h => by
    have h1 := sumG_le (l := r) fun y hy => h y (List.mem_cons_of_mem _ hy)
    have h2 := h x (List.mem_cons_self ..)
    rw [sumG, List.length_cons, Nat.succ_mul]; omega
theorem sumG_mono {g g' : Nat → Nat} : ∀ {l : List Nat}, (∀ x ∈ l, g x ≤ g' x) → sumG g l ≤ sumG g' l
  | [], _ => Nat.le_refl _
  | x :: r, h => by
    have h1 := sumG_mono (l := r) fun y hy => h y (List.mem_cons_of_mem _ hy)
    have h2 := h x (List.mem_cons_self ..)
    simp only [sumG]; omega
theorem exists_least {g : Nat → Nat} : ∀ {l : List Nat}, l ≠ [] → ∃ v ∈ l, ∀ u ∈ l, g v ≤ g u
  | [x], _ => ⟨x, List.mem_cons_self .., fun u hu => by simp at hu; subst hu; exact Nat.le_refl _⟩
  | x :: y :: r, _ => by
    obtain ⟨v, hv, hm⟩ := exists_least (g := g) (l := y :: r) (by simp)
    by_cases hx : g x ≤ g v
    · exact ⟨x, List.mem_cons_self .., fun u hu => by
        rcases List.mem_cons.1 hu with rfl | hu
        · exact Nat.le_refl _
        · exact Nat.le_trans hx (hm u hu)⟩
    · exact ⟨v, List.mem_cons_of_mem _ hv, fun u hu => by
        rcases List.mem_cons.1 hu with rfl | hu
        · omega
        · exact hm u hu⟩
theorem filter_filter_len {p q : Nat → Bool} {l : List Nat} : ((l.filter p).filter q).length ≤ (l.filter q).length := by
  have e : (l.filter p).filter q = (l.filter q).filter p := by
    rw [List.filter_filter, List.filter_filter]
    apply List.filter_congr
    intro x _
    exact Bool.and_comm ..
  rw [e]
  exact List.length_filter_le ..
theorem len_split {p : Nat → Bool} : ∀ {l : List Nat}, l.length = (l.filter p).length + (l.filter fun u => !p u).length
  | [] => rfl
  | x :: r => by
    have := len_split (p := p) (l := r)
    rw [List.filter_cons, List.filter_cons, List.length_cons]
    cases p x <;> simp <;> omega
theorem caro {f : Nat → Nat → Bool} (hirr : ∀ x, f x x = false) : ∀ (k : Nat) (S : List Nat), S.length ≤ k → S.Nodup → ∃ C : List Nat, (∀ x ∈ C, x ∈ S) ∧ C.Nodup ∧ (C.Pairwise fun x y => f x y = true) ∧ sumG (fun v => 840 / nonG f S v) S ≤ 840 * C.length
  | 0, S, h, _ => by
    obtain rfl : S = [] := List.length_eq_zero_iff.1 (by omega)
    exact ⟨[], by simp, .nil, .nil, by simp [sumG]⟩
  | k + 1, S, h, hnd => by
    by_cases hS : S = []
    · subst hS; exact ⟨[], by simp, .nil, .nil, by simp [sumG]⟩
    obtain ⟨v, hv, hm⟩ := exists_least (g := nonG f S) hS
    have hpos : 0 < nonG f S v := by
      unfold nonG
      exact List.length_pos_iff.2 (List.ne_nil_of_mem (List.mem_filter.2 ⟨hv, by simp [hirr]⟩))
    have hlen : (S.filter (f v)).length < S.length := by
      have := len_split (p := f v) (l := S)
      unfold nonG at hpos
      omega
    obtain ⟨C, c1, c2, c3, c4⟩ := caro hirr k (S.filter (f v)) (by omega) (hnd.filter _)
    refine ⟨v :: C, fun x hx => ?_, ?_, ?_, ?_⟩
    · rcases List.mem_cons.1 hx with rfl | hx
      · exact hv
      · exact (List.mem_filter.1 (c1 x hx)).1
    · rw [List.nodup_cons]
      refine ⟨fun hc => ?_, c2⟩
      have := (List.mem_filter.1 (c1 v hc)).2
      rw [hirr] at this; cases this
    · rw [List.pairwise_cons]
      exact ⟨fun y hy => (List.mem_filter.1 (c1 y hy)).2, c3⟩
    · rw [sumG_split (p := f v), List.length_cons]
      have h1 : sumG (fun v => 840 / nonG f S v) (S.filter fun u => !f v u) ≤ nonG f S v * (840 / nonG f S v) := by
        refine sumG_le fun x hx => ?_
        exact Nat.div_le_div_left (hm x (List.mem_filter.1 hx).1) hpos
      have h2 : nonG f S v * (840 / nonG f S v) ≤ 840 := Nat.mul_div_le ..
      have h3 : sumG (fun v => 840 / nonG f S v) (S.filter (f v)) ≤ sumG (fun u => 840 / nonG f (S.filter (f v)) u) (S.filter (f v)) := by
        refine sumG_mono fun u hu => Nat.div_le_div_left filter_filter_len ?_
        unfold nonG
        exact List.length_pos_iff.2 (List.ne_nil_of_mem (List.mem_filter.2 ⟨hu, by simp [hirr]⟩))
      omega
theorem caro_le {n : Nat} {w : Nat → Nat} (h : RoomW n w) (hn : n ≤ 8) : sumG (fun v => 840 / (n - degW w v)) (List.range n) ≤ 840 * (largestS n w).length := by
  obtain ⟨C, c1, c2, c3, c4⟩ := caro (f := wf w) (fun x => h.irr x) n (List.range n) (by simp) List.nodup_range
  have := clique_le h hn (fun x hx => List.mem_range.1 (c1 x hx)) c2 c3
  refine Nat.le_trans (Nat.le_trans (sumG_mono fun x hx => ?_) c4) (Nat.mul_le_mul_left _ this)
  have e : nonG (wf w) (List.range n) x = n - degW w x := by
    rw [← oft_deg h hn]
    unfold nonG oftG
    have := len_split (p := wf w x) (l := List.range n)
    rw [List.length_range] at this
    omega
  rw [e]
  exact Nat.le_refl _
end Go.Proofs.Ythoogegclpiefaa.Code
end

section
namespace Go.Proofs.Ythoogegclpiefaa.Code
open Go Go.Ab

/-! as many as there are places -/
theorem sub_len : ∀ {l m : List Nat}, l.Nodup → (∀ x ∈ l, x ∈ m) → l.length ≤ m.length
  | [], _, _, _ => by simp
  | x :: r, m, hn, h => by
    rw [List.nodup_cons] at hn
    have hx := h x (List.mem_cons_self ..)
    have h2 : ∀ y ∈ r, y ∈ m.erase x := fun y hy => by
      have hne : y ≠ x := fun hc => hn.1 (hc ▸ hy)
      exact (List.mem_erase_of_ne hne).2 (h y (List.mem_cons_of_mem _ hy))
    have := sub_len hn.2 h2
    rw [List.length_erase_of_mem hx] at this
    have := List.length_pos_of_mem hx
    rw [List.length_cons]; omega
theorem map_nodup {α β : Type} {f : α → β} {l : List α} (hn : l.Nodup) (h : ∀ x ∈ l, ∀ y ∈ l, f x = f y → x = y) : (l.map f).Nodup := by
  induction l with
  | nil => exact .nil
  | cons a r ih =>
    rw [List.nodup_cons] at hn
    rw [List.map_cons, List.nodup_cons]
    refine ⟨fun hc => ?_, ih hn.2 fun x hx y hy => h x (List.mem_cons_of_mem _ hx) y (List.mem_cons_of_mem _ hy)⟩
    obtain ⟨y, hy, he⟩ := List.mem_map.1 hc
    have := h y (List.mem_cons_of_mem _ hy) a (List.mem_cons_self ..) he
    exact hn.1 (this ▸ hy)

/-! the greatest of a list -/
def maxL (l : List Nat) : Nat := l.foldl max 0
theorem foldl_max : ∀ (l : List Nat) (a : Nat), a ≤ l.foldl max a ∧ (∀ x ∈ l, x ≤ l.foldl max a) ∧ (l.foldl max a = a ∨ l.foldl max a ∈ l)
  | [], a => ⟨Nat.le_refl _, by simp, .inl rfl⟩
  | x :: r, a => by
    obtain ⟨h1, h2, h3⟩ := foldl_max r (max a x)
    refine ⟨Nat.le_trans (Nat.le_max_left ..) h1, fun y hy => ?_, ?_⟩
    · rcases List.mem_cons.1 hy with rfl | hy
      · exact Nat.le_trans (Nat.le_max_right ..) h1
      · exact h2 y hy
    · rw [List.foldl_cons]
      rcases h3 with h3 | h3
      · rw [h3]
        rcases Nat.le_total a x with h | h
        · right; rw [Nat.max_eq_right h]; exact List.mem_cons_self ..
        · left; exact Nat.max_eq_left h
      · right; exact List.mem_cons_of_mem _ h3
theorem maxL_le {l : List Nat} {x : Nat} (h : x ∈ l) : x ≤ maxL l := (foldl_max l 0).2.1 x h
theorem maxL_mem {l : List Nat} (h : l ≠ []) : maxL l ∈ l := by
  rcases (foldl_max l 0).2.2 with h2 | h2
  · cases l with
    | nil => exact absurd rfl h
    | cons a r =>
      have := maxL_le (List.mem_cons_self (a := a) (l := r))
      have h3 : maxL (a :: r) = 0 := h2
      rw [h3] at this ⊢
      rw [show a = 0 by omega]; exact List.mem_cons_self ..
  · exact h2

/-! rooms -/
/-- people who quarrel have different rooms -/
def Proper (n : Nat) (w : Nat → Nat) (f : Nat → Nat) : Prop := ∀ x y, x < n → y < n → (w x).testBit y = true → f x ≠ f y
theorem fitW_iff {w : Nat → Nat} {b : List Nat} {r : Nat} : fitW w b r = true ↔ ∀ i, i < b.length → b[i]? = some r → (w b.length).testBit i = false := by
  unfold fitW
  simp only [List.all_eq_true, List.mem_range, Bool.or_eq_true, bne_iff_ne, ne_eq, Bool.not_eq_true']
  constructor
  · intro h i hi he
    rcases h i hi with h1 | h1
    · exact absurd he h1
    · exact h1
  · intro h i hi
    by_cases he : b[i]? = some r
    · exact .inr (h i hi he)
    · exact .inl he
theorem proper_fit {n : Nat} {w : Nat → Nat} {f : Nat → Nat} (h : Proper n w f) {i : Nat} (hi : i < n) : fitW w ((List.range i).map f) (f i) = true := by
  rw [fitW_iff]
  intro j hj he
  simp at hj
  have e : ((List.range i).map f)[j]? = some (f j) := by simp [hj]
  rw [e] at he
  simp only [List.length_map, List.length_range]
  cases hc : (w i).testBit j
  · rfl
  · exact absurd (Option.some.inj he).symm (h i j hi (by omega) hc)
/-- what is found is in order -/
theorem roomsF_sound {w : Nat → Nat} {m : Nat} : ∀ {k : Nat} {b c : List Nat}, roomsF (fitW w) m k b = some c →
    (∃ r, c = b ++ r ∧ r.length = k ∧ ∀ x ∈ r, x < m) ∧ ∀ i, b.length ≤ i → i < c.length → ∀ j, j < i → c[j]? = c[i]? → (w i).testBit j = false
  | 0, b, c, h => by
    simp [roomsF] at h
    subst h
    exact ⟨⟨[], by simp, rfl, by simp⟩, fun i h1 h2 => by omega⟩
  | k + 1, b, c, h => by
    simp only [roomsF] at h
    obtain ⟨l1, a, l2, h1, h2, h3⟩ := List.findSome?_eq_some_iff.1 h
    have ha : a < m := List.mem_range.1 (by rw [h1]; simp)
    split at h2
    · rename_i hf
      obtain ⟨⟨r, g1, g2, g3⟩, g4⟩ := roomsF_sound h2
      refine ⟨⟨a :: r, by rw [g1]; simp, by simp [g2], fun x hx => ?_⟩, fun i hi1 hi2 j hj he => ?_⟩
      · rcases List.mem_cons.1 hx with rfl | hx
        · exact ha
        · exact g3 x hx
      · by_cases hib : i = b.length
        · subst hib
          have e1 : c[b.length]? = some a := by rw [g1]; simp
          have e2 : c[j]? = b[j]? := by rw [g1, List.append_assoc, List.getElem?_append_left hj]
          rw [e1, e2] at he
          exact fitW_iff.1 hf j hj he
        · exact g4 i (by simp; omega) hi2 j hj he
    · cases h2
def cAt (c : List Nat) : Nat → Nat := fun x => (c[x]?).getD 0
theorem sound_proper {n m : Nat} {w : Nat → Nat} (hr : RoomW n w) {c : List Nat} (h : roomsF (fitW w) m n [] = some c) : c.length = n ∧ (∀ x ∈ c, x < m) ∧ Proper n w (cAt c) := by
  obtain ⟨⟨r, g1, g2, g3⟩, g4⟩ := roomsF_sound h
  rw [List.nil_append] at g1
  subst g1
  have key : ∀ x y, x < y → y < n → (w y).testBit x = true → cAt c x ≠ cAt c y := fun x y hxy hy hb hc => by
    have := g4 y (Nat.zero_le _) (by omega) x hxy (by
      unfold cAt at hc
      rw [List.getElem?_eq_getElem (by omega), List.getElem?_eq_getElem (by omega)] at hc ⊢
      simpa using hc)
    rw [this] at hb; cases hb
  refine ⟨g2, g3, fun x y hx hy hb => ?_⟩
  rcases Nat.lt_trichotomy x y with hxy | hxy | hxy
  · exact key x y hxy hy (by rw [hr.sym]; exact hb)
  · subst hxy; rw [hr.irr] at hb; cases hb
  · exact Ne.symm (key y x hxy hx hb)
/-- the fewest rooms -/
structure Fewest (n : Nat) (w : Nat → Nat) (c : List Nat) (k : Nat) : Prop where
  len : c.length = n
  lt : ∀ x ∈ c, x < k
  proper : Proper n w (cAt c)
  pos : 1 ≤ k
  le : k ≤ n
  least : ∀ (f : Nat → Nat) (m : Nat), Proper n w f → (∀ x, x < n → f x < m) → k ≤ m
  max : maxL c + 1 = k
theorem rooms_fewest {n : Nat} {w : Nat → Nat} (hr : RoomW n w) (h1 : 1 ≤ n) : ∃ k, Fewest n w (roomsS n w (n - 1)) k := by
  have key : ∀ (c : List Nat) (k : Nat), c.length = n → (∀ x ∈ c, x < k) → Proper n w (cAt c) → 1 ≤ k → k ≤ n → (∀ (f : Nat → Nat) (m : Nat), Proper n w f → (∀ x, x < n → f x < m) → k ≤ m) → Fewest n w c k := by
    intro c k hl hlt hp hk hkn hle
    refine ⟨hl, hlt, hp, hk, hkn, hle, ?_⟩
    have hne : c ≠ [] := fun hc => by rw [hc] at hl; simp at hl; omega
    have e1 := hlt _ (maxL_mem hne)
    have e2 := hle (cAt c) (maxL c + 1) hp fun x hx => by
      have : c[x]? = some c[x] := List.getElem?_eq_getElem (by omega)
      unfold cAt
      rw [this]
      exact Nat.lt_succ_of_le (maxL_le (List.getElem_mem _))
    omega
  have pos : ∀ (f : Nat → Nat) (m : Nat), (∀ x, x < n → f x < m) → 1 ≤ m := fun f m h => by have := h 0 (by omega); omega
  have none_of : ∀ m, roomsF (fitW w) m n [] = none → ∀ f : Nat → Nat, Proper n w f → ¬ ∀ x, x < n → f x < m := fun m hm f hp hf => by
    have := roomsF_some (fit := fitW w) (m := m) (n := n) f hf (fun i hi => proper_fit hp hi) n 0 (by omega)
    simp [hm] at this
  have e0 : n - (n - 1) = 1 := by omega
  unfold roomsS
  rw [e0]
  cases hf : (List.range' 1 (n - 1)).findSome? fun m => roomsF (fitW w) m n [] with
  | some c =>
    obtain ⟨l1, k, l2, g1, g2, g3⟩ := List.findSome?_eq_some_iff.1 hf
    have hk := List.mem_range'_1.1 (show k ∈ List.range' 1 (n - 1) by rw [g1]; simp)
    obtain ⟨s1, s2, s3⟩ := sound_proper hr g2
    refine ⟨k, key c k s1 s2 s3 (by omega) (by omega) fun f m hp hm => ?_⟩
    apply Decidable.byContradiction
    intro hc
    have hm1 := pos f m hm
    have hmem : m ∈ l1 := by
      have : m ∈ List.range' 1 (n - 1) := List.mem_range'_1.2 (by omega)
      rw [g1] at this
      rcases List.mem_append.1 this with h | h
      · exact h
      · exfalso
        have hs : (List.range' 1 (n - 1)).Pairwise (· < ·) := List.pairwise_lt_range' ..
        rw [g1, List.pairwise_append] at hs
        have hs2 := hs.2.1
        rw [List.pairwise_cons] at hs2
        rcases List.mem_cons.1 h with h | h
        · omega
        · have := hs2.1 m h; omega
    exact none_of m (g3 m hmem) f hp hm
  | none =>
    rw [List.findSome?_eq_none_iff] at hf
    refine ⟨n, key _ n (by simp) (by simp) (fun x y hx hy hb => ?_) h1 (Nat.le_refl _) fun f m hp hm => ?_⟩
    · unfold cAt
      simp only [Option.getD_none, List.getElem?_range hx, List.getElem?_range hy, Option.getD_some]
      intro hc; subst hc; rw [hr.irr] at hb; cases hb
    · apply Decidable.byContradiction
      intro hc
      have hm1 := pos f m hm
      exact none_of m (hf m (List.mem_range'_1.2 (by omega))) f hp hm
/-- any who all quarrel have rooms of their own -/
theorem clique_rooms {n k : Nat} {w : Nat → Nat} {f : Nat → Nat} (hp : Proper n w f) (hk : ∀ x, x < n → f x < k) {C : List Nat} (hC : ∀ x ∈ C, x < n) (hnd : C.Nodup) (hcl : ∀ x ∈ C, ∀ y ∈ C, x ≠ y → (w x).testBit y = true) : C.length ≤ k := by
  have h1 : (C.map f).Nodup := map_nodup hnd fun x hx y hy he => by
    apply Decidable.byContradiction
    intro hc
    exact hp x y (hC x hx) (hC y hy) (hcl x hx y hy hc) he
  have := sub_len (m := List.range k) h1 fun x hx => by
    obtain ⟨y, hy, rfl⟩ := List.mem_map.1 hx
    exact List.mem_range.2 (hk y (hC y hy))
  simpa using this
theorem largest_rooms {n k : Nat} {w : Nat → Nat} {f : Nat → Nat} (hr : RoomW n w) (hn : n ≤ 8) (hp : Proper n w f) (hk : ∀ x, x < n → f x < k) : (largestS n w).length ≤ k := by
  rcases largest_is (n := n) (w := w) with he | ⟨s, s1, s2, s3, he⟩
  · rw [he]; simp
  · rw [he]
    have hs : s < 256 := by have := pw_le hn; omega
    refine clique_rooms hp hk (fun x hx => bit_lt s2 (bits_mem.1 hx).2) ((bits_pairwise s).imp fun h => Nat.ne_of_lt h) fun x hx y hy hxy => ?_
    exact (brawl_iff hr hs).1 s3 x y (bits_mem.1 hx).2 (bits_mem.1 hy).2 hxy
end Go.Proofs.Ythoogegclpiefaa.Code
end

section
namespace Go.Proofs.Ythoogegclpiefaa.Code
open Go Go.Ab

/-! groups of a parted house -/
def grpW (n : Nat) (w : Nat → Nat) (a : Nat) : List Nat := (List.range n).filter fun b => !(w a).testBit b
def headsW (n : Nat) (w : Nat → Nat) : List Nat := (List.range n).filter fun a => decide ((grpW n w a).head? = some a)
theorem groups_heads {n : Nat} {w : Nat → Nat} {l : List ZZ} (hn : n ≤ 8) (ht : Tells w l) : groupsR l n = (headsW n w).map (grpW n w) := by
  have e : ∀ a, a < n → grp l n a = grpW n w a := fun a ha => by
    unfold grp grpW
    apply List.filter_congr
    intro b hb
    rw [ht a b (by omega) (by have := List.mem_range.1 hb; omega)]
  unfold groupsR headsW
  have key : ∀ L : List Nat, (∀ a ∈ L, a < n) → L.filterMap (grpO l n) = (L.filter fun a => decide ((grpW n w a).head? = some a)).map (grpW n w) := by
    intro L
    induction L with
    | nil => intro _; rfl
    | cons a r ih =>
      intro h
      have ha := h a (List.mem_cons_self ..)
      have hr := ih fun x hx => h x (List.mem_cons_of_mem _ hx)
      have ho : grpO l n a = if (grpW n w a).head? = some a then some (grpW n w a) else none := by unfold grpO; rw [e a ha]
      rw [List.filterMap_cons, List.filter_cons, ho]
      by_cases hc : (grpW n w a).head? = some a
      · rw [if_pos hc]
        simp only [hc, decide_true, if_true, List.map_cons]
        rw [hr]
      · rw [if_neg hc]
        simp only [hc, decide_false]
        exact hr
  exact key _ fun a ha => List.mem_range.1 ha

structure PartedW (n : Nat) (w : Nat → Nat) : Prop where
  room : RoomW n w
  le : n ≤ 8
  trans : ∀ a b c, a < n → b < n → c < n → (w a).testBit b = false → (w b).testBit c = false → (w a).testBit c = false
theorem parted_w {n : Nat} {w : Nat → Nat} (hr : RoomW n w) (hn : n ≤ 8) (h : partG (wf w) n = true) : PartedW n w := ⟨hr, hn, fun a b c ha hb hc h1 h2 => by
  simp only [partG, List.all_eq_true, List.mem_range] at h
  have := h a ha b hb c hc
  by_cases hab : a = b
  · subst hab; exact h2
  · by_cases hbc : b = c
    · subst hbc; exact h1
    · simpa [testG, wf, hab, hbc, h1, h2] using this⟩
section
variable {n : Nat} {w : Nat → Nat}
theorem mem_grp {a b : Nat} : b ∈ grpW n w a ↔ b < n ∧ (w a).testBit b = false := by simp [grpW]
theorem grp_self (h : RoomW n w) {a : Nat} (ha : a < n) : a ∈ grpW n w a := mem_grp.2 ⟨ha, h.irr a⟩
theorem grp_sorted {a : Nat} : (grpW n w a).Pairwise (· < ·) := List.pairwise_lt_range.filter _
theorem grp_same (h : PartedW n w) {a b : Nat} (ha : a < n) (hb : b < n) (hab : (w a).testBit b = false) : grpW n w a = grpW n w b := by
  unfold grpW
  apply List.filter_congr
  intro c hc
  have hc := List.mem_range.1 hc
  have e : (w a).testBit c = (w b).testBit c := by
    cases h1 : (w a).testBit c
    · cases h2 : (w b).testBit c
      · rfl
      · rw [h.trans b a c hb ha hc (by rw [h.room.sym]; exact hab) h1] at h2; cases h2
    · cases h2 : (w b).testBit c
      · rw [h.trans a b c ha hb hc hab h2] at h1; cases h1
      · rfl
  rw [e]
def leadW (n : Nat) (w : Nat → Nat) (x : Nat) : Nat := ((grpW n w x).head?).getD 0
theorem lead_head (h : RoomW n w) {x : Nat} (hx : x < n) : (grpW n w x).head? = some (leadW n w x) := by
  unfold leadW
  have := grp_self h hx
  cases hg : grpW n w x with
  | nil => rw [hg] at this; simp at this
  | cons a r => rfl
theorem lead_mem (h : RoomW n w) {x : Nat} (hx : x < n) : leadW n w x ∈ grpW n w x := List.mem_of_head? (lead_head h hx)
theorem lead_heads (h : PartedW n w) {x : Nat} (hx : x < n) : leadW n w x ∈ headsW n w := by
  have hm := mem_grp.1 (lead_mem h.room hx)
  unfold headsW
  refine List.mem_filter.2 ⟨List.mem_range.2 hm.1, ?_⟩
  rw [← grp_same h hx hm.1 hm.2, lead_head h.room hx]
  simp
theorem heads_lead (h : RoomW n w) {a : Nat} (ha : a ∈ headsW n w) : a < n ∧ leadW n w a = a := by
  unfold headsW at ha
  obtain ⟨h1, h2⟩ := List.mem_filter.1 ha
  have h1 := List.mem_range.1 h1
  refine ⟨h1, ?_⟩
  rw [lead_head h h1] at h2
  simpa using h2
theorem lead_eq (h : PartedW n w) {x y : Nat} (hx : x < n) (hy : y < n) (hxy : (w x).testBit y = false) : leadW n w x = leadW n w y := by
  unfold leadW; rw [grp_same h hx hy hxy]
theorem lead_ne (h : PartedW n w) {x y : Nat} (hx : x < n) (hy : y < n) (he : leadW n w x = leadW n w y) : (w x).testBit y = false := by
  have h1 := mem_grp.1 (lead_mem h.room hx)
  have h2 := mem_grp.1 (lead_mem h.room hy)
  rw [← he] at h2
  exact h.trans x (leadW n w x) y hx h1.1 hy h1.2 (by rw [h.room.sym]; exact h2.2)
theorem heads_nodup : (headsW n w).Nodup := (List.nodup_range).filter _
def idxW (n : Nat) (w : Nat → Nat) (x : Nat) : Nat := (headsW n w).idxOf (leadW n w x)
theorem idx_lt (h : PartedW n w) {x : Nat} (hx : x < n) : idxW n w x < (headsW n w).length := List.idxOf_lt_length_of_mem (lead_heads h hx)
theorem idx_iff (h : PartedW n w) {x y : Nat} (hx : x < n) (hy : y < n) : idxW n w x = idxW n w y ↔ (w x).testBit y = false := by
  constructor
  · intro he
    refine lead_ne h hx hy ?_
    have e1 := List.getElem_idxOf (idx_lt h hx)
    have e2 := List.getElem_idxOf (idx_lt h hy)
    unfold idxW at he
    simp only [he] at e1
    rw [← e1]; exact e2
  · intro he
    unfold idxW
    rw [lead_eq h hx hy he]
theorem idx_proper (h : PartedW n w) : Proper n w (idxW n w) := fun x y hx hy hb he => by
  rw [(idx_iff h hx hy).1 he] at hb; cases hb
theorem idx_head (h : PartedW n w) {i : Nat} (hi : i < (headsW n w).length) {x : Nat} (hx : x ∈ grpW n w (headsW n w)[i]) : idxW n w x = i := by
  have hm := mem_grp.1 hx
  have hh := heads_lead h.room (List.getElem_mem hi)
  unfold idxW
  rw [← lead_eq h hh.1 hm.1 hm.2, hh.2]
  exact heads_nodup.idxOf_getElem i hi
theorem heads_clique (h : PartedW n w) : ∀ x ∈ headsW n w, ∀ y ∈ headsW n w, x ≠ y → (w x).testBit y = true := fun x hx y hy hxy => by
  have h1 := heads_lead h.room hx
  have h2 := heads_lead h.room hy
  cases hc : (w x).testBit y
  · have := lead_eq h h1.1 h2.1 hc
    rw [h1.2, h2.2] at this
    exact absurd this hxy
  · rfl
theorem parted_brawl (h : PartedW n w) : (largestS n w).length = (headsW n w).length := by
  have h1 := largest_rooms h.room h.le (idx_proper h) fun x hx => idx_lt h hx
  have h2 := clique_le h.room h.le (C := headsW n w) (fun x hx => (heads_lead h.room hx).1) heads_nodup (pairwise_of heads_nodup fun x hx y hy hxy => heads_clique h x hx y hy hxy)
  omega
theorem parted_rooms (h : PartedW n w) {c : List Nat} {k : Nat} (hf : Fewest n w c k) : k = (headsW n w).length := by
  have h1 := hf.least _ _ (idx_proper h) fun x hx => idx_lt h hx
  have h2 := clique_rooms (k := k) hf.proper (fun x hx => by
    have hxl : x < c.length := by rw [hf.len]; exact hx
    have : c[x]? = some c[x] := List.getElem?_eq_getElem hxl
    unfold cAt
    rw [this]
    exact hf.lt _ (List.getElem_mem _)) (C := headsW n w) (fun x hx => (heads_lead h.room hx).1) heads_nodup (heads_clique h)
  omega
theorem parted_all (h : PartedW n w) : ((headsW n w).flatMap (grpW n w)).length = n := by
  have hnd : ((headsW n w).flatMap (grpW n w)).Nodup := by
    rw [List.Nodup, List.pairwise_flatMap]
    refine ⟨fun a _ => (grp_sorted (a := a)).imp fun h => Nat.ne_of_lt h, ?_⟩
    refine (pairwise_of (P := fun a b => ∀ x ∈ grpW n w a, ∀ y ∈ grpW n w b, x ≠ y) heads_nodup fun a ha b hb hab x hx y hy he => ?_)
    subst he
    have h1 := heads_lead h.room ha
    have h2 := heads_lead h.room hb
    have m1 := mem_grp.1 hx
    have m2 := mem_grp.1 hy
    have e1 := lead_eq h h1.1 m1.1 m1.2
    have e2 := lead_eq h h2.1 m2.1 m2.2
    rw [h1.2] at e1
    rw [h2.2] at e2
    exact hab (e1.trans e2.symm)
  have h1 := sub_len (m := List.range n) hnd fun x hx => by
    obtain ⟨a, _, hx⟩ := List.mem_flatMap.1 hx
    exact List.mem_range.2 (mem_grp.1 hx).1
  have h2 := sub_len (l := List.range n) (m := (headsW n w).flatMap (grpW n w)) List.nodup_range fun x hx => by
    have hx := List.mem_range.1 hx
    have hm := mem_grp.1 (lead_mem h.room hx)
    exact List.mem_flatMap.2 ⟨_, lead_heads h hx, by rw [← grp_same h hx hm.1 hm.2]; exact grp_self h.room hx⟩
  rw [List.length_range] at h1 h2
  omega
end
end Go.Proofs.Ythoogegclpiefaa.Code
end

section
namespace Go.Proofs.Ythoogegclpiefaa.Code
open Go Go.Ab
variable {pure : Bool} {base bar : Nat} {H : Heap} {Q : AV → Heap → Prop}

/-! 55: the greatest -/
theorem take_max {l : List Nat} {i : Nat} (hi : i < l.length) : maxL (l.take (i + 1)) = max (maxL (l.take i)) l[i] := by
  unfold maxL
  rw [List.take_succ_eq_append_getElem hi, List.foldl_append]
  rfl
theorem l55 {v : AV} {l : List Nat} (hv : isL v l) (hl : l.length < 1000) {R : PQ} : ∀ (k i : Nat), i + k = l.length →
    R (.exit 0) [(0, v), (3, .int .i64 (maxL l : Nat)), (4, .int .i64 (l.length : Nat)), (15, .bool false)] H →
    Wp E base bar (.loop c55_l0) [(0, v), (3, .int .i64 (maxL (l.take i) : Nat)), (4, .int .i64 (i : Nat))] H R := by
  intro k
  induction k with
  | zero =>
    intro i hi h
    obtain rfl : i = l.length := by omega
    rw [wp_round c55_l0.eq_1]
    simp [go_sem, hv.len]
    exact h
  | succ k ih =>
    intro i hi h
    have hlt : i < l.length := by omega
    have hx := ih (i + 1) (by omega) h
    rw [take_max hlt] at hx
    have e : (if maxL (l.take i) < l[i] then ((l[i] : Nat) : Int) else ((maxL (l.take i) : Nat) : Int)) = ((max (maxL (l.take i)) l[i] : Nat) : Int) := by
      split <;> omega
    rw [wp_round c55_l0.eq_1]
    simp [go_sem, hv.len, hlt, hv.ix hlt, aop, i64_suc (show i < 1000000 by omega)]
    rw [e]
    exact hx
theorem k55 {v : AV} {l : List Nat} (hv : isL v l) (hl : l.length < 1000) (hne : 1 ≤ l.length) (h : Q (.int .i64 (maxL l : Nat)) H) : WpCall E pure base bar 55 [v] H Q := by
  rw [call55]
  cases l with
  | nil => simp at hne
  | cons c r =>
    simp [go_sem, WpFun, c55, hv.frz, hv.len, hv.ix0, show ¬ ((r.length : Int) + 1 < 1) by omega]
    have e1 : maxL ((c :: r).take 1) = c := by simp [maxL]
    have := l55 (base := H.length) (bar := if pure = true then H.length else bar) (H := H) hv hl (R := exitWp 0 (thenWp E H.length (if pure = true then H.length else bar)
              (((ACode.reg
                    [{ dst := some 24, op := AOp.mv (Opd.t 3), guard := none },
                      { dst := some 2, op := AOp.mv (Opd.t 24), guard := none }]
                    [2]).seq
                ACode.ret)) (retWp 0 H.length (if pure = true then H.length else bar) [ARes.tmp 2] Q))) r.length 1 (by simp; omega) (by simp [go_sem]; exact h)
    rw [e1] at this
    exact this

/-! the first who prove that it is not parted -/
def rowX (w : Nat → Nat) (x y : Nat) (zs : List Nat) : Option (Nat × Nat × Nat) := zs.findSome? fun z => if testG (wf w) x y z = true then some (x, y, z) else none
def rowY (n : Nat) (w : Nat → Nat) (x : Nat) (ys : List Nat) : Option (Nat × Nat × Nat) := ys.findSome? fun y => rowX w x y (List.range n)
def rowZ (n : Nat) (w : Nat → Nat) (xs : List Nat) : Option (Nat × Nat × Nat) := xs.findSome? fun x => rowY n w x (List.range n)
theorem rowZ_odd {n : Nat} {l : List ZZ} {w : Nat → Nat} (hr : RoomW n w) (ho : openS (n : Int) l = .room w) (hn : n ≤ 8) : rowZ n w (List.range n) = oddS n w := by
  rw [agree_odd (m := n) rfl ho]
  obtain ⟨_, _, _, ht, _, _⟩ := openS_facts (m := n) rfl ho
  unfold rowZ oddR
  apply findSome_congr
  intro x hx
  unfold rowY rowB
  apply findSome_congr
  intro y hy
  unfold rowX rowC
  apply findSome_congr
  intro z hz
  have hx := List.mem_range.1 hx
  have hy := List.mem_range.1 hy
  have hz := List.mem_range.1 hz
  have e : testG (wf w) x y z = testC l x y z := by
    unfold testG testC wf
    rw [ht x y (by omega) (by omega), ht y z (by omega) (by omega), ht x z (by omega) (by omega)]
    by_cases hxz : x = z
    · subst hxz
      have : qin l (x : Int) (x : Int) = false := by rw [← ht x x (by omega) (by omega)]; exact hr.irr x
      simp [this]
    · by_cases h1 : x = y <;> by_cases h2 : y = z <;> cases h3 : qin l (x : Int) (z : Int) <;> cases h4 : qin l (x : Int) (y : Int) <;> cases h5 : qin l (y : Int) (z : Int) <;> simp [h1, h2, hxz]
  rw [e]
end Go.Proofs.Ythoogegclpiefaa.Code
end

section
namespace Go.Proofs.Ythoogegclpiefaa.Code
open Go Go.Ab
variable {pure : Bool} {base bar : Nat} {H : Heap} {Q : AV → Heap → Prop}

section
variable {n i8 a b c : Nat} {w : Nat → Nat}
set_option maxRecDepth 4000 in
theorem l11c (hid : H[i8]? = some (.row 0 (gcells (wf w)) 0 true)) (hn : n ≤ 8) {x y : Nat} (hx : x < n) (hy : y < n) (hr : RoomW n w) {R : PQ} : ∀ (k z : Nat), z + k = n →
    (∀ t, rowX w x y (List.range' z k) = some t → t = (a, b, c)) → R .ret [(6, .bool true)] H →
    (rowX w x y (List.range' z k) = none → R (.exit 8) [(8, .ptr i8 0 0), (9, .int .i64 (n : Nat)), (12, .int .i64 (a : Nat)), (13, .int .i64 (b : Nat)), (14, .int .i64 (c : Nat)), (15, .int .i64 14), (16, .nils), (17, .int .i64 13), (95, .int .i64 (n : Nat)), (96, .int .i64 (x : Nat)), (18, .int .i64 (x : Nat)), (99, .int .i64 (n : Nat)), (100, .int .i64 (y : Nat)), (19, .int .i64 (y : Nat)), (103, .int .i64 (n : Nat)), (104, .int .i64 (n : Nat)), (105, .bool false)] H) →
    Wp E base bar (.loop c11_l2) [(8, .ptr i8 0 0), (9, .int .i64 (n : Nat)), (12, .int .i64 (a : Nat)), (13, .int .i64 (b : Nat)), (14, .int .i64 (c : Nat)), (15, .int .i64 14), (16, .nils), (17, .int .i64 13), (95, .int .i64 (n : Nat)), (96, .int .i64 (x : Nat)), (18, .int .i64 (x : Nat)), (99, .int .i64 (n : Nat)), (100, .int .i64 (y : Nat)), (19, .int .i64 (y : Nat)), (103, .int .i64 (n : Nat)), (104, .int .i64 (z : Nat))] H R := by
  intro k
  induction k with
  | zero =>
    intro z hz h1 h2 h3
    obtain rfl : z = n := by omega
    rw [wp_round c11_l2.eq_1]
    simp [go_sem]
    exact h3 (by simp [rowX])
  | succ k ih =>
    intro z hz h1 h2 h3
    have hlt : z < n := by omega
    have hst : rowX w x y (List.range' z (k + 1)) = if testG (wf w) x y z = true then some (x, y, z) else rowX w x y (List.range' (z + 1) k) := by
      unfold rowX
      rw [List.range'_succ, List.findSome?_cons]
      split
      · rename_i he; split at he
        · rename_i hc; rw [if_pos hc]; exact he.symm
        · cases he
      · rename_i he; split at he
        · cases he
        · rename_i hc; rw [if_neg hc]
    rw [hst] at h1 h3
    have g1 := loadG (s := 1) hid (show x < 8 by omega) (show y < 8 by omega)
    have g2 := loadG (s := 1) hid (show y < 8 by omega) (show z < 8 by omega)
    have g3 := loadG (s := 1) hid (show x < 8 by omega) (show z < 8 by omega)
    have ht : testG (wf w) x y z = (decide (x ≠ y) && (decide (y ≠ z) && (!wf w x y && (!wf w y z && wf w x z)))) := rfl
    have next : testG (wf w) x y z = false → _ := fun he => by
      rw [if_neg (by simp [he])] at h1 h3
      exact ih (z + 1) (by omega) h1 h2 h3
    rw [wp_round c11_l2.eq_1]
    have hz1 := i64_suc (show z < 1000000 by omega)
    by_cases hxy : x = y
    · have := next (by rw [ht]; simp [hxy])
      simp [go_sem, hlt, natEq, hxy, hz1] at this ⊢
      exact this
    · by_cases hyz : y = z
      · have := next (by rw [ht]; simp [hyz])
        simp [go_sem, hlt, natEq, hxy, hyz, hz1] at this ⊢
        subst hyz
        exact this
      · by_cases hxz : x = z
        · have := next (by rw [ht]; subst hxz; simp [wf, hr.irr])
          simp [go_sem, hlt, natEq, hxy, hyz, hxz, hz1] at this ⊢
          subst hxz
          exact this
        · cases e1 : wf w x z
          · rw [e1] at g3
            have := next (by rw [ht]; simp [e1])
            simp [go_sem, hlt, natEq, hxy, hyz, hxz, hz1, show x < 8 by omega, show z < 8 by omega, g3] at this ⊢
            exact this
          · rw [e1] at g3
            cases e2 : wf w x y
            · rw [e2] at g1
              cases e3 : wf w y z
              · rw [e3] at g2
                have hhit : testG (wf w) x y z = true := by rw [ht]; simp [e1, e2, e3, hxy, hyz]
                rw [if_pos hhit] at h1
                have := h1 _ rfl
                simp only [Prod.mk.injEq] at this
                obtain ⟨rfl, rfl, rfl⟩ := this
                simp [go_sem, hlt, natEq, hxy, hyz, hxz, show x < 8 by omega, show y < 8 by omega, show z < 8 by omega, g1, g2, g3, call15]
                exact h2
              · rw [e3] at g2
                have := next (by rw [ht]; simp [e3])
                simp [go_sem, hlt, natEq, hxy, hyz, hxz, hz1, show x < 8 by omega, show y < 8 by omega, show z < 8 by omega, g1, g2, g3] at this ⊢
                exact this
            · rw [e2] at g1
              have := next (by rw [ht]; simp [e2])
              simp [go_sem, hlt, natEq, hxy, hyz, hxz, hz1, show x < 8 by omega, show y < 8 by omega, show z < 8 by omega, g1, g3] at this ⊢
              exact this
theorem l11b (hid : H[i8]? = some (.row 0 (gcells (wf w)) 0 true)) (hn : n ≤ 8) {x : Nat} (hx : x < n) (hr : RoomW n w) {R : PQ} : ∀ (k y : Nat), y + k = n →
    (∀ t, rowY n w x (List.range' y k) = some t → t = (a, b, c)) → R .ret [(6, .bool true)] H →
    (rowY n w x (List.range' y k) = none → R (.exit 6) [(8, .ptr i8 0 0), (9, .int .i64 (n : Nat)), (12, .int .i64 (a : Nat)), (13, .int .i64 (b : Nat)), (14, .int .i64 (c : Nat)), (15, .int .i64 14), (16, .nils), (17, .int .i64 13), (95, .int .i64 (n : Nat)), (96, .int .i64 (x : Nat)), (18, .int .i64 (x : Nat)), (99, .int .i64 (n : Nat)), (100, .int .i64 (n : Nat)), (101, .bool false)] H) →
    Wp E base bar (.loop c11_l3) [(8, .ptr i8 0 0), (9, .int .i64 (n : Nat)), (12, .int .i64 (a : Nat)), (13, .int .i64 (b : Nat)), (14, .int .i64 (c : Nat)), (15, .int .i64 14), (16, .nils), (17, .int .i64 13), (95, .int .i64 (n : Nat)), (96, .int .i64 (x : Nat)), (18, .int .i64 (x : Nat)), (99, .int .i64 (n : Nat)), (100, .int .i64 (y : Nat))] H R := by
  intro k
  induction k with
  | zero =>
    intro y hy h1 h2 h3
    obtain rfl : y = n := by omega
    rw [wp_round c11_l3.eq_1]
    simp [go_sem]
    exact h3 (by simp [rowY])
  | succ k ih =>
    intro y hy h1 h2 h3
    have hlt : y < n := by omega
    have hst : rowY n w x (List.range' y (k + 1)) = (rowX w x y (List.range n)).or (rowY n w x (List.range' (y + 1) k)) := by
      unfold rowY
      rw [List.range'_succ, List.findSome?_cons]
      cases rowX w x y (List.range n) <;> rfl
    rw [hst] at h1 h3
    rw [wp_round c11_l3.eq_1]
    simp [go_sem, hlt]
    refine l11c hid hn hx hlt hr n 0 (by omega) (fun t ht => ?_) ?_ (fun he => ?_)
    · rw [← List.range_eq_range'] at ht
      exact h1 t (by rw [ht]; rfl)
    · simp [go_sem]
      exact h2
    · rw [← List.range_eq_range'] at he
      rw [he, Option.none_or] at h1 h3
      simp [go_sem, i64_suc (show y < 1000000 by omega)]
      exact ih (y + 1) (by omega) h1 h2 h3
theorem l11a (hid : H[i8]? = some (.row 0 (gcells (wf w)) 0 true)) (hn : n ≤ 8) (hr : RoomW n w) {R : PQ} : ∀ (k x : Nat), x + k = n →
    (∀ t, rowZ n w (List.range' x k) = some t → t = (a, b, c)) → (rowZ n w (List.range' x k)).isSome = true → R .ret [(6, .bool true)] H →
    Wp E base bar (.loop c11_l4) [(8, .ptr i8 0 0), (9, .int .i64 (n : Nat)), (12, .int .i64 (a : Nat)), (13, .int .i64 (b : Nat)), (14, .int .i64 (c : Nat)), (15, .int .i64 14), (16, .nils), (17, .int .i64 13), (95, .int .i64 (n : Nat)), (96, .int .i64 (x : Nat))] H R := by
  intro k
  induction k with
  | zero =>
    intro x hx h1 h2 h3
    simp [rowZ] at h2
  | succ k ih =>
    intro x hx h1 h2 h3
    have hlt : x < n := by omega
    have hst : rowZ n w (List.range' x (k + 1)) = (rowY n w x (List.range n)).or (rowZ n w (List.range' (x + 1) k)) := by
      unfold rowZ
      rw [List.range'_succ, List.findSome?_cons]
      cases rowY n w x (List.range n) <;> rfl
    rw [hst] at h1 h2
    rw [wp_round c11_l4.eq_1]
    simp [go_sem, hlt]
    refine l11b hid hn hlt hr n 0 (by omega) (fun t ht => ?_) ?_ (fun he => ?_)
    · rw [← List.range_eq_range'] at ht
      exact h1 t (by rw [ht]; rfl)
    · simp [go_sem]
      exact h3
    · rw [← List.range_eq_range'] at he
      rw [he, Option.none_or] at h1 h2
      simp [go_sem, i64_suc (show x < 1000000 by omega)]
      exact ih (x + 1) (by omega) h1 h2 h3
end
end Go.Proofs.Ythoogegclpiefaa.Code
end

section
namespace Go.Proofs.Ythoogegclpiefaa.Code
open Go Go.Ab

structure MadeBy (n a b : Nat) (l : List ZZ) (w : Nat → Nat) : Prop where
  room : openF n (fun _ => 0) l = .room w
  len : l.length ≤ 8 * a + b
  out : ∀ x y, x < y → ¬ (x < a ∨ x = a ∧ y < b) → (w x).testBit y = false
theorem MadeBy.zero {n : Nat} : MadeBy n 0 1 [] (fun _ => 0) := ⟨rfl, Nat.zero_le _, fun x y _ _ => by simp⟩
theorem MadeBy.skip {n b a : Nat} {l : List ZZ} {w : Nat → Nat} (h : MadeBy n a b l w) : MadeBy n a (b + 1) l w :=
  ⟨h.room, by have := h.len; omega, fun x y hxy hc => h.out x y hxy (by omega)⟩
theorem MadeBy.put {n b a : Nat} {l : List ZZ} {w : Nat → Nat} (h : MadeBy n a b l w) (hab : a < b) (hbn : b < n) : MadeBy n a (b + 1) (l ++ [((a : Int), (b : Int))]) (joinW w a b) := by
  refine ⟨?_, by have := h.len; simp; omega, fun x y hxy hc => ?_⟩
  · rw [openF_snoc h.room]
    simp only [openF]
    rw [if_neg (by omega), if_neg (by omega), Int.toNat_natCast, Int.toNat_natCast, if_neg (by rw [h.out a b hab (by omega)]; simp)]
  · rw [joinW_bit (by omega), h.out x y hxy (by omega)]
    have e1 : (decide (x = a) && decide (y = b)) = false := by simp; omega
    have e2 : (decide (x = b) && decide (y = a)) = false := by simp; omega
    rw [e1, e2]; simp
theorem MadeBy.next {n a : Nat} {l : List ZZ} {w : Nat → Nat} (h : MadeBy n a n l w) (hn : a < n) (h8 : n ≤ 8) : MadeBy n (a + 1) (a + 2) l w :=
  ⟨h.room, by have := h.len; omega, fun x y hxy hc => h.out x y hxy (by omega)⟩

/-- four blocks: the row, the bytes, the house, who quarrels -/
def HP (r b : List AV) (n : Nat) (v : AV) (f : Nat → Nat → Bool) : Heap := [.row 0 r 0 true, .row 0 b 0 true, .row 0 [.int .i64 (n : Int), v] 0 true, .row 0 (gcells f) 0 true]
theorem HP_len {r b : List AV} {n : Nat} {v : AV} {f : Nat → Nat → Bool} : (HP r b n v f).length = 4 := rfl
theorem HP_b {r b : List AV} {n : Nat} {v : AV} {f : Nat → Nat → Bool} : (HP r b n v f)[1]? = some (.row 0 b 0 true) := rfl
theorem HP_h {r b : List AV} {n : Nat} {v : AV} {f : Nat → Nat → Bool} : (HP r b n v f)[2]? = some (.row 0 [.int .i64 (n : Int), v] 0 true) := rfl
theorem HP_f {r b : List AV} {n : Nat} {v : AV} {f : Nat → Nat → Bool} : (HP r b n v f)[3]? = some (.row 0 (gcells f) 0 true) := rfl
theorem HP_seth {r b : List AV} {n : Nat} {v v' : AV} {f : Nat → Nat → Bool} : (HP r b n v f).set 2 (.row 0 [.int .i64 (n : Int), v'] 0 true) = HP r b n v' f := rfl
theorem HP_setf {r b : List AV} {n : Nat} {v : AV} {f f' : Nat → Nat → Bool} : (HP r b n v f).set 3 (.row 0 (gcells f') 0 true) = HP r b n v f' := rfl
theorem rem4 {a : Nat} : abin .rem (.int .u8 (a : Int)) (.int .u8 4) = some (.int .u8 ((a % 4 : Nat) : Int)) := by
  rw [abin_rem (by decide)]
  exact congrArg (fun z => some (AV.int .u8 z)) (Go.IntWalk.up_tmod (x := a) (y := 4) rfl rfl)
def mod4 (a : Nat) : Nat := a % 4
theorem rem4' {a : Nat} : abin .rem (.int .u8 (a : Int)) (.int .u8 4) = some (.int .u8 ((mod4 a : Nat) : Int)) := rem4

theorem l11d {r : List AV} {n a : Nat} {f : Nat → Nat} (hn : n ≤ 8) (ha : a < n) {R : PQ} :
    ∀ (k b : Nat), b + k = n → a < b → ∀ (l : List ZZ) (w : Nat → Nat) (v : AV) (Hc : Heap), MadeBy n a b l w → Grow 2 (prs l) (HP r (ucells 8 f) n v (wf w)) v Hc →
    (∀ l' w' v' Hc', MadeBy n a n l' w' → Grow 2 (prs l') (HP r (ucells 8 f) n v' (wf w')) v' Hc' →
      R (.exit 2) [(4, .ptr 1 0 0), (7, .ptr 2 0 0), (8, .ptr 3 0 0), (9, .int .i64 (n : Nat)), (42, .int .i64 (n : Nat)), (43, .int .i64 (a : Nat)), (10, .int .i64 (a : Nat)), (11, .int .i64 (n : Nat)), (50, .bool false)] Hc') →
    Wp E 0 0 (.loop c11_l0) [(4, .ptr 1 0 0), (7, .ptr 2 0 0), (8, .ptr 3 0 0), (9, .int .i64 (n : Nat)), (42, .int .i64 (n : Nat)), (43, .int .i64 (a : Nat)), (10, .int .i64 (a : Nat)), (11, .int .i64 (b : Nat))] Hc R := by
  intro k
  induction k with
  | zero =>
    intro b hb hab l w v Hc hm g h
    obtain rfl : b = n := by omega
    rw [wp_round c11_l0.eq_1]
    simp [go_sem]
    exact h l w v Hc hm g
  | succ k ih =>
    intro b hb hab l w v Hc hm g h
    have hlt : b < n := by omega
    have hll := hm.len
    have lv : aload Hc ⟨false, 1⟩ (.ptr 2 0 1) = some v := by rw [aload_ptr (g.get HP_h)]; rfl
    have la := loadU (s := 1) (g.get HP_b) (show a < 8 by omega)
    have lb := loadU (s := 1) (g.get HP_b) (show b < 8 by omega)
    have hgl := g.len
    rw [HP_len] at hgl
    rw [wp_round c11_l0.eq_1]
    by_cases hc : mod4 (f a) = mod4 (f b)
    · have := ih (b + 1) (by omega) (by omega) l w v Hc hm.skip g h
      simp [go_sem, hlt, la, lb, rem4', natEq, hc, show a < 8 by omega, show b < 8 by omega, i64_suc (show b < 1000000 by omega)]
      exact this
    · simp [go_sem, hlt, la, lb, rem4', natEq, hc, show a < 8 by omega, show b < 8 by omega, lv, aop, fillA, setCells, chunks]
      refine g.pair (p := ((a : Int), (b : Int))) (Nat.zero_le _) (Nat.zero_le _) (by omega) fun v' H' tc g' => ?_
      obtain ⟨s1, s2⟩ := grow_slot g'
      simp [go_sem]
      rw [storeWp_ptr (size := 1) (g'.get HP_h) s1 (by rw [s2]; rfl) (by omega) (by simp) (by omega) (.inl (by omega))]
      have g2 := g'.set (i := 2) (b := .row 0 [.int .i64 (n : Int), v'] 0 true) (by rw [HP_len]; omega)
      rw [HP_seth] at g2
      simp [go_sem, s2, show a < 8 by omega, show b < 8 by omega]
      rw [storeG (g2.get HP_f) (by omega) (by omega) (by omega)]
      have g3 := g2.set (i := 3) (b := .row 0 (gcells (upd2 (wf w) a b true)) 0 true) (by rw [HP_len]; omega)
      rw [HP_setf] at g3
      simp [go_sem, show a < 8 by omega, show b < 8 by omega]
      rw [storeG (g3.get HP_f) (by omega) (by omega) (by omega)]
      have g4 := g3.set (i := 3) (b := .row 0 (gcells (upd2 (upd2 (wf w) a b true) b a true)) 0 true) (by rw [HP_len]; omega)
      rw [HP_setf, wf_join (by omega)] at g4
      rw [wf_join (by omega)]
      have := ih (b + 1) (by omega) (by omega) _ _ v' _ (hm.put hab hlt) g4 h
      rw [List.set_set] at this
      simp [go_sem, i64_suc (show b < 1000000 by omega)]
      exact this

theorem l11e {r : List AV} {n : Nat} {f : Nat → Nat} (hn : n ≤ 8) {R : PQ} :
    ∀ (k a : Nat), a + k = n → ∀ (l : List ZZ) (w : Nat → Nat) (v : AV) (Hc : Heap), MadeBy n a (a + 1) l w → Grow 2 (prs l) (HP r (ucells 8 f) n v (wf w)) v Hc →
    (∀ l' w' v' Hc', openF n (fun _ => 0) l' = .room w' → l'.length ≤ 100 → Grow 2 (prs l') (HP r (ucells 8 f) n v' (wf w')) v' Hc' →
      R (.exit 0) [(4, .ptr 1 0 0), (7, .ptr 2 0 0), (8, .ptr 3 0 0), (9, .int .i64 (n : Nat)), (42, .int .i64 (n : Nat)), (43, .int .i64 (n : Nat)), (44, .bool false)] Hc') →
    Wp E 0 0 (.loop c11_l1) [(4, .ptr 1 0 0), (7, .ptr 2 0 0), (8, .ptr 3 0 0), (9, .int .i64 (n : Nat)), (42, .int .i64 (n : Nat)), (43, .int .i64 (a : Nat))] Hc R := by
  intro k
  induction k with
  | zero =>
    intro a ha l w v Hc hm g h
    obtain rfl : a = n := by omega
    have := hm.len
    rw [wp_round c11_l1.eq_1]
    simp [go_sem]
    exact h l w v Hc hm.room (by omega) g
  | succ k ih =>
    intro a ha l w v Hc hm g h
    have hlt : a < n := by omega
    rw [wp_round c11_l1.eq_1]
    simp [go_sem, hlt, i64_suc (show a < 1000000 by omega)]
    refine l11d hn hlt (n - (a + 1)) (a + 1) (by omega) (by omega) l w v Hc hm g fun l' w' v' Hc' hm' g' => ?_
    have := ih (a + 1) (by omega) l' w' v' Hc' (hm'.next hlt hn) g' h
    simp [go_sem, i64_suc (show a < 1000000 by omega)]
    exact this
end Go.Proofs.Ythoogegclpiefaa.Code
end

section
namespace Go.Proofs.Ythoogegclpiefaa.Code
open Go Go.Ab
variable {base bar : Nat} {H : Heap}

def Fill (F f : Nat → Nat) (P : List Nat) : Prop := ∀ x ∈ P, f x = F x
theorem Fill.put {F f : Nat → Nat} {P : List Nat} {x i : Nat} (h : Fill F f P) (hx : F x = i) : Fill F (upd f x i) (P ++ [x]) := fun y hy => by
  unfold upd
  split
  · rename_i he; subst he; exact hx.symm
  · rename_i hne
    rcases List.mem_append.1 hy with hy | hy
    · exact h y hy
    · simp only [List.mem_singleton] at hy; exact absurd hy hne

section
variable {n i7 i8 id i len : Nat} {gv u : AV} {gl P : List Nat} {F : Nat → Nat} {cs : List AV}
theorem l11f (hid : H[id]? = some (.row 0 cs 0 true)) (hbar : bar ≤ id) (hn : n ≤ 8) (hu : isL u gl) (hgl : gl.length ≤ 8) (hs : gl.Pairwise (· < ·)) (hlt : ∀ x ∈ gl, x < n) (hF : ∀ x ∈ gl, F x = i) (hP : P.length ≤ 1000) {R : PQ} :
    ∀ (k j : Nat) (f : Nat → Nat), j + k = gl.length → Fill F f (P ++ gl.take j) →
    (∀ f', Fill F f' (P ++ gl) → R (.exit 12) [(7, .ptr i7 0 0), (8, .ptr i8 0 0), (9, .int .i64 (n : Nat)), (16, gv), (21, .ptr id 0 0), (22, .int .i64 ((P.length + gl.length : Nat) : Int)), (193, gv), (194, .int .i64 (len : Nat)), (195, .int .i64 (i : Nat)), (23, .int .i64 (i : Nat)), (24, u), (203, u), (204, .int .i64 (gl.length : Nat)), (205, .int .i64 (gl.length : Nat)), (206, .bool false)] (H.set id (.row 0 (fcells 8 f') 0 true))) →
    Wp E base bar (.loop c11_l5) [(7, .ptr i7 0 0), (8, .ptr i8 0 0), (9, .int .i64 (n : Nat)), (16, gv), (21, .ptr id 0 0), (22, .int .i64 ((P.length + j : Nat) : Int)), (193, gv), (194, .int .i64 (len : Nat)), (195, .int .i64 (i : Nat)), (23, .int .i64 (i : Nat)), (24, u), (203, u), (204, .int .i64 (gl.length : Nat)), (205, .int .i64 (j : Nat))] (H.set id (.row 0 (fcells 8 f) 0 true)) R := by
  intro k
  induction k with
  | zero =>
    intro j f hj hf h
    obtain rfl : j = gl.length := by omega
    rw [List.take_length] at hf
    have := h f hf
    rw [wp_round c11_l5.eq_1]
    simp [go_sem] at this ⊢
    exact this
  | succ k ih =>
    intro j f hj hf h
    have hjl : j < gl.length := by omega
    have hx := hlt _ (List.getElem_mem hjl)
    have hFx := hF _ (List.getElem_mem hjl)
    have hf2 := hf.put hFx
    rw [List.append_assoc, ← List.take_succ_eq_append_getElem hjl] at hf2
    have next := ih (j + 1) _ (by omega) hf2 h
    have g2 : ∀ f, (H.set id (.row 0 (fcells 8 f) 0 true))[id]? = some (.row 0 (fcells 8 f) 0 true) := fun f => set_get hid
    have e1 : IntKind.i64.wrap (((P.length : Nat) : Int) + (j : Int) + 1) = (P.length : Int) + ((j : Int) + 1) := by
      have := i64_suc (i := P.length + j) (by omega)
      rw [Int.natCast_add] at this
      rw [this]; omega
    have hxu : ∀ {K : AV → Heap → List Nat → Prop}, ixaSWp 1 (some u) (some (.int .i64 (j : Int))) (H.set id (.row 0 (fcells 8 f) 0 true)) K = K (.fp (.int .i64 ((gl[j] : Nat) : Int))) (H.set id (.row 0 (fcells 8 f) 0 true)) [] := hu.ix hjl
    rw [wp_round c11_l5.eq_1]
    by_cases hj0 : j = 0
    · subst hj0
      have hx0 : ∀ {K : AV → Heap → List Nat → Prop}, ixaSWp 1 (some u) (some (.int .i64 0)) (H.set id (.row 0 (fcells 8 f) 0 true)) K = K (.fp (.int .i64 ((gl[0] : Nat) : Int))) (H.set id (.row 0 (fcells 8 f) 0 true)) [] := hxu
      generalize gl[0] = x at *
      simp [go_sem, hjl, hx0, show ¬ (n ≤ x) by omega, hx, show x < 8 by omega, show ¬ ((x : Int) < 0) by omega]
      rw [storeF (g2 _) (by omega) (by omega) hbar]
      simp [go_sem, i64_suc (show P.length < 1000000 by omega), show IntKind.i64.wrap 1 = 1 from by decide]
      simpa using next
    · have hj1 : j - 1 < gl.length := by omega
      have hlt2 : gl[j - 1] < gl[j] := List.pairwise_iff_getElem.1 hs _ _ hj1 hjl (by omega)
      have hxp : ∀ {K : AV → Heap → List Nat → Prop}, ixaSWp 1 (some u) (some (.int .i64 ((j - 1 : Nat) : Int))) (H.set id (.row 0 (fcells 8 f) 0 true)) K = K (.fp (.int .i64 ((gl[j - 1] : Nat) : Int))) (H.set id (.row 0 (fcells 8 f) 0 true)) [] := hu.ix hj1
      have e2 : IntKind.i64.wrap ((j : Int) - 1) = ((j - 1 : Nat) : Int) := by
        rw [show (j : Int) - 1 = ((j - 1 : Nat) : Int) by omega, i64_nat (by omega)]
      generalize gl[j - 1] = y at *
      generalize gl[j] = x at *
      generalize hjj : j - 1 = j' at *
      simp [go_sem, hjl, hxu, hxp, e2, show ¬ (n ≤ x) by omega, hx, show x < 8 by omega, show ¬ ((x : Int) < 0) by omega, show 0 < j by omega, show ¬ (x ≤ y) by omega]
      rw [storeF (g2 _) (by omega) (by omega) hbar]
      simp [go_sem, e1, i64_suc (show j < 1000000 by omega)]
      simpa using next
end
end Go.Proofs.Ythoogegclpiefaa.Code
end

section
namespace Go.Proofs.Ythoogegclpiefaa.Code
open Go Go.Ab
variable {base bar : Nat} {H : Heap}

theorem heads_cons {n : Nat} {w : Nat → Nat} (hr : RoomW n w) {a : Nat} (ha : a ∈ headsW n w) : ∃ r, grpW n w a = a :: r := by
  have h := heads_lead hr ha
  have := lead_head hr h.1
  rw [h.2] at this
  cases hg : grpW n w a with
  | nil => rw [hg] at this; simp at this
  | cons b r => rw [hg] at this; simp at this; exact ⟨r, by rw [this]⟩
theorem heads_sorted {n : Nat} {w : Nat → Nat} : (headsW n w).Pairwise (· < ·) := List.pairwise_lt_range.filter _
theorem grp_len {n a : Nat} {w : Nat → Nat} : (grpW n w a).length ≤ n := by
  unfold grpW
  exact Nat.le_trans (List.length_filter_le _ _) (by simp)
theorem heads_len {n : Nat} {w : Nat → Nat} : (headsW n w).length ≤ n := by
  unfold headsW
  exact Nat.le_trans (List.length_filter_le _ _) (by simp)

def doneL (n : Nat) (w : Nat → Nat) (i : Nat) : List Nat := ((headsW n w).take i).flatMap (grpW n w)
section
variable {n i7 i8 id : Nat} {gv : AV} {w : Nat → Nat} {cs : List AV}
theorem l11g (hp : PartedW n w) (hid : H[id]? = some (.row 0 cs 0 true)) (hbar : bar ≤ id) (hg : isLL gv ((headsW n w).map (grpW n w))) {R : PQ} :
    ∀ (k i : Nat) (f : Nat → Nat), i + k = (headsW n w).length → Fill (idxW n w) f (doneL n w i) →
    (∀ f', Fill (idxW n w) f' ((headsW n w).flatMap (grpW n w)) → R (.exit 10) [(7, .ptr i7 0 0), (8, .ptr i8 0 0), (9, .int .i64 (n : Nat)), (16, gv), (21, .ptr id 0 0), (22, .int .i64 (n : Nat)), (193, gv), (194, .int .i64 ((headsW n w).length : Nat)), (195, .int .i64 ((headsW n w).length : Nat)), (196, .bool false)] (H.set id (.row 0 (fcells 8 f') 0 true))) →
    Wp E base bar (.loop c11_l6) [(7, .ptr i7 0 0), (8, .ptr i8 0 0), (9, .int .i64 (n : Nat)), (16, gv), (21, .ptr id 0 0), (22, .int .i64 ((doneL n w i).length : Nat)), (193, gv), (194, .int .i64 ((headsW n w).length : Nat)), (195, .int .i64 (i : Nat))] (H.set id (.row 0 (fcells 8 f) 0 true)) R := by
  have hn8 := hp.le
  intro k
  induction k with
  | zero =>
    intro i f hi hf h
    obtain rfl : i = (headsW n w).length := by omega
    have hda : doneL n w (headsW n w).length = (headsW n w).flatMap (grpW n w) := by unfold doneL; rw [List.take_length]
    rw [hda] at hf
    have := h f hf
    rw [wp_round c11_l6.eq_1]
    rw [hda, parted_all hp]
    simp [go_sem]
    exact this
  | succ k ih =>
    intro i f hi hf h
    have hil : i < (headsW n w).length := by omega
    have hmem := List.getElem_mem hil
    have hlen := grp_len (n := n) (w := w) (a := (headsW n w)[i])
    have hhl := heads_len (n := n) (w := w)
    obtain ⟨r, hr⟩ := heads_cons hp.room hmem
    have hst : doneL n w (i + 1) = doneL n w i ++ grpW n w (headsW n w)[i] := by
      unfold doneL; rw [List.take_succ_eq_append_getElem hil, List.flatMap_append]; simp
    have hPl : (doneL n w i).length ≤ 1000 := by
      have h1 : (doneL n w i).length ≤ ((headsW n w).take i).length * 8 := flatMap_len (m := 8) (f := grpW n w) ((headsW n w).take i) fun x _ => Nat.le_trans grp_len hn8
      have h2 : ((headsW n w).take i).length ≤ 8 := by rw [List.length_take]; omega
      have := Nat.mul_le_mul_right 8 h2
      omega
    obtain ⟨u, hu, hux⟩ := isLL_ix hg (i := i) (by simpa using hil)
    have hu : isL u (grpW n w (headsW n w)[i]) := by simpa using hu
    have hu0 : isL u ((headsW n w)[i] :: r) := by rw [← hr]; exact hu
    have hne : ¬ grpW n w (headsW n w)[i] = [] := by rw [hr]; simp
    rw [wp_round c11_l6.eq_1]
    simp [go_sem, hil, hux, aload_fpL hu, hu.len, hne]
    refine l11f (P := doneL n w i) (F := idxW n w) (gl := grpW n w (headsW n w)[i]) hid hbar hn8 hu (by omega) grp_sorted (fun x hx => (mem_grp.1 hx).1) (fun x hx => idx_head hp hil hx) hPl (grpW n w (headsW n w)[i]).length 0 f (by omega) (by simpa using hf) fun f' hf' => ?_
    rw [← hst] at hf'
    have next := ih (i + 1) f' (by omega) hf' h
    rw [hst, List.length_append] at next
    by_cases hi0 : i = 0
    · subst hi0
      simp [go_sem, show IntKind.i64.wrap 1 = 1 from by decide] at next ⊢
      exact next
    · have hi1 : i - 1 < (headsW n w).length := by omega
      obtain ⟨u', hu', hux'⟩ := isLL_ix hg (i := i - 1) (by simpa using hi1)
      have hu' : isL u' (grpW n w (headsW n w)[i - 1]) := by simpa using hu'
      obtain ⟨r', hr'⟩ := heads_cons hp.room (List.getElem_mem hi1)
      have hu0' : isL u' ((headsW n w)[i - 1] :: r') := by rw [← hr']; exact hu'
      have hlt2 : (headsW n w)[i - 1] < (headsW n w)[i] := List.pairwise_iff_getElem.1 heads_sorted _ _ hi1 hil (by omega)
      have e2 : IntKind.i64.wrap ((i : Int) - 1) = ((i - 1 : Nat) : Int) := by
        rw [show (i : Int) - 1 = ((i - 1 : Nat) : Int) by omega, i64_nat (by omega)]
      generalize (headsW n w)[i - 1] = y at *
      generalize (headsW n w)[i] = x at *
      generalize hii : i - 1 = i' at *
      simp [go_sem, hu0.ix0, hu0'.ix0, hux', aload_fpL hu', e2, show 0 < i by omega, show ¬ (x ≤ y) by omega, i64_suc (show i < 1000000 by omega)] at next ⊢
      exact next
end
end Go.Proofs.Ythoogegclpiefaa.Code
end

section
namespace Go.Proofs.Ythoogegclpiefaa.Code
open Go Go.Ab
variable {base bar : Nat} {H : Heap}
theorem eqWp_bool {neg a b : Bool} {K : AV → Heap → List Nat → Prop} : eqWp neg .bool (some (.bool a)) (some (.bool b)) H K = K (.bool (if neg then a != b else a == b)) H [] := by
  cases neg <;> cases a <;> cases b <;> rfl
section
variable {n i7 i8 id m : Nat} {gv : AV} {w f : Nat → Nat}
theorem l11h (hp : PartedW n w) (h8 : H[i8]? = some (.row 0 (gcells (wf w)) 0 true)) (hid : H[id]? = some (.row 0 (fcells 8 f) 0 true)) (hf : ∀ x, x < n → f x = idxW n w x) {x : Nat} (hx : x < n) {R : PQ} :
    ∀ (k y : Nat), y + k = n →
    R (.exit 16) [(7, .ptr i7 0 0), (8, .ptr i8 0 0), (9, .int .i64 (n : Nat)), (16, gv), (21, .ptr id 0 0), (22, .int .i64 (m : Nat)), (252, .int .i64 (n : Nat)), (253, .int .i64 (x : Nat)), (27, .int .i64 (x : Nat)), (256, .int .i64 (n : Nat)), (257, .int .i64 (n : Nat)), (258, .bool false)] H →
    Wp E base bar (.loop c11_l7) [(7, .ptr i7 0 0), (8, .ptr i8 0 0), (9, .int .i64 (n : Nat)), (16, gv), (21, .ptr id 0 0), (22, .int .i64 (m : Nat)), (252, .int .i64 (n : Nat)), (253, .int .i64 (x : Nat)), (27, .int .i64 (x : Nat)), (256, .int .i64 (n : Nat)), (257, .int .i64 (y : Nat))] H R := by
  have hn8 := hp.le
  intro k
  induction k with
  | zero =>
    intro y hy h
    obtain rfl : y = n := by omega
    rw [wp_round c11_l7.eq_1]
    simp [go_sem]
    exact h
  | succ k ih =>
    intro y hy h
    have hlt : y < n := by omega
    have next := ih (y + 1) (by omega) h
    have g1 := loadG (s := 1) h8 (show x < 8 by omega) (show y < 8 by omega)
    have g2 := loadF (s := 1) hid (show x < 8 by omega)
    have g3 := loadF (s := 1) hid (show y < 8 by omega)
    have hi := idx_iff hp hx hlt
    rw [← hf x hx, ← hf y hlt] at hi
    rw [wp_round c11_l7.eq_1]
    cases e : wf w x y
    · have e' : f x = f y := hi.2 e
      rw [e] at g1
      simp [go_sem, hlt, show x < 8 by omega, show y < 8 by omega, g1, g2, g3, e', natEq, i64_suc (show y < 1000000 by omega), eqWp_bool]
      exact next
    · have e' : ¬ f x = f y := fun hc => by
        have := hi.1 hc
        rw [show (w x).testBit y = true from e] at this; cases this
      rw [e] at g1
      simp [go_sem, hlt, show x < 8 by omega, show y < 8 by omega, g1, g2, g3, e', natEq, i64_suc (show y < 1000000 by omega), eqWp_bool]
      exact next
theorem l11i (hp : PartedW n w) (h8 : H[i8]? = some (.row 0 (gcells (wf w)) 0 true)) (hid : H[id]? = some (.row 0 (fcells 8 f) 0 true)) (hf : ∀ x, x < n → f x = idxW n w x) {R : PQ} :
    ∀ (k x : Nat), x + k = n →
    R (.exit 14) [(7, .ptr i7 0 0), (8, .ptr i8 0 0), (9, .int .i64 (n : Nat)), (16, gv), (21, .ptr id 0 0), (22, .int .i64 (m : Nat)), (252, .int .i64 (n : Nat)), (253, .int .i64 (n : Nat)), (254, .bool false)] H →
    Wp E base bar (.loop c11_l8) [(7, .ptr i7 0 0), (8, .ptr i8 0 0), (9, .int .i64 (n : Nat)), (16, gv), (21, .ptr id 0 0), (22, .int .i64 (m : Nat)), (252, .int .i64 (n : Nat)), (253, .int .i64 (x : Nat))] H R := by
  have hn8 := hp.le
  intro k
  induction k with
  | zero =>
    intro x hx h
    obtain rfl : x = n := by omega
    rw [wp_round c11_l8.eq_1]
    simp [go_sem]
    exact h
  | succ k ih =>
    intro x hx h
    have hlt : x < n := by omega
    rw [wp_round c11_l8.eq_1]
    simp [go_sem, hlt]
    refine l11h hp h8 hid hf hlt n 0 (by omega) ?_
    simp [go_sem, i64_suc (show x < 1000000 by omega)]
    exact ih (x + 1) (by omega) h
end
end Go.Proofs.Ythoogegclpiefaa.Code
end

section
namespace Go.Proofs.Ythoogegclpiefaa.Code
open Go Go.Ab

/-- the house's list: as it came, or still owned -/
def LV (l : List ZZ) (v : AV) (id : Nat) (H : Heap) : Prop := isP v l ∨ ∃ ver fz, v = .vec id ver 0 l.length 2 ∧ H[id]? = some (.row ver (prs l) fz false)
theorem LV.frz {l : List ZZ} {v : AV} {id : Nat} {H : Heap} (h : LV l v id H) : ∃ q' H', frz 7 0 H v = some (q', H') ∧ isP q' l ∧ LV l v id H' ∧ H'.length = H.length ∧ ∀ i, i ≠ id → H'[i]? = H[i]? := by
  rcases h with h | ⟨ver, fz, rfl, hid⟩
  · exact ⟨v, H, h.frz, h, .inl h, rfl, fun _ _ => rfl⟩
  · have e := frz_vec (d := 6) (bar := 0) (H := H) (id := id) (ver := ver) (off := 0) (len := l.length) (sz := 2) (cs := prs l) (fz := fz) (ex := false) (xs := prs l)
      (H' := H.set id (.row ver (prs l) (max fz (0 + l.length * 2)) false)) hid (by rw [prs_length]; omega) (Nat.zero_le _) (by
        rw [List.drop_zero, List.take_of_length_le (by rw [prs_length]; omega), plains prs_plain])
    rw [chunks_two] at e
    exact ⟨.lst 2 false (prA l), H.set id (.row ver (prs l) (max fz (0 + l.length * 2)) false), e, .lst (ex := false), .inr ⟨ver, max fz (0 + l.length * 2), rfl, set_get hid⟩, by simp, fun i hi => by rw [List.getElem?_set_ne (Ne.symm hi)]⟩
theorem LV.of_grow {l : List ZZ} {v : AV} {H0 H : Heap} (h : Grow 2 (prs l) H0 v H) (h0 : H0.length = 4) : ∃ id, LV l v id H ∧ id ≠ 2 ∧ id ≠ 3 ∧ id ≠ H.length := by
  rcases h with ⟨h1, rfl, rfl⟩ | ⟨ver, fz, h1, h2, rfl, rfl⟩
  · rw [prs_eq_nil] at h1; subst h1; exact ⟨5, .inl .nil, by omega, by omega, by omega⟩
  · exact ⟨H0.length, .inr ⟨ver, fz, by rw [prs_length, Nat.mul_div_cancel_left _ (by decide)], by simp⟩, by omega, by omega, by simp⟩
theorem LV.app {l : List ZZ} {v : AV} {id : Nat} {H X : Heap} (h : LV l v id H) : LV l v id (H ++ X) := by
  rcases h with h | ⟨ver, fz, rfl, hid⟩
  · exact .inl h
  · exact .inr ⟨ver, fz, rfl, old_get hid⟩
theorem LV.set {l : List ZZ} {v : AV} {id i : Nat} {H : Heap} {b : Blk} (h : LV l v id H) (hi : i ≠ id) : LV l v id (H.set i b) := by
  rcases h with h | ⟨ver, fz, rfl, hid⟩
  · exact .inl h
  · exact .inr ⟨ver, fz, rfl, by rw [List.getElem?_set_ne hi]; exact hid⟩

theorem frz_first {pure : Bool} {base bar : Nat} {fn : FuncId} {c : AFun} {args args' : List AV} {H H' : Heap} {Q : AV → Heap → Prop}
    (hc : ∀ {args : List AV} {H : Heap}, WpCall E pure base bar fn args H Q ↔ frzWp E pure base bar c Q (frzAll bar H args)) (h1 : frzAll bar H args = some (args', H')) (h2 : frzAll bar H' args' = some (args', H')) (h : WpCall E pure base bar fn args' H' Q) : WpCall E pure base bar fn args H Q := by
  rw [hc, h1]; rw [hc, h2] at h; exact h
theorem LV.house {l : List ZZ} {v : AV} {id : Nat} {H : Heap} {n : Int} (h : LV l v id H) : ∃ q' H', frzAll 0 H [.agg [.int .i64 n, v]] = some ([.agg [.int .i64 n, q']], H') ∧ frzAll 0 H' [.agg [.int .i64 n, q']] = some ([.agg [.int .i64 n, q']], H') ∧ isP q' l ∧ LV l v id H' ∧ H'.length = H.length ∧ ∀ i, i ≠ id → H'[i]? = H[i]? := by
  obtain ⟨q', H', h1, h2, h3, h4, h5⟩ := h.frz
  exact ⟨q', H', by simp [go_sem, h1], by simp [go_sem, h2.frz], h2, h3, h4, h5⟩

set_option maxRecDepth 4000 in
theorem law11 {p bits : Nat} {f : Nat → Nat} {parted : Bool} (hp : p < 256) (hbits : bits < 4294967296) :
    WpCall E false 0 0 11 [.agg [.int .u8 (p : Nat), .int .u32 (bits : Nat)], .agg (ucells 8 f), .bool parted] [] (fun v _ => v = .bool true) := by
  rw [call11]
  have hfz : frz 8 0 [] (.agg (ucells 8 f)) = some (.agg (ucells 8 f), []) := by
    rw [show (8 : Nat) = 5 + 3 from rfl, frz_agg, plains (d := 5) (fun c hc => by
      simp only [ucells, List.mem_map] at hc
      obtain ⟨a, _, rfl⟩ := hc
      exact Plain.int)]
  have e0 : ∀ b, aload [Blk.row 0 [AV.int .u8 (p : Nat), .int .u32 (bits : Nat)] 0 true, b] ⟨true, 2⟩ (.ptr 0 0 0) = some (.agg [.int .u8 (p : Nat), .int .u32 (bits : Nat)]) := fun b => rfl
  simp [go_sem, WpFun, c11, hfz, e0]
  refine k35 (most := 8) (n := 1 + p % 8) hp hbits (by omega) (by omega) (Nat.zero_le _) rfl fun q l w hq hm => ?_
  have hn1 : 1 ≤ 1 + p % 8 := by omega
  have hn8 : 1 + p % 8 ≤ 8 := by omega
  generalize 1 + p % 8 = n at *
  have d1 : ∀ b, aload [Blk.row 0 [AV.int .u8 (p : Nat), .int .u32 (bits : Nat)] 0 true, b, Blk.row 0 [.int .i64 (n : Nat), q] 0 true, Blk.row 0 (gcells (wf w)) 0 true] ⟨false, 1⟩ (.ptr 2 0 0) = some (.int .i64 (n : Nat)) := fun b => rfl
  simp [go_sem, storeWp, astore, setCells, hq.cells, hq.top, hq.isTup, gcells_length, gcells_over, d1]
  cases parted
  case' true =>
    refine l11e hn8 n 0 (by omega) [] (fun _ => 0) .nils _ .zero .nil fun l w q Hc ho' hl' g => ?_
    have ho : openS (n : Int) l = .room w := by unfold openS; rw [if_pos (by simp [within]; omega)]; exact ho'
    have hl : l.length < 1000 := by omega
    have g2 := g.get HP_h
    have g3 := g.get HP_f
    obtain ⟨id, hlv, hi2, hi3, hil⟩ := LV.of_grow g rfl
    clear ho' hl' g
    simp [go_sem]
  case' false =>
    have ho := hm.room
    have hl : l.length < 1000 := by have := hm.len; omega
    obtain ⟨Hc, hHc⟩ : ∃ Hc, Hc = [Blk.row 0 [AV.int .u8 (p : Nat), .int .u32 (bits : Nat)] 0 true, Blk.row 0 (ucells 8 f) 0 true, Blk.row 0 [.int .i64 (n : Nat), q] 0 true, Blk.row 0 (gcells (wf w)) 0 true] := ⟨_, rfl⟩
    have g2 : Hc[2]? = some (Blk.row 0 [.int .i64 (n : Nat), q] 0 true) := by rw [hHc]; rfl
    have g3 : Hc[3]? = some (Blk.row 0 (gcells (wf w)) 0 true) := by rw [hHc]; rfl
    obtain ⟨id, hlv, hi2, hi3, hil⟩ : ∃ id, LV l q id Hc ∧ id ≠ 2 ∧ id ≠ 3 ∧ id ≠ Hc.length := ⟨5, .inl hq, by omega, by omega, by rw [hHc]; simp⟩
    rw [← hHc]
    clear hHc hm hq
    simp [go_sem]
  all_goals
    have hr := openS_room (m := n) rfl ho
    have d2 : aload Hc ⟨true, 2⟩ (.ptr 2 0 0) = some (.agg [.int .i64 (n : Nat), q]) := by rw [aload_ptr g2]; rfl
    obtain ⟨q1, H1, e1, e1', hq1, hlv1, hl1, hs1⟩ := hlv.house (n := (n : Int))
    have g21 := (hs1 2 (Ne.symm hi2)).trans g2
    have g31 := (hs1 3 (Ne.symm hi3)).trans g3
    have d21 : aload H1 ⟨true, 2⟩ (.ptr 2 0 0) = some (.agg [.int .i64 (n : Nat), q]) := by rw [aload_ptr g21]; rfl
    obtain ⟨q2, H2, e2, e2', hq2, hlv2, hl2, hs2⟩ := hlv1.house (n := (n : Int))
    have g22 := (hs2 2 (Ne.symm hi2)).trans g21
    have g32 := (hs2 3 (Ne.symm hi3)).trans g31
    have hself : ∀ (m : Nat) (w' : Nat → Nat), (n : Int) = m → openS (n : Int) l = .room w' → ∀ x, x < 8 → (w' x).testBit x = false := fun m w' hm' he x _ => by
      rw [ho] at he; cases he; exact hr.irr x
    simp [go_sem, d2]
    refine frz_first call18 e1 e1' ?_
    cases hodd : oddS n w with
    | some t =>
      obtain ⟨a, b, c⟩ := t
      refine k18 hq1 hl (Nat.zero_le _) (fun e' he => by rw [ho] at he; cases he) (fun m' w' hm' _ _ _ he hno => ?_) (fun m' w' hm' _ _ _ he a' b' c' ho' => ?_)
      · rw [ho] at he; cases he
        obtain rfl : n = m' := by omega
        rw [hodd] at hno; cases hno
      · rw [ho] at he; cases he
        obtain rfl : n = m' := by omega
        rw [hodd] at ho'; cases ho'
        simp [go_sem, d21]
        refine frz_first call20 e2 e2' ?_
        refine k20 hq2 hl (Nat.zero_le _) hself (fun e' he => by rw [ho] at he; cases he) (fun m' w' hm' _ _ he t _ => ?_) (fun m' w' hm' _ _ he hno => ?_)
        · rw [ho] at he; cases he
          obtain rfl : n = m' := by omega
          simp [go_sem, loadGG g32]
          refine k40 hn8 ?_
          rw [part_odd hr hn8, hodd]
          simp [go_sem]
          refine l11a g32 hn8 hr n 0 (by omega) (fun t ht => ?_) ?_ ?_
          · rw [← List.range_eq_range', rowZ_odd hr ho hn8, hodd] at ht
            exact (Option.some.inj ht).symm
          · rw [← List.range_eq_range', rowZ_odd hr ho hn8, hodd]; rfl
          · simp [go_sem]
        · rw [ho] at he; cases he
          obtain rfl : n = m' := by omega
          rw [hodd] at hno; cases hno
    | none =>
      refine k18 hq1 hl (Nat.zero_le _) (fun e' he => by rw [ho] at he; cases he) (fun m' w' hm' _ _ _ he hno => ?_) (fun m' w' hm' _ _ _ he a' b' c' ho' => ?_)
      · rw [ho] at he; cases he
        obtain rfl : n = m' := by omega
        simp [go_sem, d21]
        refine frz_first call20 e2 e2' ?_
        refine k20 hq2 hl (Nat.zero_le _) hself (fun e' he => by rw [ho] at he; cases he) (fun m' w' hm' _ _ he t ht => ?_) (fun m' w' hm' _ _ he _ gv hgv => ?_)
        · rw [ho] at he; cases he
          obtain rfl : n = m' := by omega
          rw [hodd] at ht; cases ht
        · rw [ho] at he; cases he
          obtain rfl : n = m' := by omega
          simp [go_sem, loadGG g32]
          refine k40 hn8 ?_
          have hpg : partG (wf w) n = true := by rw [part_odd hr hn8, hodd]; rfl
          have hp := parted_w hr hn8 hpg
          rw [hpg]
          simp [go_sem]
          rw [agree_groups (m := n) rfl ho (by rw [← agree_odd (m := n) rfl ho]; exact hodd)] at hgv
          obtain ⟨_, _, _, ht, _, _⟩ := openS_facts (m := n) rfl ho
          rw [groups_heads hn8 ht] at hgv
          have z8 : [AV.int .i64 0, .int .i64 0, .int .i64 0, .int .i64 0, .int .i64 0, .int .i64 0, .int .i64 0, .int .i64 0] = fcells 8 (fun _ => 0) := rfl
          have s8 : ∀ f, (H2 ++ [Blk.row 0 (fcells 8 (fun _ => 0)) 0 true]).set H2.length (.row 0 (fcells 8 f) 0 true) = H2 ++ [Blk.row 0 (fcells 8 f) 0 true] := fun f => by rw [own_set0]; rfl
          have s80 := s8 (fun _ => 0)
          rw [z8, hgv.len]
          simp [go_sem]
          rw [← s80]
          refine l11g hp (cs := fcells 8 (fun _ => 0)) (by simp [own_get0]) (Nat.zero_le _) hgv (headsW n w).length 0 (fun _ => 0) (by omega) (fun x hx => by simp [doneL] at hx) fun f' hf' => ?_
          rw [s8]
          have hfi : ∀ x, x < n → f' x = idxW n w x := fun x hx => hf' x (by
            have hm := mem_grp.1 (lead_mem hr hx)
            exact List.mem_flatMap.2 ⟨_, lead_heads hp hx, by rw [← grp_same hp hx hm.1 hm.2]; exact grp_self hr hx⟩)
          simp [go_sem]
          refine l11i hp (old_get g32) (by simp [own_get0]) hfi n 0 (by omega) ?_
          obtain ⟨q3, H3, e3, e3', hq3, hlv3, hl3, hs3⟩ := (hlv2.app (X := [Blk.row 0 (fcells 8 f') 0 true])).house (n := (n : Int))
          have g23 := (hs3 2 (Ne.symm hi2)).trans (old_get g22)
          have d23 : aload H3 ⟨true, 2⟩ (.ptr 2 0 0) = some (.agg [.int .i64 (n : Nat), q]) := by rw [aload_ptr g23]; rfl
          have d22 : aload (H2 ++ [Blk.row 0 (fcells 8 f') 0 true]) ⟨true, 2⟩ (.ptr 2 0 0) = some (.agg [.int .i64 (n : Nat), q]) := by rw [aload_ptr (old_get g22)]; rfl
          obtain ⟨q4, H4, e4, e4', hq4, hlv4, hl4, hs4⟩ := hlv3.house (n := (n : Int))
          simp [go_sem, d22]
          refine frz_first call37 e3 e3' ?_
          refine k37 hq3 hl (Nat.zero_le _) (fun e' he => by rw [ho] at he; cases he) (fun m' w' hm' _ _ _ he lv hlv => ?_)
          rw [ho] at he; cases he
          obtain rfl : n = m' := by omega
          simp [go_sem, d23]
          refine frz_first call16 e4 e4' ?_
          refine k16 hq4 hl (Nat.zero_le _) (fun e' he => by rw [ho] at he; cases he) (fun m' w' hm' _ _ _ he rv hrv => ?_)
          rw [ho] at he; cases he
          obtain rfl : n = m' := by omega
          obtain ⟨k, hk⟩ := rooms_fewest hr hn1
          have hkg := parted_rooms hp hk
          have hbg := parted_brawl hp
          have hlen := hk.len
          have hmax := hk.max
          have hkn := hk.le
          have e5 : IntKind.i64.wrap (((maxL (roomsS n w (n - 1)) : Nat) : Int) + 1) = (((headsW n w).length : Nat) : Int) := by
            rw [i64_suc (show maxL (roomsS n w (n - 1)) < 1000000 by omega), hmax, hkg]
          simp [go_sem, hlv.len, hgv.len, hbg, hrv.len, hlen]
          refine k55 hrv (by omega) (by omega) ?_
          simp [go_sem, e5, call15, hgv.len]
      · rw [ho] at he; cases he
        obtain rfl : n = m' := by omega
        rw [hodd] at ho'; cases ho'
theorem parted_true {p bits : Nat} {f : Nat → Nat} {b2 : Bool} (hp : p < 256) (hbits : bits < 4294967296) (_hf : ∀ i, f i < 256) : ∃ g H', acall E g 11 [.agg [.int .u8 (p : Nat), .int .u32 (bits : Nat)], .agg (ucells 8 f), .bool b2] [] = some (.bool true, H') := by
  obtain ⟨g, v, H', h, rfl⟩ := law11 (f := f) (parted := b2) hp hbits
  exact ⟨g, H', h⟩
end Go.Proofs.Ythoogegclpiefaa.Code
end
