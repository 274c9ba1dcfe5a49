/-
  Parts of the proofs about this chapter, joined: contracts of functions and plain laws.
-/
import Derived.Test.YthoogegclpiefaaQ6
set_option linter.all false
section
namespace Go.Proofs.Ythoogegclpiefaa.Code
open Go Go.Ab

/-! a list of people as a set -/
def setOf : List Nat → Nat
  | [] => 0
  | x :: r => bor (setOf r) (pw x)
theorem setOf_lt : ∀ {l : List Nat}, (∀ x ∈ l, x < 8) → setOf l < 256
  | [], _ => by decide
  | x :: r, h => bor_lt (setOf_lt fun y hy => h y (List.mem_cons_of_mem _ hy)) (pw_lt (h x (List.mem_cons_self ..)))
theorem setOf_bit : ∀ {l : List Nat} {y : Nat}, (setOf l).testBit y = true ↔ y ∈ l
  | [], y => by simp [setOf]
  | x :: r, y => by
    rw [setOf, testBit_bor, Bool.or_eq_true, setOf_bit, testBit_pw, decide_eq_true_eq, List.mem_cons]
    constructor
    · rintro (h | h)
      · exact .inr h
      · exact .inl h.symm
    · rintro (h | h)
      · exact .inr h.symm
      · exact .inl h
theorem setOf_len : ∀ {l : List Nat}, l.Nodup → (∀ x ∈ l, x < 8) → (bitsOf (setOf l)).length = l.length
  | [], _, _ => by decide
  | x :: r, hn, h => by
    rw [List.nodup_cons] at hn
    have hb : (setOf r).testBit x = false := by
      cases hc : (setOf r).testBit x
      · rfl
      · exact absurd (setOf_bit.1 hc) hn.1
    rw [setOf, bits_put _ (setOf_lt fun y hy => h y (List.mem_cons_of_mem _ hy)) x (h x (List.mem_cons_self ..)) hb, setOf_len hn.2 fun y hy => h y (List.mem_cons_of_mem _ hy)]
    rfl
/-- any who all quarrel are at most as many as the largest brawl -/
theorem clique_le {n : Nat} {w : Nat → Nat} (h : RoomW n w) (hn : n ≤ 8) {C : List Nat} (hC : ∀ x ∈ C, x < n) (hnd : C.Nodup) (hp : C.Pairwise fun x y => (w x).testBit y = true) : C.length ≤ (largestS n w).length := by
  cases C with
  | nil => simp
  | cons c r =>
    have h8 : ∀ x ∈ c :: r, x < 8 := fun x hx => by have := hC x hx; omega
    rw [← setOf_len hnd h8]
    refine largest_max ?_ (lt_pw fun i hi => hC i (setOf_bit.1 hi)) ((brawl_iff h (setOf_lt h8)).2 fun x y hx hy hxy => ?_)
    · apply Decidable.byContradiction
      intro hc
      have := setOf_bit.2 (List.mem_cons_self (a := c) (l := r))
      rw [show setOf (c :: r) = 0 by omega] at this
      simp at this
    · exact pairwise_all (P := fun x y => (w x).testBit y = true) (fun x y hp => by rw [h.sym]; exact hp) hp x (setOf_bit.1 hx) y (setOf_bit.1 hy) hxy

/-! the sum of 1 / (n - d) -/
def nonG (f : Nat → Nat → Bool) (S : List Nat) (v : Nat) : Nat := (S.filter fun u => !f v u).length
def sumG (g : Nat → Nat) : List Nat → Nat
  | [] => 0
  | x :: r => g x + sumG g r
theorem sumG_split {g : Nat → Nat} {p : Nat → Bool} : ∀ {l : List Nat}, sumG g l = sumG g (l.filter fun u => !p u) + sumG g (l.filter p)
  | [] => rfl
  | x :: r => by
    rw [sumG, sumG_split (p := p) (l := r), List.filter_cons, List.filter_cons]
    cases p x <;> simp [sumG] <;> omega
theorem sumG_le {g : Nat → Nat} {c : Nat} : ∀ {l : List Nat}, (∀ x ∈ l, g x ≤ c) → sumG g l ≤ l.length * c
  | [], _ => by simp [sumG]
  | x :: r, h => by
    have h1 := sumG_le (l := r) fun y hy => h y (List.mem_cons_of_mem _ hy)
    have h2 := h x (List.mem_cons_self ..)
    rw [sumG, List.length_cons, Nat.succ_mul]; omega
theorem sumG_mono {g g' : Nat → Nat} : ∀ {l : List Nat}, (∀ x ∈ l, g x ≤ g' x) → sumG g l ≤ sumG g' l
  | [], _ => Nat.le_refl _
  | x :: r, h => by
    have h1 := sumG_mono (l := r) fun y hy => h y (List.mem_cons_of_mem _ hy)
    have h2 := h x (List.mem_cons_self ..)
    simp only [sumG]; omega
theorem exists_least {g : Nat → Nat} : ∀ {l : List Nat}, l ≠ [] → ∃ v ∈ l, ∀ u ∈ l, g v ≤ g u
  | [x], _ => ⟨x, List.mem_cons_self .., fun u hu => by simp at hu; subst hu; exact Nat.le_refl _⟩
  | x :: y :: r, _ => by
    obtain ⟨v, hv, hm⟩ := exists_least (g := g) (l := y :: r) (by simp)
    by_cases hx : g x ≤ g v
    · exact ⟨x, List.mem_cons_self .., fun u hu => by
        rcases List.mem_cons.1 hu with rfl | hu
        · exact Nat.le_refl _
        · exact Nat.le_trans hx (hm u hu)⟩
    · exact ⟨v, List.mem_cons_of_mem _ hv, fun u hu => by
        rcases List.mem_cons.1 hu with rfl | hu
        · omega
        · exact hm u hu⟩
theorem filter_filter_len {p q : Nat → Bool} {l : List Nat} : ((l.filter p).filter q).length ≤ (l.filter q).length := by
  have e : (l.filter p).filter q = (l.filter q).filter p := by
    rw [List.filter_filter, List.filter_filter]
    apply List.filter_congr
    intro x _
    exact Bool.and_comm ..
  rw [e]
  exact List.length_filter_le ..
theorem len_split {p : Nat → Bool} : ∀ {l : List Nat}, l.length = (l.filter p).length + (l.filter fun u => !p u).length
  | [] => rfl
  | x :: r => by
    have := len_split (p := p) (l := r)
    rw [List.filter_cons, List.filter_cons, List.length_cons]
    cases p x <;> simp <;> omega
theorem caro {f : Nat → Nat → Bool} (hirr : ∀ x, f x x = false) : ∀ (k : Nat) (S : List Nat), S.length ≤ k → S.Nodup → ∃ C : List Nat, (∀ x ∈ C, x ∈ S) ∧ C.Nodup ∧ (C.Pairwise fun x y => f x y = true) ∧ sumG (fun v => 840 / nonG f S v) S ≤ 840 * C.length
  | 0, S, h, _ => by
    obtain rfl : S = [] := List.length_eq_zero_iff.1 (by omega)
    exact ⟨[], by simp, .nil, .nil, by simp [sumG]⟩
  | k + 1, S, h, hnd => by
    by_cases hS : S = []
    · subst hS; exact ⟨[], by simp, .nil, .nil, by simp [sumG]⟩
    obtain ⟨v, hv, hm⟩ := exists_least (g := nonG f S) hS
    have hpos : 0 < nonG f S v := by
      unfold nonG
      exact List.length_pos_iff.2 (List.ne_nil_of_mem (List.mem_filter.2 ⟨hv, by simp [hirr]⟩))
    have hlen : (S.filter (f v)).length < S.length := by
      have := len_split (p := f v) (l := S)
      unfold nonG at hpos
      omega
    obtain ⟨C, c1, c2, c3, c4⟩ := caro hirr k (S.filter (f v)) (by omega) (hnd.filter _)
    refine ⟨v :: C, fun x hx => ?_, ?_, ?_, ?_⟩
    · rcases List.mem_cons.1 hx with rfl | hx
      · exact hv
      · exact (List.mem_filter.1 (c1 x hx)).1
    · rw [List.nodup_cons]
      refine ⟨fun hc => ?_, c2⟩
      have := (List.mem_filter.1 (c1 v hc)).2
      rw [hirr] at this; cases this
    · rw [List.pairwise_cons]
      exact ⟨fun y hy => (List.mem_filter.1 (c1 y hy)).2, c3⟩
    · rw [sumG_split (p := f v), List.length_cons]
      have h1 : sumG (fun v => 840 / nonG f S v) (S.filter fun u => !f v u) ≤ nonG f S v * (840 / nonG f S v) := by
        refine sumG_le fun x hx => ?_
        exact Nat.div_le_div_left (hm x (List.mem_filter.1 hx).1) hpos
      have h2 : nonG f S v * (840 / nonG f S v) ≤ 840 := Nat.mul_div_le ..
      have h3 : sumG (fun v => 840 / nonG f S v) (S.filter (f v)) ≤ sumG (fun u => 840 / nonG f (S.filter (f v)) u) (S.filter (f v)) := by
        refine sumG_mono fun u hu => Nat.div_le_div_left filter_filter_len ?_
        unfold nonG
        exact List.length_pos_iff.2 (List.ne_nil_of_mem (List.mem_filter.2 ⟨hu, by simp [hirr]⟩))
      omega
theorem caro_le {n : Nat} {w : Nat → Nat} (h : RoomW n w) (hn : n ≤ 8) : sumG (fun v => 840 / (n - degW w v)) (List.range n) ≤ 840 * (largestS n w).length := by
  obtain ⟨C, c1, c2, c3, c4⟩ := caro (f := wf w) (fun x => h.irr x) n (List.range n) (by simp) List.nodup_range
  have := clique_le h hn (fun x hx => List.mem_range.1 (c1 x hx)) c2 c3
  refine Nat.le_trans (Nat.le_trans (sumG_mono fun x hx => ?_) c4) (Nat.mul_le_mul_left _ this)
  have e : nonG (wf w) (List.range n) x = n - degW w x := by
    rw [← oft_deg h hn]
    unfold nonG oftG
    have := len_split (p := wf w x) (l := List.range n)
    rw [List.length_range] at this
    omega
  rw [e]
  exact Nat.le_refl _
end Go.Proofs.Ythoogegclpiefaa.Code
end

section
namespace Go.Proofs.Ythoogegclpiefaa.Code
open Go Go.Ab

/-! as many as there are places -/
theorem sub_len : ∀ {l m : List Nat}, l.Nodup → (∀ x ∈ l, x ∈ m) → l.length ≤ m.length
  | [], _, _, _ => by simp
  | x :: r, m, hn, h => by
    rw [List.nodup_cons] at hn
    have hx := h x (List.mem_cons_self ..)
    have h2 : ∀ y ∈ r, y ∈ m.erase x := fun y hy => by
      have hne : y ≠ x := fun hc => hn.1 (hc ▸ hy)
      exact (List.mem_erase_of_ne hne).2 (h y (List.mem_cons_of_mem _ hy))
    have := sub_len hn.2 h2
    rw [List.length_erase_of_mem hx] at this
    have := List.length_pos_of_mem hx
    rw [List.length_cons]; omega
theorem map_nodup {α β : Type} {f : α → β} {l : List α} (hn : l.Nodup) (h : ∀ x ∈ l, ∀ y ∈ l, f x = f y → x = y) : (l.map f).Nodup := by
  induction l with
  | nil => exact .nil
  | cons a r ih =>
    rw [List.nodup_cons] at hn
    rw [List.map_cons, List.nodup_cons]
    refine ⟨fun hc => ?_, ih hn.2 fun x hx y hy => h x (List.mem_cons_of_mem _ hx) y (List.mem_cons_of_mem _ hy)⟩
    obtain ⟨y, hy, he⟩ := List.mem_map.1 hc
    have := h y (List.mem_cons_of_mem _ hy) a (List.mem_cons_self ..) he
    exact hn.1 (this ▸ hy)

/-! the greatest of a list -/
def maxL (l : List Nat) : Nat := l.foldl max 0
theorem foldl_max : ∀ (l : List Nat) (a : Nat), a ≤ l.foldl max a ∧ (∀ x ∈ l, x ≤ l.foldl max a) ∧ (l.foldl max a = a ∨ l.foldl max a ∈ l)
  | [], a => ⟨Nat.le_refl _, by simp, .inl rfl⟩
  | x :: r, a => by
    obtain ⟨h1, h2, h3⟩ := foldl_max r (max a x)
    refine ⟨Nat.le_trans (Nat.le_max_left ..) h1, fun y hy => ?_, ?_⟩
    · rcases List.mem_cons.1 hy with rfl | hy
      · exact Nat.le_trans (Nat.le_max_right ..) h1
      · exact h2 y hy
    · rw [List.foldl_cons]
      rcases h3 with h3 | h3
      · rw [h3]
        rcases Nat.le_total a x with h | h
        · right; rw [Nat.max_eq_right h]; exact List.mem_cons_self ..
        · left; exact Nat.max_eq_left h
      · right; exact List.mem_cons_of_mem _ h3
theorem maxL_le {l : List Nat} {x : Nat} (h : x ∈ l) : x ≤ maxL l := (foldl_max l 0).2.1 x h
theorem maxL_mem {l : List Nat} (h : l ≠ []) : maxL l ∈ l := by
  rcases (foldl_max l 0).2.2 with h2 | h2
  · cases l with
    | nil => exact absurd rfl h
    | cons a r =>
      have := maxL_le (List.mem_cons_self (a := a) (l := r))
      have h3 : maxL (a :: r) = 0 := h2
      rw [h3] at this ⊢
      rw [show a = 0 by omega]; exact List.mem_cons_self ..
  · exact h2

/-! rooms -/
/-- people who quarrel have different rooms -/
def Proper (n : Nat) (w : Nat → Nat) (f : Nat → Nat) : Prop := ∀ x y, x < n → y < n → (w x).testBit y = true → f x ≠ f y
theorem fitW_iff {w : Nat → Nat} {b : List Nat} {r : Nat} : fitW w b r = true ↔ ∀ i, i < b.length → b[i]? = some r → (w b.length).testBit i = false := by
  unfold fitW
  simp only [List.all_eq_true, List.mem_range, Bool.or_eq_true, bne_iff_ne, ne_eq, Bool.not_eq_true']
  constructor
  · intro h i hi he
    rcases h i hi with h1 | h1
    · exact absurd he h1
    · exact h1
  · intro h i hi
    by_cases he : b[i]? = some r
    · exact .inr (h i hi he)
    · exact .inl he
theorem proper_fit {n : Nat} {w : Nat → Nat} {f : Nat → Nat} (h : Proper n w f) {i : Nat} (hi : i < n) : fitW w ((List.range i).map f) (f i) = true := by
  rw [fitW_iff]
  intro j hj he
  simp at hj
  have e : ((List.range i).map f)[j]? = some (f j) := by simp [hj]
  rw [e] at he
  simp only [List.length_map, List.length_range]
  cases hc : (w i).testBit j
  · rfl
  · exact absurd (Option.some.inj he).symm (h i j hi (by omega) hc)
/-- what is found is in order -/
theorem roomsF_sound {w : Nat → Nat} {m : Nat} : ∀ {k : Nat} {b c : List Nat}, roomsF (fitW w) m k b = some c →
    (∃ r, c = b ++ r ∧ r.length = k ∧ ∀ x ∈ r, x < m) ∧ ∀ i, b.length ≤ i → i < c.length → ∀ j, j < i → c[j]? = c[i]? → (w i).testBit j = false
  | 0, b, c, h => by
    simp [roomsF] at h
    subst h
    exact ⟨⟨[], by simp, rfl, by simp⟩, fun i h1 h2 => by omega⟩
  | k + 1, b, c, h => by
    simp only [roomsF] at h
    obtain ⟨l1, a, l2, h1, h2, h3⟩ := List.findSome?_eq_some_iff.1 h
    have ha : a < m := List.mem_range.1 (by rw [h1]; simp)
    split at h2
    · rename_i hf
      obtain ⟨⟨r, g1, g2, g3⟩, g4⟩ := roomsF_sound h2
      refine ⟨⟨a :: r, by rw [g1]; simp, by simp [g2], fun x hx => ?_⟩, fun i hi1 hi2 j hj he => ?_⟩
      · rcases List.mem_cons.1 hx with rfl | hx
        · exact ha
        · exact g3 x hx
      · by_cases hib : i = b.length
        · subst hib
          have e1 : c[b.length]? = some a := by rw [g1]; simp
          have e2 : c[j]? = b[j]? := by rw [g1, List.append_assoc, List.getElem?_append_left hj]
          rw [e1, e2] at he
          exact fitW_iff.1 hf j hj he
        · exact g4 i (by simp; omega) hi2 j hj he
    · cases h2
def cAt (c : List Nat) : Nat → Nat := fun x => (c[x]?).getD 0
theorem sound_proper {n m : Nat} {w : Nat → Nat} (hr : RoomW n w) {c : List Nat} (h : roomsF (fitW w) m n [] = some c) : c.length = n ∧ (∀ x ∈ c, x < m) ∧ Proper n w (cAt c) := by
  obtain ⟨⟨r, g1, g2, g3⟩, g4⟩ := roomsF_sound h
  rw [List.nil_append] at g1
  subst g1
  have key : ∀ x y, x < y → y < n → (w y).testBit x = true → cAt c x ≠ cAt c y := fun x y hxy hy hb hc => by
    have := g4 y (Nat.zero_le _) (by omega) x hxy (by
      unfold cAt at hc
      rw [List.getElem?_eq_getElem (by omega), List.getElem?_eq_getElem (by omega)] at hc ⊢
      simpa using hc)
    rw [this] at hb; cases hb
  refine ⟨g2, g3, fun x y hx hy hb => ?_⟩
  rcases Nat.lt_trichotomy x y with hxy | hxy | hxy
  · exact key x y hxy hy (by rw [hr.sym]; exact hb)
  · subst hxy; rw [hr.irr] at hb; cases hb
  · exact Ne.symm (key y x hxy hx hb)
/-- the fewest rooms -/
structure Fewest (n : Nat) (w : Nat → Nat) (c : List Nat) (k : Nat) : Prop where
  len : c.length = n
  lt : ∀ x ∈ c, x < k
  proper : Proper n w (cAt c)
  pos : 1 ≤ k
  le : k ≤ n
  least : ∀ (f : Nat → Nat) (m : Nat), Proper n w f → (∀ x, x < n → f x < m) → k ≤ m
  max : maxL c + 1 = k
theorem rooms_fewest {n : Nat} {w : Nat → Nat} (hr : RoomW n w) (h1 : 1 ≤ n) : ∃ k, Fewest n w (roomsS n w (n - 1)) k := by
  have key : ∀ (c : List Nat) (k : Nat), c.length = n → (∀ x ∈ c, x < k) → Proper n w (cAt c) → 1 ≤ k → k ≤ n → (∀ (f : Nat → Nat) (m : Nat), Proper n w f → (∀ x, x < n → f x < m) → k ≤ m) → Fewest n w c k := by
    intro c k hl hlt hp hk hkn hle
    refine ⟨hl, hlt, hp, hk, hkn, hle, ?_⟩
    have hne : c ≠ [] := fun hc => by rw [hc] at hl; simp at hl; omega
    have e1 := hlt _ (maxL_mem hne)
    have e2 := hle (cAt c) (maxL c + 1) hp fun x hx => by
      have : c[x]? = some c[x] := List.getElem?_eq_getElem (by omega)
      unfold cAt
      rw [this]
      exact Nat.lt_succ_of_le (maxL_le (List.getElem_mem _))
    omega
  have pos : ∀ (f : Nat → Nat) (m : Nat), (∀ x, x < n → f x < m) → 1 ≤ m := fun f m h => by have := h 0 (by omega); omega
  have none_of : ∀ m, roomsF (fitW w) m n [] = none → ∀ f : Nat → Nat, Proper n w f → ¬ ∀ x, x < n → f x < m := fun m hm f hp hf => by
    have := roomsF_some (fit := fitW w) (m := m) (n := n) f hf (fun i hi => proper_fit hp hi) n 0 (by omega)
    simp [hm] at this
  have e0 : n - (n - 1) = 1 := by omega
  unfold roomsS
  rw [e0]
  cases hf : (List.range' 1 (n - 1)).findSome? fun m => roomsF (fitW w) m n [] with
  | some c =>
    obtain ⟨l1, k, l2, g1, g2, g3⟩ := List.findSome?_eq_some_iff.1 hf
    have hk := List.mem_range'_1.1 (show k ∈ List.range' 1 (n - 1) by rw [g1]; simp)
    obtain ⟨s1, s2, s3⟩ := sound_proper hr g2
    refine ⟨k, key c k s1 s2 s3 (by omega) (by omega) fun f m hp hm => ?_⟩
    apply Decidable.byContradiction
    intro hc
    have hm1 := pos f m hm
    have hmem : m ∈ l1 := by
      have : m ∈ List.range' 1 (n - 1) := List.mem_range'_1.2 (by omega)
      rw [g1] at this
      rcases List.mem_append.1 this with h | h
      · exact h
      · exfalso
        have hs : (List.range' 1 (n - 1)).Pairwise (· < ·) := List.pairwise_lt_range' ..
        rw [g1, List.pairwise_append] at hs
        have hs2 := hs.2.1
        rw [List.pairwise_cons] at hs2
        rcases List.mem_cons.1 h with h | h
        · omega
        · have := hs2.1 m h; omega
    exact none_of m (g3 m hmem) f hp hm
  | none =>
    rw [List.findSome?_eq_none_iff] at hf
    refine ⟨n, key _ n (by simp) (by simp) (fun x y hx hy hb => ?_) h1 (Nat.le_refl _) fun f m hp hm => ?_⟩
    · unfold cAt
      simp only [Option.getD_none, List.getElem?_range hx, List.getElem?_range hy, Option.getD_some]
      intro hc; subst hc; rw [hr.irr] at hb; cases hb
    · apply Decidable.byContradiction
      intro hc
      have hm1 := pos f m hm
      exact none_of m (hf m (List.mem_range'_1.2 (by omega))) f hp hm
/-- any who all quarrel have rooms of their own -/
theorem clique_rooms {n k : Nat} {w : Nat → Nat} {f : Nat → Nat} (hp : Proper n w f) (hk : ∀ x, x < n → f x < k) {C : List Nat} (hC : ∀ x ∈ C, x < n) (hnd : C.Nodup) (hcl : ∀ x ∈ C, ∀ y ∈ C, x ≠ y → (w x).testBit y = true) : C.length ≤ k := by
  have h1 : (C.map f).Nodup := map_nodup hnd fun x hx y hy he => by
    apply Decidable.byContradiction
    intro hc
    exact hp x y (hC x hx) (hC y hy) (hcl x hx y hy hc) he
  have := sub_len (m := List.range k) h1 fun x hx => by
    obtain ⟨y, hy, rfl⟩ := List.mem_map.1 hx
    exact List.mem_range.2 (hk y (hC y hy))
  simpa using this
theorem largest_rooms {n k : Nat} {w : Nat → Nat} {f : Nat → Nat} (hr : RoomW n w) (hn : n ≤ 8) (hp : Proper n w f) (hk : ∀ x, x < n → f x < k) : (largestS n w).length ≤ k := by
  rcases largest_is (n := n) (w := w) with he | ⟨s, s1, s2, s3, he⟩
  · rw [he]; simp
  · rw [he]
    have hs : s < 256 := by have := pw_le hn; omega
    refine clique_rooms hp hk (fun x hx => bit_lt s2 (bits_mem.1 hx).2) ((bits_pairwise s).imp fun h => Nat.ne_of_lt h) fun x hx y hy hxy => ?_
    exact (brawl_iff hr hs).1 s3 x y (bits_mem.1 hx).2 (bits_mem.1 hy).2 hxy
end Go.Proofs.Ythoogegclpiefaa.Code
end

section
namespace Go.Proofs.Ythoogegclpiefaa.Code
open Go Go.Ab

/-! rooms found by trying: a room more only behind all others -/
def rgF (w : Nat → Nat) (t : Nat) : Nat → List Nat → Nat → Option (List Nat)
  | 0, b, u => if u ≤ t then some b else none
  | k + 1, b, u => (List.range (u + 1)).findSome? fun x => if fitW w b x = true then rgF w t k (b ++ [x]) (max u (x + 1)) else none
/-- those so far are in order -/
def PreW (w : Nat → Nat) (b : List Nat) : Prop := ∀ i, i < b.length → ∀ j, j < i → b[j]? = b[i]? → (w i).testBit j = false
theorem PreW.nil {w : Nat → Nat} : PreW w [] := fun i h => by simp at h
theorem PreW.push {w : Nat → Nat} {b : List Nat} {x : Nat} (h : PreW w b) (hf : fitW w b x = true) : PreW w (b ++ [x]) := fun i hi j hj he => by
  have hi : i < b.length + 1 := by simpa using hi
  by_cases hib : i = b.length
  · subst hib
    rw [List.getElem?_append_left hj, List.getElem?_append_right (Nat.le_refl _)] at he
    simp only [Nat.sub_self, List.getElem?_cons_zero] at he
    exact fitW_iff.1 hf j hj he
  · rw [List.getElem?_append_left (by omega), List.getElem?_append_left (by omega)] at he
    exact h i (by omega) j hj he
theorem pre_proper {n : Nat} {w : Nat → Nat} (hr : RoomW n w) {c : List Nat} (h : PreW w c) (hl : c.length = n) : Proper n w (cAt c) := by
  have key : ∀ x y, x < y → y < n → (w y).testBit x = true → cAt c x ≠ cAt c y := fun x y hxy hy hb hc => by
    have := h y (by omega) x hxy (by
      unfold cAt at hc
      rw [List.getElem?_eq_getElem (by omega), List.getElem?_eq_getElem (by omega)] at hc ⊢
      simpa using hc)
    rw [this] at hb; cases hb
  refine fun x y hx hy hb => ?_
  rcases Nat.lt_trichotomy x y with hxy | hxy | hxy
  · exact key x y hxy hy (by rw [hr.sym]; exact hb)
  · subst hxy; rw [hr.irr] at hb; cases hb
  · exact Ne.symm (key y x hxy hx hb)
theorem rgF_used {w : Nat → Nat} {t : Nat} : ∀ {k : Nat} {b c : List Nat} {u : Nat}, rgF w t k b u = some c → u ≤ t ∧ c.length = b.length + k
  | 0, b, c, u, h => by
    simp only [rgF] at h
    split at h
    · rename_i hu; simp only [Option.some.injEq] at h; subst h; exact ⟨hu, rfl⟩
    · cases h
  | k + 1, b, c, u, h => by
    simp only [rgF] at h
    obtain ⟨l1, a, l2, h1, h2, h3⟩ := List.findSome?_eq_some_iff.1 h
    split at h2
    · obtain ⟨g1, g2⟩ := rgF_used h2
      simp at g2
      exact ⟨by omega, by omega⟩
    · cases h2
theorem map_cAt {b r : List Nat} {g : Nat → Nat} (h : ∀ i, i < b.length → g i = cAt b i) : (List.range b.length).map g = b := by
  apply List.ext_getElem?
  intro i
  by_cases hi : i < b.length
  · rw [List.getElem?_map, List.getElem?_range hi, Option.map_some, h i hi]
    unfold cAt
    rw [List.getElem?_eq_getElem hi]; rfl
  · rw [List.getElem?_eq_none (by simp; omega), List.getElem?_eq_none (by omega)]
/-- two rooms that are not used yet serve alike -/
theorem swap_rooms {n t k x u : Nat} {w : Nat → Nat} {b : List Nat} (hr : RoomW n w) (hb : b.length + (k + 1) = n) (hp : PreW w b) (hlt : ∀ y ∈ b, y < u) (hux : u < x) (hx : x < t) (h : (roomsF (fitW w) t k (b ++ [x])).isSome = true) :
    (roomsF (fitW w) t k (b ++ [u])).isSome = true := by
  obtain ⟨c, hc⟩ := Option.isSome_iff_exists.1 h
  obtain ⟨⟨r, g1, g2, g3⟩, g4⟩ := roomsF_sound hc
  have hcl : c.length = n := by rw [g1]; simp; omega
  have hxb : ∀ i, i < b.length → cAt c i = cAt b i := fun i hi => by
    unfold cAt; rw [g1, List.append_assoc, List.getElem?_append_left hi]
  have hxx : cAt c b.length = x := by unfold cAt; rw [g1]; simp
  have hpre : PreW w c := fun i hi j hj he => by
    by_cases hib : i < b.length
    · refine hp i hib j hj ?_
      rw [g1, List.append_assoc, List.getElem?_append_left (by omega), List.getElem?_append_left hib] at he
      exact he
    · by_cases hie : i = b.length
      · subst hie
        exfalso
        rw [g1, List.append_assoc, List.getElem?_append_left hj, List.getElem?_append_right (Nat.le_refl _)] at he
        simp only [Nat.sub_self, List.singleton_append, List.getElem?_cons_zero] at he
        have := hlt x (List.mem_of_getElem? he)
        omega
      · exact g4 i (by simp; omega) hi j hj he
  have hprop := pre_proper hr hpre hcl
  let σ : Nat → Nat := fun z => if z = x then u else if z = u then x else z
  have hσ : ∀ y z, σ y = σ z → y = z := fun y z he => by
    simp only [σ] at he
    split at he <;> split at he <;> (try split at he) <;> (try split at he) <;> omega
  have hσb : ∀ i, i < b.length → σ (cAt c i) = cAt b i := fun i hi => by
    rw [hxb i hi]
    have : cAt b i < u := by
      unfold cAt
      rw [List.getElem?_eq_getElem hi]
      exact hlt _ (List.getElem_mem hi)
    simp only [σ]
    rw [if_neg (by omega), if_neg (by omega)]
  have hprop2 : Proper n w fun i => σ (cAt c i) := fun y z hy hz hb he => hprop y z hy hz hb (hσ _ _ he)
  have hm : ∀ i, i < n → σ (cAt c i) < t := fun i hi => by
    have hci : cAt c i < t := by
      by_cases hib : i < b.length
      · rw [hxb i hib]
        have : cAt b i < u := by
          unfold cAt
          rw [List.getElem?_eq_getElem hib]
          exact hlt _ (List.getElem_mem hib)
        omega
      · by_cases hie : i = b.length
        · subst hie; rw [hxx]; exact hx
        · have e : c[i]? = r[i - (b.length + 1)]? := by
            rw [g1, List.getElem?_append_right (by simp; omega)]; simp
          have hir : i - (b.length + 1) < r.length := by omega
          unfold cAt
          rw [e, List.getElem?_eq_getElem hir]
          exact g3 _ (List.getElem_mem hir)
    simp only [σ]
    split
    · omega
    · split
      · exact hx
      · exact hci
  have := roomsF_some (fit := fitW w) (m := t) (n := n) _ hm (fun i hi => proper_fit hprop2 hi) k (b.length + 1) (by omega)
  rw [List.range_succ, List.map_append, map_cAt (r := r) (fun i hi => hσb i hi)] at this
  have e : σ (cAt c b.length) = u := by rw [hxx]; simp [σ]
  simpa [e] using this
theorem rgF_rooms {n t : Nat} {w : Nat → Nat} (hr : RoomW n w) : ∀ (k : Nat) (b : List Nat) (u : Nat), b.length + k = n → PreW w b → (∀ y ∈ b, y < u) → u ≤ t → rgF w t k b u = roomsF (fitW w) t k b
  | 0, b, u, _, _, _, hu => by simp [rgF, roomsF, hu]
  | k + 1, b, u, hb, hp, hlt, hu => by
    have step : ∀ x, x ≤ u → x < t → (if fitW w b x = true then rgF w t k (b ++ [x]) (max u (x + 1)) else none) = if fitW w b x = true then roomsF (fitW w) t k (b ++ [x]) else none := fun x hx hxt => by
      split
      · rename_i hf
        refine rgF_rooms hr k (b ++ [x]) _ (by simp; omega) (hp.push hf) (fun y hy => ?_) (by omega)
        rcases List.mem_append.1 hy with hy | hy
        · have := hlt y hy; omega
        · simp only [List.mem_singleton] at hy; omega
      · rfl
    simp only [rgF, roomsF]
    by_cases hut : u = t
    · subst hut
      rw [List.range_succ, List.findSome?_append]
      have e1 : ([u].findSome? fun x => if fitW w b x = true then rgF w u k (b ++ [x]) (max u (x + 1)) else none) = none := by
        rw [List.findSome?_eq_none_iff]
        intro x hx
        simp only [List.mem_singleton] at hx
        subst hx
        split
        · cases hg : rgF w x k (b ++ [x]) (max x (x + 1)) with
          | none => rfl
          | some c => have := (rgF_used hg).1; omega
        · rfl
      rw [e1, Option.or_none]
      exact findSome_congr fun x hx => step x (by have := List.mem_range.1 hx; omega) (List.mem_range.1 hx)
    · have e : List.range t = List.range (u + 1) ++ List.range' (u + 1) (t - (u + 1)) := by
        have := List.range'_append_1 (s := 0) (m := u + 1) (n := t - (u + 1))
        rw [Nat.zero_add] at this
        rw [List.range_eq_range', List.range_eq_range', this, show u + 1 + (t - (u + 1)) = t by omega]
      rw [e, List.findSome?_append]
      have e1 : ((List.range (u + 1)).findSome? fun x => if fitW w b x = true then rgF w t k (b ++ [x]) (max u (x + 1)) else none) = (List.range (u + 1)).findSome? fun x => if fitW w b x = true then roomsF (fitW w) t k (b ++ [x]) else none :=
        findSome_congr fun x hx => by have := List.mem_range.1 hx; exact step x (by omega) (by omega)
      rw [e1]
      cases hA : (List.range (u + 1)).findSome? fun x => if fitW w b x = true then roomsF (fitW w) t k (b ++ [x]) else none with
      | some c => rfl
      | none =>
        rw [Option.none_or]
        symm
        rw [List.findSome?_eq_none_iff]
        intro x hx
        have hx := List.mem_range'_1.1 hx
        split
        · rw [List.findSome?_eq_none_iff] at hA
          have := hA u (List.mem_range.2 (by omega))
          have hfu : fitW w b u = true := fitW_iff.2 fun i hi he => by
            have := hlt u (List.mem_of_getElem? he); omega
          rw [if_pos hfu] at this
          cases hs : roomsF (fitW w) t k (b ++ [x]) with
          | none => rfl
          | some c =>
            have h2 := swap_rooms hr hb hp hlt (show u < x by omega) (show x < t by omega) (by rw [hs]; rfl)
            rw [this] at h2; cases h2
        · rfl
end Go.Proofs.Ythoogegclpiefaa.Code
end

section
namespace Go.Proofs.Ythoogegclpiefaa.Code
open Go Go.Ab

/-! what trying does to the best so far -/
def bnd (st : List Nat × Nat) : Nat := if st.1 = [] then st.2 + 1 else st.2
def RelF (F : Nat → Option (List Nat)) (st st' : List Nat × Nat) : Prop :=
  (∃ t c, t < bnd st ∧ F t = some c ∧ (∀ s, s < t → F s = none) ∧ st' = (c, t)) ∨ ((∀ t, t < bnd st → F t = none) ∧ st' = st)
theorem RelF.none {F : Nat → Option (List Nat)} {st : List Nat × Nat} (h : ∀ t, t < bnd st → F t = none) : RelF F st st := .inr ⟨h, rfl⟩
theorem RelF.app {F G : Nat → Option (List Nat)} {st st1 st2 : List Nat × Nat} (hne : ∀ t c, F t = some c → c ≠ []) (h : RelF F st st1) (k : RelF G st1 st2) : RelF (fun t => (F t).or (G t)) st st2 := by
  rcases h with ⟨t1, c1, h1, h2, h3, rfl⟩ | ⟨h1, rfl⟩
  · have hb : bnd (c1, t1) = t1 := by simp [bnd, hne _ _ h2]
    rcases k with ⟨t2, c2, k1, k2, k3, rfl⟩ | ⟨k1, rfl⟩
    · rw [hb] at k1
      exact .inl ⟨t2, c2, by omega, by simp [h3 t2 k1, k2], fun s hs => by simp [h3 s (by omega), k3 s hs], rfl⟩
    · rw [hb] at k1
      exact .inl ⟨t1, c1, h1, by simp [h2], fun s hs => by simp [h3 s hs, k1 s hs], rfl⟩
  · rcases k with ⟨t2, c2, k1, k2, k3, rfl⟩ | ⟨k1, rfl⟩
    · exact .inl ⟨t2, c2, k1, by simp [h1 t2 k1, k2], fun s hs => by simp [h1 s (by omega), k3 s hs], rfl⟩
    · exact .inr ⟨fun t ht => by simp [h1 t ht, k1 t ht], rfl⟩
theorem RelF.congr {F G : Nat → Option (List Nat)} {st st' : List Nat × Nat} (h : RelF F st st') (he : ∀ t, F t = G t) : RelF G st st' := by
  have : F = G := funext he
  rw [← this]; exact h
theorem RelF.few {F : Nat → Option (List Nat)} {st st' : List Nat × Nat} (h : RelF F st st') (hF : ∀ t c, F t = some c → c ≠ []) : st'.2 ≤ st.2 ∧ (st.1 ≠ [] → st'.1 ≠ []) := by
  rcases h with ⟨t, c, h1, h2, h3, rfl⟩ | ⟨h1, rfl⟩
  · refine ⟨?_, fun _ => hF _ _ h2⟩
    unfold bnd at h1
    split at h1
    · simp only; omega
    · simp only; omega
  · exact ⟨Nat.le_refl _, fun h => h⟩
theorem rgF_ne {w : Nat → Nat} {t k u : Nat} {b : List Nat} (h : 1 ≤ b.length + k) : ∀ c, rgF w t k b u = some c → c ≠ [] := fun c hc hn => by
  have := (rgF_used hc).2
  rw [hn] at this; simp at this; omega
theorem rel_over {w : Nat → Nat} {k u few : Nat} {b first : List Nat} (h : few < u) : RelF (fun t => rgF w t k b u) (first, few) (first, few) := by
  refine .none fun t ht => ?_
  cases hg : rgF w t k b u with
  | none => rfl
  | some c =>
    have := (rgF_used hg).1
    unfold bnd at ht
    split at ht <;> simp only at ht <;> omega
theorem rel_leaf_put {w : Nat → Nat} {u few : Nat} {b first : List Nat} (h : ¬ few < u) (h2 : first = [] ∨ u < few) : RelF (fun t => rgF w t 0 b u) (first, few) (b, u) := by
  refine .inl ⟨u, b, ?_, by simp [rgF], fun s hs => by simp [rgF]; omega, rfl⟩
  unfold bnd
  split
  · simp only; omega
  · rcases h2 with h2 | h2
    · contradiction
    · exact h2
theorem rel_leaf_skip {w : Nat → Nat} {u few : Nat} {b first : List Nat} (h1 : first ≠ []) (h2 : ¬ u < few) : RelF (fun t => rgF w t 0 b u) (first, few) (first, few) := by
  refine .none fun t ht => ?_
  unfold bnd at ht
  rw [if_neg h1] at ht
  simp only at ht
  simp [rgF]; omega
/-- the trees that are left -/
def restF (w : Nat → Nat) (k : Nat) (b : List Nat) (u x d t : Nat) : Option (List Nat) := (List.range' x d).findSome? fun x => if fitW w b x = true then rgF w t k (b ++ [x]) (max u (x + 1)) else none
theorem restF_all {w : Nat → Nat} {k u t : Nat} {b : List Nat} : restF w k b u 0 (u + 1) t = rgF w t (k + 1) b u := by
  simp only [rgF, restF, List.range_eq_range']
theorem restF_step {w : Nat → Nat} {k u x d t : Nat} {b : List Nat} : restF w k b u x (d + 1) t = (if fitW w b x = true then rgF w t k (b ++ [x]) (max u (x + 1)) else none).or (restF w k b u (x + 1) d t) := by
  unfold restF
  rw [List.range'_succ, List.findSome?_cons]
  cases (if fitW w b x = true then rgF w t k (b ++ [x]) (max u (x + 1)) else none) <;> rfl
theorem restF_end {w : Nat → Nat} {k u x t : Nat} {b : List Nat} : restF w k b u x 0 t = none := rfl

/-- all tried: the first of the fewest -/
theorem rel_final {n : Nat} {l : List ZZ} {w : Nat → Nat} (hr : RoomW n w) (ho : openS (n : Int) l = .room w) (hn : n ≤ 8) (h1 : 1 ≤ n) {k : Nat} (hk : Fewest n w (roomsS n w (n - 1)) k) {st : List Nat × Nat} (h : RelF (fun t => rgF w t n [] 0) ([], n) st) : st = (roomsS n w (n - 1), k) := by
  obtain ⟨_, _, _, ht, _, _⟩ := openS_facts (m := n) rfl ho
  have e : ∀ t, rgF w t n [] 0 = roomsF (fitW w) t n [] := fun t => rgF_rooms hr n [] 0 (by simp) .nil (by simp) (Nat.zero_le _)
  have hg : ∀ m, roomsF (fitW w) m n [] = roomsF (fitR l) m n [] := fun m => roomsF_congr (n := n) (fun b r hb => fit_agree ht (by omega)) n [] (by simp)
  have hsome : ∃ c, roomsF (fitW w) k n [] = some c := by
    have := roomsF_some (fit := fitW w) (m := k) (n := n) (cAt (roomsS n w (n - 1))) (fun i hi => by
      have hil : i < (roomsS n w (n - 1)).length := by rw [hk.len]; exact hi
      unfold cAt
      rw [List.getElem?_eq_getElem hil]
      exact hk.lt _ (List.getElem_mem hil)) (fun i hi => proper_fit hk.proper hi) n 0 (by omega)
    exact Option.isSome_iff_exists.1 (by simpa using this)
  obtain ⟨c, hc⟩ := hsome
  have hnone : ∀ t, t < k → roomsF (fitW w) t n [] = none := fun t ht => by
    cases hs : roomsF (fitW w) t n [] with
    | none => rfl
    | some d =>
      obtain ⟨s1, s2, s3⟩ := sound_proper hr hs
      have := hk.least (cAt d) t s3 fun x hx => by
        have hxl : x < d.length := by omega
        unfold cAt
        rw [List.getElem?_eq_getElem hxl]
        exact s2 _ (List.getElem_mem hxl)
      omega
  have hcs : roomsS n w (n - 1) = c := agree_rooms hn ht hk.pos hk.le (by rw [← hg]; exact hc) fun j hj1 hj2 => by rw [← hg]; exact hnone j hj2
  have hb : bnd ([], n) = n + 1 := rfl
  rcases h with ⟨t, d, g1, g2, g3, rfl⟩ | ⟨g1, _⟩
  · simp only [e] at g2 g3
    have htk : t = k := by
      rcases Nat.lt_trichotomy t k with h | h | h
      · rw [hnone t h] at g2; cases g2
      · exact h
      · have := g3 k h
        rw [hc] at this; cases this
    subst htk
    rw [hc] at g2
    cases g2
    rw [hcs]
  · have := g1 k (by rw [hb]; have := hk.le; omega)
    simp only [e] at this
    rw [hc] at this; cases this

/-- one room more than the most quarrels of one person do -/
theorem greedy {n D : Nat} {w : Nat → Nat} (hr : RoomW n w) (hn : n ≤ 8) (hD : ∀ x, x < n → degW w x ≤ D) : ∀ i, i ≤ n → ∃ b : List Nat, b.length = i ∧ PreW w b ∧ ∀ y ∈ b, y < D + 1
  | 0, _ => ⟨[], rfl, .nil, by simp⟩
  | i + 1, hi => by
    obtain ⟨b, b1, b2, b3⟩ := greedy hr hn hD i (by omega)
    have hex : ∃ x, x < D + 1 ∧ fitW w b x = true := by
      apply Decidable.byContradiction
      intro hc
      have hall : ∀ x, x < D + 1 → ∃ j, j < b.length ∧ b[j]? = some x ∧ (w b.length).testBit j = true := fun x hx => by
        have hnf : ¬ fitW w b x = true := fun h => hc ⟨x, hx, h⟩
        rw [fitW_iff] at hnf
        apply Decidable.byContradiction
        intro hno
        refine hnf fun j hj he => ?_
        cases hb : (w b.length).testBit j
        · rfl
        · exact absurd ⟨j, hj, he, hb⟩ hno
      have := sub_len (l := List.range (D + 1)) (m := ((List.range n).filter (wf w i)).map (cAt b)) List.nodup_range fun x hx => by
        obtain ⟨j, j1, j2, j3⟩ := hall x (List.mem_range.1 hx)
        rw [b1] at j3
        refine List.mem_map.2 ⟨j, List.mem_filter.2 ⟨List.mem_range.2 (by omega), j3⟩, ?_⟩
        unfold cAt; rw [j2]; rfl
      rw [List.length_range, List.length_map] at this
      have hd := hD i (by omega)
      rw [← oft_deg hr hn] at hd
      unfold oftG at hd
      omega
    obtain ⟨x, x1, x2⟩ := hex
    refine ⟨b ++ [x], by simp [b1], b2.push x2, fun y hy => ?_⟩
    rcases List.mem_append.1 hy with hy | hy
    · exact b3 y hy
    · simp only [List.mem_singleton] at hy; omega
theorem few_most {n D k : Nat} {w : Nat → Nat} {c : List Nat} (hr : RoomW n w) (hn : n ≤ 8) (hD : ∀ x, x < n → degW w x ≤ D) (hk : Fewest n w c k) : k ≤ D + 1 := by
  obtain ⟨b, b1, b2, b3⟩ := greedy hr hn hD n (Nat.le_refl _)
  refine hk.least (cAt b) (D + 1) (pre_proper hr b2 b1) fun x hx => ?_
  have hxl : x < b.length := by omega
  unfold cAt
  rw [List.getElem?_eq_getElem hxl]
  exact b3 _ (List.getElem_mem hxl)
end Go.Proofs.Ythoogegclpiefaa.Code
end

section
namespace Go.Proofs.Ythoogegclpiefaa.Code
open Go Go.Ab
variable {pure : Bool} {base bar : Nat} {H : Heap} {Q : AV → Heap → Prop} {K : AV → Heap → List Nat → Prop}

/-- a list that grows into a block of its own -/
def Clipped (v : AV) (b : List Nat) : Prop := (v = .nils ∧ b = []) ∨ v = .lst 1 true (nats b)
theorem k46 {v : AV} {b : List Nat} (hv : isL v b) (h : ∀ v', Clipped v' b → Q v' H) : WpCall E pure base bar 46 [v] H Q := by
  rw [call46]
  rcases hv with ⟨rfl, rfl⟩ | ⟨ex, rfl⟩
  · simp [go_sem, WpFun, c46, aop, Opd.evo, aslice, optBound, bound1, AV.asNat]
    exact h _ (.inl ⟨rfl, rfl⟩)
  · simp [go_sem, WpFun, c46, aop, Opd.evo, aslice, optBound, bound1, AV.asNat, nats_length]
    have e : (nats b).take b.length = nats b := List.take_of_length_le (by rw [nats_length]; exact Nat.le_refl _)
    rw [e, tops_nats]
    simp [go_sem]
    exact h _ (.inr rfl)
theorem app_clip {bytes x : Nat} {v : AV} {b : List Nat} {ex : Bool} (hv : Clipped v b) (hlen : (b.length + 1) * bytes ≤ 140737488355328)
    (h : K (.vec H.length 0 0 (b.length + 1) 1) (H ++ [.row 0 (nats (b ++ [x])) 0 false]) []) : appWp base bar 1 bytes (some v) (some (.lst 1 ex [.int .i64 (x : Int)])) H K := by
  have hfl : ∀ b : List Nat, (nats b).flatMap AV.cells = nats b := fun b => by
    induction b with
    | nil => rfl
    | cons x r ih => simp only [nats, List.map_cons, List.flatMap_cons, AV.cells] at ih ⊢; rw [ih]; rfl
  have e : asrc H 1 (.lst 1 ex [.int .i64 (x : Int)]) = some [.int .i64 (x : Int)] := by rw [asrc_lst]; rfl
  simp only [appWp, e, frzAll, frz.frzs, frzsW_cons, frz_int, frzsW_nil]
  rw [if_neg (by simp)]
  rcases hv with ⟨rfl, rfl⟩ | rfl
  · simp [aappend, AV.noVec.noVecs, AV.noVec] at hlen ⊢
    rw [if_pos hlen]
    simpa [nats] using h
  · simp [aappend, AV.noVec.noVecs, AV.noVec, nats_length, hfl]
    rw [if_pos hlen]
    simpa [nats_append, nats_one] using h

structure Cel8 (n : Nat) (w : Nat → Nat) (few : Nat) (fv : AV) (H : Heap) : Prop where
  field : H[2]? = some (.row 0 (gcells (wf w)) 0 true)
  num : H[3]? = some (.row 0 [.int .i64 (n : Nat)] 0 true)
  first : H[4]? = some (.row 0 [fv] 0 true)
  few : H[5]? = some (.row 0 [.int .i64 (few : Nat)] 0 true)
  put : H[6]? = some (.row 0 [.fn 45 [] [.ptr 5 0 0, .ptr 3 0 0, .ptr 4 0 0, .ptr 2 0 0, .ptr 6 0 0]] 0 true)
structure Near (H H' : Heap) : Prop where
  len : H'.length = H.length
  same : ∀ j, j ≠ 4 → j ≠ 5 → H'[j]? = H[j]?
theorem Near.refl {H : Heap} : Near H H := ⟨rfl, fun _ _ _ => rfl⟩
theorem Near.trans {H H' H'' : Heap} (h : Near H H') (k : Near H' H'') : Near H H'' := ⟨k.len.trans h.len, fun j h4 h5 => (k.same j h4 h5).trans (h.same j h4 h5)⟩
def isF (v : AV) (l : List Nat) : Prop := (l = [] ∧ v = .nils) ∨ ∃ ex, l ≠ [] ∧ v = .lst 1 ex (nats l)

section
variable {n x u : Nat} {w : Nat → Nat} {bv : AV} {b : List Nat}
def fitsG (w : Nat → Nat) (b : List Nat) (x y d : Nat) : Bool := (List.range' y d).all fun i => b[i]? != some x || !(w b.length).testBit i
theorem fitsG_all : fitsG w b x 0 b.length = fitW w b x := by unfold fitsG fitW; rw [List.range_eq_range']
theorem l45a (hr : RoomW n w) (hid : H[2]? = some (.row 0 (gcells (wf w)) 0 true)) (hb : isL bv b) (hbl : b.length < 8) {R : PQ} :
    ∀ (d y : Nat) (fits : Bool), y + d = b.length →
    R (.exit 2) [(0, bv), (1, .int .i64 (u : Nat)), (5, .ptr 2 0 0), (6, .ptr 6 0 0), (9, .int .i64 (x : Nat)), (10, .bool (fits && fitsG w b x y d)), (34, bv), (35, .int .i64 (b.length : Nat)), (36, .int .i64 (b.length : Nat)), (37, .bool false)] H →
    Wp E base bar (.loop c45_l0) [(0, bv), (1, .int .i64 (u : Nat)), (5, .ptr 2 0 0), (6, .ptr 6 0 0), (9, .int .i64 (x : Nat)), (10, .bool fits), (34, bv), (35, .int .i64 (b.length : Nat)), (36, .int .i64 (y : Nat))] H R := by
  intro d
  induction d with
  | zero =>
    intro y fits hy h
    obtain rfl : y = b.length := by omega
    rw [wp_round c45_l0.eq_1]
    simp [go_sem]
    simpa [fitsG] using h
  | succ d ih =>
    intro y fits hy h
    have hlt : y < b.length := by omega
    have hst : fitsG w b x y (d + 1) = ((b[y]? != some x || !(w b.length).testBit y) && fitsG w b x (y + 1) d) := by
      unfold fitsG; rw [List.range'_succ, List.all_cons]
    rw [hst, ← Bool.and_assoc] at h
    have next := ih (y + 1) _ (by omega) h
    have g1 := loadG (s := 1) hid (show y < 8 by omega) hbl
    have hs : wf w y b.length = (w b.length).testBit y := hr.sym ..
    rw [hs] at g1
    have hget : b[y]? = some b[y] := List.getElem?_eq_getElem hlt
    rw [hget] at next
    rw [wp_round c45_l0.eq_1]
    cases fits
    · simp [go_sem, hlt, hb.ix hlt, i64_suc (show y < 1000000 by omega)] at next ⊢
      exact next
    · by_cases hx : b[y] = x
      · cases hc : (w b.length).testBit y
        · rw [hc] at g1 next
          simp [go_sem, hlt, hb.ix hlt, hb.len, natEq, hx, show y < 8 by omega, hbl, g1, i64_suc (show y < 1000000 by omega)] at next ⊢
          exact next
        · rw [hc] at g1 next
          simp [go_sem, hlt, hb.ix hlt, hb.len, natEq, hx, show y < 8 by omega, hbl, g1, i64_suc (show y < 1000000 by omega)] at next ⊢
          exact next
      · have hne : (some b[y] != some x) = true := by simp [hx]
        rw [hne] at next
        simp [go_sem, hlt, hb.ix hlt, natEq, hx, i64_suc (show y < 1000000 by omega)] at next ⊢
        exact next
end
end Go.Proofs.Ythoogegclpiefaa.Code
end

section
namespace Go.Proofs.Ythoogegclpiefaa.Code
open Go Go.Ab
variable {H : Heap} {K : AV → Heap → List Nat → Prop}

def args8 (bv : AV) (u : Nat) : List AV := [bv, .int .i64 (u : Nat), .ptr 5 0 0, .ptr 3 0 0, .ptr 4 0 0, .ptr 2 0 0, .ptr 6 0 0]
def Put8 (n : Nat) (w : Nat → Nat) (k : Nat) : Prop := ∀ (b : List Nat) (bv : AV) (u few : Nat) (first : List Nat) (fv : AV) (H : Heap) (base : Nat) (Q : AV → Heap → Prop), isL bv b → b.length + k = n → u ≤ b.length → Cel8 n w few fv H → isF fv first → base ≤ H.length →
  (∀ st' fv' H', RelF (fun t => rgF w t k b u) (first, few) st' → isF fv' st'.1 → Cel8 n w st'.2 fv' H' → Near H H' → Q (.tup []) H') →
  WpCall E false base 0 45 (args8 bv u) H Q

section
variable {n u base : Nat} {w : Nat → Nat} {bv : AV} {b : List Nat}
theorem frz_first {pure : Bool} {base bar : Nat} {fn : FuncId} {c : AFun} {args args' : List AV} {H H' : Heap} {Q : AV → Heap → Prop}
    (hc : ∀ {args : List AV} {H : Heap}, WpCall E pure base bar fn args H Q ↔ frzWp E pure base bar c Q (frzAll bar H args)) (h1 : frzAll bar H args = some (args', H')) (h2 : frzAll bar H' args' = some (args', H')) (h : WpCall E pure base bar fn args' H' Q) : WpCall E pure base bar fn args H Q := by
  rw [hc, h1]; rw [hc, h2] at h; exact h
theorem Cel8.lt {few : Nat} {fv : AV} (h : Cel8 n w few fv H) : 6 < H.length := (List.getElem?_eq_some_iff.1 h.put).1
theorem near_take {H' : Heap} (hl : H'.length = H.length + 1) (hs : ∀ j, j ≠ 4 → j ≠ 5 → j < H.length → H'[j]? = H[j]?) : Near H (H'.take H.length) :=
  ⟨by simp [hl], fun j h4 h5 => by
    rw [List.getElem?_take]
    split
    · rename_i hj; exact hs j h4 h5 hj
    · rename_i hj; rw [List.getElem?_eq_none (by omega)]⟩
theorem l45 {k : Nat} (hr : RoomW n w) (hn : n ≤ 8) (hb : isL bv b) (hbl : b.length + (k + 1) = n) (hu : u ≤ b.length) (hrec : Put8 n w k) {R : PQ} :
    ∀ (d x few : Nat) (first : List Nat) (fv : AV) (H : Heap), x + d = u + 1 → Cel8 n w few fv H → isF fv first → base ≤ H.length →
    (∀ st' fv' H', RelF (fun t => restF w k b u x d t) (first, few) st' → isF fv' st'.1 → Cel8 n w st'.2 fv' H' → Near H H' → R (.exit 0) [(0, bv), (1, .int .i64 (u : Nat)), (5, .ptr 2 0 0), (6, .ptr 6 0 0), (9, .int .i64 ((u + 1 : Nat) : Int)), (31, .bool false)] H') →
    Wp E base 0 (.loop c45_l1) [(0, bv), (1, .int .i64 (u : Nat)), (5, .ptr 2 0 0), (6, .ptr 6 0 0), (9, .int .i64 (x : Nat))] H R := by
  intro d
  induction d with
  | zero =>
    intro x few first fv H hx hc hf hbs h
    obtain rfl : x = u + 1 := by omega
    have := h (first, few) fv H (.none fun t _ => rfl) hf hc .refl
    rw [wp_round c45_l1.eq_1]
    simp [go_sem, show ¬ ((u : Int) + 1 ≤ (u : Int)) by omega] at this ⊢
    exact this
  | succ d ih =>
    intro x few first fv H hx hc hf hbs h
    have hlt : x ≤ u := by omega
    have h6 := hc.lt
    rw [wp_round c45_l1.eq_1]
    simp [go_sem, hlt, hb.len]
    refine l45a hr hc.field hb (by omega) b.length 0 true (by omega) ?_
    rw [fitsG_all, Bool.true_and]
    cases hfit : fitW w b x
    · have hst : ∀ t, restF w k b u x (d + 1) t = restF w k b u (x + 1) d t := fun t => by rw [restF_step, hfit]; simp
      have next := ih (x + 1) few first fv H (by omega) hc hf hbs fun st' fv' H' hrel => h st' fv' H' (hrel.congr fun t => (hst t).symm)
      simp [go_sem, hb.top, i64_suc (show x < 1000000 by omega)]
      exact ⟨by omega, next⟩
    · have hmax : max u (x + 1) ≤ b.length + 1 := by omega
      have hput : aload H ⟨false, 1⟩ (.ptr 6 0 0) = some (.fn 45 [] [.ptr 5 0 0, .ptr 3 0 0, .ptr 4 0 0, .ptr 2 0 0, .ptr 6 0 0]) := by rw [aload_ptr hc.put]; rfl
      simp [go_sem, hput]
      refine k46 hb fun v' hv' => ?_
      simp [go_sem, aop, fillA, setCells, chunks]
      refine app_clip hv' (by omega) ?_
      have hmx : (if (u : Int) < IntKind.i64.wrap ((x : Int) + 1) then IntKind.i64.wrap ((x : Int) + 1) else (u : Int)) = ((max u (x + 1) : Nat) : Int) := by
        rw [i64_suc (show x < 1000000 by omega)]
        split <;> omega
      have o1 : Own H.length 1 (nats (b ++ [x])) (.vec H.length 0 0 (b.length + 1) 1) (H ++ [.row 0 (nats (b ++ [x])) 0 false]) :=
        .inr ⟨H.length, 0, 0, by simp [nats], by omega, by simp, by simp [nats_length], by simp⟩
      obtain ⟨H3, f1, f2, f3, f4⟩ := o1.frz (d := 5) (bar := 0) (by decide) (Nat.one_dvd _) nats_plain (Nat.zero_le _)
      rw [show 5 + 3 = 8 from rfl] at f1
      have hs3 : ∀ j, j < H.length → H3[j]? = H[j]? := fun j hj => by
        rw [f4 j (by intro hc; cases hc; omega), List.getElem?_append_left hj]
      have hc3 : Cel8 n w few fv H3 := ⟨(hs3 2 (by omega)).trans hc.field, (hs3 3 (by omega)).trans hc.num, (hs3 4 (by omega)).trans hc.first, (hs3 5 (by omega)).trans hc.few, (hs3 6 (by omega)).trans hc.put⟩
      have hl3 : H3.length = H.length + 1 := by rw [f3]; simp
      have hv2 : isL (outL 1 (nats (b ++ [x]))) (b ++ [x]) := isL.out
      simp [go_sem, aop, hmx, hb.noVec]
      refine frz_first call45 (args' := args8 (outL 1 (nats (b ++ [x]))) (max u (x + 1))) (H' := H3) (by simp [go_sem, f1, args8]) (by simp [go_sem, hv2.frz, args8]) ?_
      refine hrec (b ++ [x]) _ (max u (x + 1)) few first fv H3 _ _ hv2 (by simp; omega) (by simp; omega) hc3 hf (by omega) fun st1 fv1 H4 hrel hf1 hc1 hnear => ?_
      have hne : ∀ t c, (fun t => rgF w t k (b ++ [x]) (max u (x + 1))) t = some c → c ≠ [] := fun t c hc => rgF_ne (by simp; omega) c hc
      have hl4 : H4.length = H.length + 1 := by rw [hnear.len, hl3]
      have hnear2 := near_take (H := H) (H' := H4) hl4 fun j j4 j5 hj => (hnear.same j j4 j5).trans (hs3 j hj)
      have ht : ∀ j, j ≤ 6 → (H4.take H.length)[j]? = H4[j]? := fun j hj => by rw [List.getElem?_take, if_pos (by omega)]
      have hc5 : Cel8 n w st1.2 fv1 (H4.take H.length) := ⟨(ht 2 (by omega)).trans hc1.field, (ht 3 (by omega)).trans hc1.num, (ht 4 (by omega)).trans hc1.first, (ht 5 (by omega)).trans hc1.few, (ht 6 (by omega)).trans hc1.put⟩
      have next := ih (x + 1) st1.2 st1.1 fv1 (H4.take H.length) (by omega) hc5 hf1 (by rw [hnear2.len]; exact hbs) fun st' fv' H' hrel2 hf2 hc2 hn2 => h st' fv' H' ((RelF.app hne hrel hrel2).congr fun t => by rw [restF_step, if_pos hfit]) hf2 hc2 (hnear2.trans hn2)
      simp [go_sem, hb.top, i64_suc (show x < 1000000 by omega)]
      exact ⟨by omega, next⟩

theorem Cel8.store {few : Nat} {fv fv' : AV} {few' : Nat} (h : Cel8 n w few fv H) : Cel8 n w few' fv' ((H.set 4 (.row 0 [fv'] 0 true)).set 5 (.row 0 [.int .i64 (few' : Nat)] 0 true)) := by
  have := h.lt
  exact ⟨by rw [List.getElem?_set_ne (by omega), List.getElem?_set_ne (by omega)]; exact h.field, by rw [List.getElem?_set_ne (by omega), List.getElem?_set_ne (by omega)]; exact h.num,
    by rw [List.getElem?_set_ne (by omega)]; exact set_get h.first, set_get (by rw [List.getElem?_set_ne (by omega)]; exact h.few), by rw [List.getElem?_set_ne (by omega), List.getElem?_set_ne (by omega)]; exact h.put⟩
theorem near_put {a b : Blk} : Near H ((H.set 4 a).set 5 b) := ⟨by simp, fun j h4 h5 => by rw [List.getElem?_set_ne (by omega), List.getElem?_set_ne (by omega)]⟩
theorem f45 (hr : RoomW n w) (hn : n ≤ 8) (h1 : 1 ≤ n) : ∀ k, Put8 n w k
  | 0 => by
    intro b bv u few first fv H base Q hb hbl hu hc hf hbs h
    unfold args8
    rw [call45]
    have lf : aload H ⟨false, 1⟩ (.ptr 5 0 0) = some (.int .i64 (few : Nat)) := by rw [aload_ptr hc.few]; rfl
    have ln : aload H ⟨false, 1⟩ (.ptr 3 0 0) = some (.int .i64 (n : Nat)) := by rw [aload_ptr hc.num]; rfl
    have l4 : aload H ⟨false, 1⟩ (.ptr 4 0 0) = some fv := by rw [aload_ptr hc.first]; rfl
    have hbn : b.length = n := by omega
    by_cases hfu : few < u
    · have := h (first, few) fv H (rel_over hfu) hf hc .refl
      simp [go_sem, WpFun, c45, hb.frz, lf, hfu]
      exact this
    · by_cases h2 : first = [] ∨ u < few
      · have h3 : (first = [] ∧ fv = .nils) ∨ ¬ first = [] ∧ (∃ ex, fv = .lst 1 ex (nats first)) ∧ u < few := by
          rcases hf with hf | ⟨ex, hne, rfl⟩
          · exact .inl hf
          · rcases h2 with h2 | h2
            · exact absurd h2 hne
            · exact .inr ⟨hne, ⟨ex, rfl⟩, h2⟩
        have hbne : b ≠ [] := fun hc => by rw [hc] at hbn; simp at hbn; omega
        have hbf : ∃ ex, bv = .lst 1 ex (nats b) := by
          rcases hb with ⟨_, h⟩ | h
          · exact absurd h hbne
          · exact h
        obtain ⟨ex, rfl⟩ := hbf
        have := h (b, u) _ _ (rel_leaf_put hfu h2) (.inr ⟨ex, hbne, rfl⟩) hc.store near_put
        have g5 : (H.set 4 (.row 0 [.lst 1 ex (nats b)] 0 true))[5]? = some (.row 0 [.int .i64 (few : Nat)] 0 true) := by rw [List.getElem?_set_ne (by omega)]; exact hc.few
        rcases h3 with ⟨rfl, rfl⟩ | ⟨hne, ⟨ex', rfl⟩, h3⟩
        · simp [go_sem, WpFun, c45, lf, ln, hfu, nats_length, hbn, l4, eqNil_nil]
          rw [storeWp_ptr (size := 1) hc.first rfl rfl (by omega) (by simp) (by omega) (.inr (by simp [AV.cells, tops_cons, tops_nil, top_lst, tops_nats]))]
          simp [go_sem]
          rw [storeWp_ptr (size := 1) g5 rfl rfl (by omega) (by simp) (by omega) (.inr (by simp [AV.cells, tops_cons, tops_nil, top_int]))]
          simp [go_sem]
          exact this
        · simp [go_sem, WpFun, c45, lf, ln, hfu, nats_length, hbn, l4, eqNil_lst, h3]
          rw [storeWp_ptr (size := 1) hc.first rfl rfl (by omega) (by simp) (by omega) (.inr (by simp [AV.cells, tops_cons, tops_nil, top_lst, tops_nats]))]
          simp [go_sem]
          rw [storeWp_ptr (size := 1) g5 rfl rfl (by omega) (by simp) (by omega) (.inr (by simp [AV.cells, tops_cons, tops_nil, top_int]))]
          simp [go_sem]
          exact this
      · have h3 : first ≠ [] ∧ ¬ u < few := ⟨fun h => h2 (.inl h), fun h => h2 (.inr h)⟩
        have := h (first, few) fv H (by have e : b.length + 0 = n := hbl; exact rel_leaf_skip h3.1 h3.2) hf hc .refl
        rcases hf with ⟨hf, _⟩ | ⟨ex', hne, rfl⟩
        · exact absurd hf h3.1
        · simp [go_sem, WpFun, c45, hb.frz, hb.len, lf, ln, hfu, hbn, l4, eqNil_lst, h3.2]
          exact this
  | k + 1 => by
    intro b bv u few first fv H base Q hb hbl hu hc hf hbs h
    unfold args8
    rw [call45]
    have lf : aload H ⟨false, 1⟩ (.ptr 5 0 0) = some (.int .i64 (few : Nat)) := by rw [aload_ptr hc.few]; rfl
    have ln : aload H ⟨false, 1⟩ (.ptr 3 0 0) = some (.int .i64 (n : Nat)) := by rw [aload_ptr hc.num]; rfl
    by_cases hfu : few < u
    · have := h (first, few) fv H (rel_over hfu) hf hc .refl
      simp [go_sem, WpFun, c45, hb.frz, lf, hfu]
      exact this
    · simp [go_sem, WpFun, c45, hb.frz, hb.len, lf, ln, hfu, natEq, show ¬ b.length = n by omega]
      refine l45 hr hn hb hbl hu (f45 hr hn h1 k) (u + 1) 0 few first fv H (by omega) hc hf hbs fun st' fv' H' hrel hf' hc' hn' => ?_
      have := h st' fv' H' (hrel.congr fun t => restF_all) hf' hc' hn'
      simp [go_sem]
      exact this
end
end Go.Proofs.Ythoogegclpiefaa.Code
end

section
namespace Go.Proofs.Ythoogegclpiefaa.Code
open Go Go.Ab
variable {base bar : Nat} {H : Heap}

def maxD (w : Nat → Nat) (x : Nat) : Nat := maxL ((List.range x).map (degW w))
theorem maxD_succ {w : Nat → Nat} {x : Nat} : maxD w (x + 1) = max (maxD w x) (degW w x) := by
  unfold maxD maxL
  rw [List.range_succ, List.map_append, List.foldl_append]; rfl
theorem maxD_le {w : Nat → Nat} {n x : Nat} (h : x < n) : degW w x ≤ maxD w n := maxL_le (List.mem_map.2 ⟨x, List.mem_range.2 h, rfl⟩)
theorem maxD_small {w : Nat → Nat} : ∀ {x : Nat}, maxD w x ≤ 8
  | 0 => Nat.zero_le _
  | x + 1 => by rw [maxD_succ]; have := maxD_small (w := w) (x := x); have : degW w x ≤ 8 := bits_len _; omega
theorem l8 {n : Nat} {w : Nat → Nat} {rv : AV} (hr : RoomW n w) (hid : H[2]? = some (.row 0 (gcells (wf w)) 0 true)) (hnum : H[3]? = some (.row 0 [.int .i64 (n : Nat)] 0 true)) (hn : n ≤ 8) {R : PQ} : ∀ (k x : Nat), x + k = n →
    R (.exit 0) [(4, .ptr 2 0 0), (5, .ptr 3 0 0), (6, .ptr 4 0 0), (7, .ptr 5 0 0), (9, rv), (10, .int .i64 0), (11, .int .i64 (maxD w n : Nat)), (29, .int .i64 (n : Nat)), (30, .int .i64 (n : Nat)), (31, .bool false)] H →
    Wp E base bar (.loop c8_l0) [(4, .ptr 2 0 0), (5, .ptr 3 0 0), (6, .ptr 4 0 0), (7, .ptr 5 0 0), (9, rv), (10, .int .i64 0), (11, .int .i64 (maxD w x : Nat)), (29, .int .i64 (n : Nat)), (30, .int .i64 (x : Nat))] H R := by
  intro k
  induction k with
  | zero =>
    intro x hx h
    obtain rfl : x = n := by omega
    rw [wp_round c8_l0.eq_1]
    simp [go_sem]
    exact h
  | succ k ih =>
    intro x hx h
    have hlt : x < n := by omega
    have ln : aload H ⟨false, 1⟩ (.ptr 3 0 0) = some (.int .i64 (n : Nat)) := by rw [aload_ptr hnum]; rfl
    have next := ih (x + 1) (by omega) h
    rw [maxD_succ] at next
    have e : (if maxD w x < degW w x then ((degW w x : Nat) : Int) else ((maxD w x : Nat) : Int)) = ((max (maxD w x) (degW w x) : Nat) : Int) := by
      split <;> omega
    rw [wp_round c8_l0.eq_1]
    simp [go_sem, hlt, loadGG hid, ln]
    refine k39 hn (by omega) ?_
    rw [oft_deg hr hn]
    simp [go_sem, aop, e, i64_suc (show x < 1000000 by omega)]
    exact next

set_option maxRecDepth 4000 in
theorem law8 {p bits : Nat} (hp : p < 256) (hbits : bits < 4294967296) :
    WpCall E false 0 0 8 [.agg [.int .u8 (p : Nat), .int .u32 (bits : Nat)]] [] (fun v _ => v = .bool true) := by
  rw [call8]
  have e0 : aload [Blk.row 0 [AV.int .u8 (p : Nat), .int .u32 (bits : Nat)] 0 true] ⟨true, 2⟩ (.ptr 0 0 0) = some (.agg [.int .u8 (p : Nat), .int .u32 (bits : Nat)]) := rfl
  simp [go_sem, WpFun, c8, e0]
  refine k35 (most := 6) (n := 1 + p % 6) hp hbits (by omega) (by omega) (Nat.zero_le _) rfl fun q l w hq hm => ?_
  have hn1 : 1 ≤ 1 + p % 6 := by omega
  have hn8 : 1 + p % 6 ≤ 8 := by omega
  generalize 1 + p % 6 = n at *
  have hr := openS_room (m := n) rfl hm.room
  have hl : l.length < 1000 := by have := hm.len; omega
  have ho := hm.room
  have d1 : aload [Blk.row 0 [AV.int .u8 (p : Nat), .int .u32 (bits : Nat)] 0 true, Blk.row 0 [.int .i64 (n : Nat), q] 0 true, Blk.row 0 (gcells (wf w)) 0 true] ⟨false, 1⟩ (.ptr 1 0 0) = some (.int .i64 (n : Nat)) := rfl
  have d2 : aload [Blk.row 0 [AV.int .u8 (p : Nat), .int .u32 (bits : Nat)] 0 true, Blk.row 0 [.int .i64 (n : Nat), q] 0 true, Blk.row 0 (gcells (wf w)) 0 true, .row 0 [.int .i64 (n : Nat)] 0 true, .row 0 [.nils] 0 true] ⟨false, 1⟩ (.ptr 3 0 0) = some (.int .i64 (n : Nat)) := rfl
  simp [go_sem, storeWp, astore, setCells, hq.cells, hq.top, hq.isTup, gcells_length, gcells_over, d1, d2]
  obtain ⟨H0, hH0⟩ : ∃ H0, H0 = [Blk.row 0 [AV.int .u8 (p : Nat), .int .u32 (bits : Nat)] 0 true, Blk.row 0 [.int .i64 (n : Nat), q] 0 true, Blk.row 0 (gcells (wf w)) 0 true, .row 0 [.int .i64 (n : Nat)] 0 true, .row 0 [.nils] 0 true, .row 0 [.int .i64 (n : Nat)] 0 true,
    .row 0 [.fn 45 [] [.ptr 5 0 0, .ptr 3 0 0, .ptr 4 0 0, .ptr 2 0 0, .ptr 6 0 0]] 0 true] := ⟨_, rfl⟩
  have hc : Cel8 n w n .nils H0 := by subst hH0; exact ⟨rfl, rfl, rfl, rfl, rfl⟩
  have g1 : H0[1]? = some (Blk.row 0 [.int .i64 (n : Nat), q] 0 true) := by subst hH0; rfl
  rw [← hH0]
  clear hH0 e0 d1 d2
  have d6 : aload H0 ⟨false, 1⟩ (.ptr 6 0 0) = some (.fn 45 [] [.ptr 5 0 0, .ptr 3 0 0, .ptr 4 0 0, .ptr 2 0 0, .ptr 6 0 0]) := by rw [aload_ptr hc.put]; rfl
  simp [go_sem, d6]
  refine f45 hr hn8 hn1 n [] .nils 0 n [] .nils H0 0 _ .nil (by simp) (Nat.zero_le _) hc (.inl ⟨rfl, rfl⟩) (Nat.zero_le _) fun st' fv' H' hrel hf' hc' hnear => ?_
  obtain ⟨k, hk⟩ := rooms_fewest hr hn1
  have hst := rel_final hr ho hn8 hn1 hk hrel
  subst hst
  have hcl := hk.len
  have hfv : isL fv' (roomsS n w (n - 1)) := by
    rcases hf' with ⟨h, rfl⟩ | ⟨ex, _, rfl⟩
    · simp only at h; rw [h]; exact .nil
    · exact .lst
  have g1' := (hnear.same 1 (by omega) (by omega)).trans g1
  have d1' : aload H' ⟨true, 2⟩ (.ptr 1 0 0) = some (.agg [.int .i64 (n : Nat), q]) := by rw [aload_ptr g1']; rfl
  have d3' : aload H' ⟨false, 1⟩ (.ptr 3 0 0) = some (.int .i64 (n : Nat)) := by rw [aload_ptr hc'.num]; rfl
  have d4' : aload H' ⟨false, 1⟩ (.ptr 4 0 0) = some fv' := by rw [aload_ptr hc'.first]; rfl
  have d5' : aload H' ⟨false, 1⟩ (.ptr 5 0 0) = some (.int .i64 (k : Nat)) := by rw [aload_ptr hc'.few]; rfl
  simp [go_sem, d1']
  refine k16 hq hl (Nat.zero_le _) (fun e' he => by rw [ho] at he; cases he) (fun m' w' hm' _ _ _ he rv hrv => ?_)
  rw [ho] at he; cases he
  obtain rfl : n = m' := by omega
  simp [go_sem, d3']
  refine l8 hr hc'.field hc'.num hn8 n 0 (by omega) ?_
  have hsm := maxD_small (w := w) (x := n)
  have hfm := few_most hr hn8 (D := maxD w n) (fun x hx => maxD_le hx) hk
  have hlr := largest_rooms hr hn8 hk.proper fun x hx => by
    have hxl : x < (roomsS n w (n - 1)).length := by omega
    unfold cAt
    rw [List.getElem?_eq_getElem hxl]
    exact hk.lt _ (List.getElem_mem hxl)
  simp [go_sem, d4']
  refine k22 hrv hfv (by omega) (by omega) ?_
  simp [go_sem, d5', d3', loadGG hc'.field, hrv.noVec, hfv.noVec]
  refine k38 hr hn8 (Nat.zero_le _) fun u1 hu1 => ?_
  simp [go_sem, d5', d3', hu1.len, hlr, i64_suc (show maxD w n < 1000000 by omega), call15]
  omega
theorem roomed_true {p bits : Nat} (hp : p < 256) (hbits : bits < 4294967296) : ∃ f H', acall E f 8 [.agg [.int .u8 (p : Nat), .int .u32 (bits : Nat)]] [] = some (.bool true, H') := by
  obtain ⟨f, v, H', h, rfl⟩ := law8 hp hbits
  exact ⟨f, H', h⟩
end Go.Proofs.Ythoogegclpiefaa.Code
end
