/-
  Parts of the proofs about this chapter, joined: contracts of functions and plain laws.
-/
import Derived.Test.YtnlebofipoepfaaK1
import Derived.Test.YtnlebofipoepfaaAbArg
set_option linter.all false
section
namespace Go.Proofs.Ytnlebofipoepfaa.Code
open Go Go.Ab
variable {pure : Bool} {base bar : Nat} {H : Heap} {Q : AV → Heap → Prop}

theorem allL_get : ∀ {vs : List AV} {ls : List (List Nat)}, allL vs ls → ∀ {i : Nat} (hi : i < ls.length), ∃ u, vs[i]? = some u ∧ isL u ls[i]
  | v :: vs, l :: ls, h, 0, hi => ⟨v, rfl, h.1⟩
  | v :: vs, l :: ls, h, i + 1, hi => by
    obtain ⟨u, h1, h2⟩ := allL_get h.2 (i := i) (by simpa using hi)
    exact ⟨u, by simpa using h1, by simpa using h2⟩
  | [], [], _, i, hi => by simp at hi
  | [], _ :: _, h, _, _ => h.elim
  | _ :: _, [], h, _, _ => h.elim
theorem isLL_ix {v : AV} {ls : List (List Nat)} (h : isLL v ls) {i : Nat} (hi : i < ls.length) : ∃ u, isL u ls[i] ∧ ∀ (H : Heap) (k : IntKind) (K : AV → Heap → List Nat → Prop), ixaSWp 1 (some v) (some (.int k (i : Int))) H K = K (.fp u) H [] := by
  rcases h with ⟨_, rfl⟩ | ⟨ex, vs, rfl, ha⟩
  · simp at hi
  · obtain ⟨u, h1, h2⟩ := allL_get ha hi
    refine ⟨u, h2, fun H k K => ?_⟩
    rw [ixaSWp_lst]
    simp [h1, valWp_some]

theorem bits_clr {s g : Nat} (hs : s < 256) : bitsOf (clr s g) = (bitsOf s).filter fun i => !g.testBit i := by
  unfold bitsOf
  rw [List.filter_filter]
  congr 1
  funext i
  rw [testBit_clr hs, Bool.and_comm]
theorem len_split {p : Nat → Bool} : ∀ {l : List Nat}, l.length = (l.filter p).length + (l.filter fun u => !p u).length
  | [] => rfl
  | x :: r => by
    have := len_split (p := p) (l := r)
    rw [List.filter_cons, List.filter_cons, List.length_cons]
    cases p x <;> simp <;> omega
theorem isLL.ix0 {v : AV} {l : List Nat} {r : List (List Nat)} (h : isLL v (l :: r)) : ∃ u, isL u l ∧ ∀ (H : Heap) (k : IntKind) (K : AV → Heap → List Nat → Prop), ixaSWp 1 (some v) (some (.int k 0)) H K = K (.fp u) H [] := by
  rcases h with ⟨_, he⟩ | ⟨ex, vs, rfl, ha⟩
  · cases he
  · cases vs with
    | nil => exact ha.elim
    | cons u us =>
      refine ⟨u, ha.1, fun H k K => ?_⟩
      rw [ixaSWp_lst]
      simp [valWp_some]
theorem aload_fpL {v : AV} {l : List Nat} (h : isL v l) {s : Nat} : aload H ⟨false, s⟩ (.fp v) = some v := by
  rcases h with ⟨rfl, rfl⟩ | ⟨ex, rfl⟩ <;> rfl

theorem flatMap_len {α : Type} {f : Nat → List α} {m : Nat} : ∀ (l : List Nat), (∀ x ∈ l, (f x).length ≤ m) → (l.flatMap f).length ≤ l.length * m
  | [], _ => by simp
  | x :: r, h => by
    have h1 := h x (List.mem_cons_self ..)
    have h2 := flatMap_len r fun y hy => h y (List.mem_cons_of_mem _ hy)
    simp only [List.flatMap_cons, List.length_append, List.length_cons, Nat.succ_mul]; omega

/-! to whom chains lead -/
theorem exists_reach {n x : Nat} {w : Nat → Nat} (hbd : BoardW n w) (hx : x < 7) : ∃ t, t < 128 ∧ ∀ y, t.testBit y = true ↔ Rch w x y := by
  have key : ∀ (k s : Nat), (bitsOf s).length + k = 8 → s < 128 → (∀ y, s.testBit y = true → Rch w x y) → s.testBit x = true → ∃ t, t < 128 ∧ ∀ y, t.testBit y = true ↔ Rch w x y := by
    intro k
    induction k using Nat.strongRecOn with
    | _ k ih =>
      intro s hk hs hr hx
      have hfl := fart_lt hbd hs
      by_cases he : fartS w s = s
      · exact ⟨s, hs, fun y => ⟨hr y, fun hy => by
          induction hy with
          | refl => exact hx
          | step _ h2 ih2 =>
            rw [← he]
            exact (fart_bit (n := n) hs).2 (.inr ⟨_, ih2, h2⟩)⟩⟩
      · have hlen := more_bits s hs _ hfl (sub_band fun y hy => (fart_bit (n := n) hs).2 (.inl hy)) (Ne.symm he)
        have hl8 := bits_len (fartS w s)
        exact ih (8 - (bitsOf (fartS w s)).length) (by omega) (fartS w s) (by omega) hfl (fun y hy => by
          rcases (fart_bit (n := n) hs).1 hy with h | ⟨z, hz, h⟩
          · exact hr y h
          · exact .step (hr z hz) h) ((fart_bit (n := n) hs).2 (.inl hx))
  have hp : pw x < 128 := Nat.pow_lt_pow_right (by decide) hx
  have hl := bits_len (pw x)
  refine key (8 - (bitsOf (pw x)).length) (pw x) (by omega) hp (fun y hy => ?_) (by simp [testBit_pw])
  rw [testBit_pw] at hy
  obtain rfl : x = y := by simpa using hy
  exact .refl
/-- the sets to which chains lead -/
structure ReachW (w : Nat → Nat) (g : Nat → Nat) : Prop where
  lt : ∀ x, x < 7 → g x < 128
  bit : ∀ x y, x < 7 → ((g x).testBit y = true ↔ Rch w x y)
theorem reach_w {n : Nat} {w : Nat → Nat} (hbd : BoardW n w) : ∃ g, ReachW w g := by
  obtain ⟨Y, hY⟩ := Go.Deep.choose_lt (n := 7) fun x hx => exists_reach hbd hx
  exact ⟨Y, fun x hx => (hY x hx).1, fun x y hx => (hY x hx).2 y⟩
theorem k64g {id ver n x : Nat} {ex : Bool} {w g : Nat → Nat} {fz : Nat} (hid : H[id]? = some (.row ver (bcells n w) fz ex)) (hbd : BoardW n w) (hg : ReachW w g) (hx : x < 7) (hb : bar ≤ H.length)
    (h : Q (.int .u8 (g x : Nat)) H) : WpCall E pure base bar 64 [.ptr id ver 0, .int .i64 x] H Q :=
  k64 hid hbd hx hb fun t _ hy => by
    have : t = g x := Nat.eq_of_testBit_eq fun y => by rw [Bool.eq_iff_iff, hy, hg.bit x y hx]
    rw [this]; exact h
theorem Rch.lt {n : Nat} {w : Nat → Nat} (hbd : BoardW n w) {x y : Nat} (hx : x < n) (h : Rch w x y) : y < n := by
  induction h with
  | refl => exact hx
  | step _ h2 _ => exact (hbd.dom _ _ h2).2

/-! groups -/
def cntG (g : Nat → Nat) (left x : Nat) : Nat := (bitsOf (band (g x) left)).length
def stepG (g : Nat → Nat) (left : Nat) (s : Nat × Nat) (x : Nat) : Nat × Nat := if s.2 < cntG g left x then (pw x, cntG g left x) else if cntG g left x = s.2 then (bor s.1 (pw x), s.2) else s
def firstG (g : Nat → Nat) (left : Nat) : Nat × Nat := (bitsOf left).foldl (stepG g left) (0, 0)
def groupsT (g : Nat → Nat) : Nat → Nat → List (List Nat)
  | 0, _ => []
  | f + 1, left => if left = 0 then [] else bitsOf (firstG g left).1 :: groupsT g f (clr left (firstG g left).1)
theorem fold_group {g : Nat → Nat} {left : Nat} (hc : ∀ x, left.testBit x = true → x < 8 → 1 ≤ cntG g left x) : ∀ (L done : List Nat) (s : Nat × Nat), (∀ x ∈ L, left.testBit x = true ∧ x < 8) → s.1 < 256 →
    (∀ x ∈ done, cntG g left x ≤ s.2) → (s.2 = 0 ∧ done = [] ∨ ∃ x ∈ done, cntG g left x = s.2) → (∀ x, s.1.testBit x = true ↔ x ∈ done ∧ cntG g left x = s.2) →
    (L.foldl (stepG g left) s).1 < 256 ∧ (∀ x ∈ done ++ L, cntG g left x ≤ (L.foldl (stepG g left) s).2) ∧ ((L.foldl (stepG g left) s).2 = 0 ∧ done ++ L = [] ∨ ∃ x ∈ done ++ L, cntG g left x = (L.foldl (stepG g left) s).2) ∧
      (∀ x, (L.foldl (stepG g left) s).1.testBit x = true ↔ x ∈ done ++ L ∧ cntG g left x = (L.foldl (stepG g left) s).2)
  | [], done, s, _, h0, h1, h2, h3 => by simpa using ⟨h0, h1, h2, h3⟩
  | z :: r, done, s, hL, h0, h1, h2, h3 => by
    obtain ⟨hz, hz8⟩ := hL z (List.mem_cons_self ..)
    have hcz := hc z hz hz8
    rw [List.foldl_cons]
    have e : done ++ z :: r = (done ++ [z]) ++ r := by simp
    rw [e]
    refine fold_group hc r (done ++ [z]) (stepG g left s z) (fun x hx => hL x (List.mem_cons_of_mem _ hx)) ?_ ?_ ?_ ?_
    · unfold stepG
      split
      · exact pw_lt hz8
      · split
        · exact bor_lt h0 (pw_lt hz8)
        · exact h0
    · intro x hx
      unfold stepG
      rcases List.mem_append.1 hx with hx | hx
      · have := h1 x hx
        split
        · exact Nat.le_trans this (by simp only; omega)
        · split <;> exact this
      · rw [List.mem_singleton] at hx; subst hx
        split
        · exact Nat.le_refl _
        · rename_i g1
          split
          · rename_i g2; exact Nat.le_of_eq g2
          · exact Nat.le_of_not_lt g1
    · right
      unfold stepG
      split
      · exact ⟨z, by simp, rfl⟩
      · split
        · rename_i h; exact ⟨z, by simp, h⟩
        · rename_i g1 g2
          rcases h2 with ⟨h2, _⟩ | ⟨x, hx, h2⟩
          · omega
          · exact ⟨x, List.mem_append_left _ hx, h2⟩
    · intro x
      rw [List.mem_append, List.mem_singleton]
      unfold stepG
      split
      · rename_i hlt
        rw [testBit_pw, decide_eq_true_eq]
        constructor
        · rintro rfl; exact ⟨.inr rfl, rfl⟩
        · rintro ⟨hx | hx, he⟩
          · have := h1 x hx; simp only at he; omega
          · exact hx.symm
      · split
        · rename_i hge heq
          simp only
          rw [testBit_bor, Bool.or_eq_true, testBit_pw, decide_eq_true_eq, h3]
          constructor
          · rintro (⟨hx, he⟩ | rfl)
            · exact ⟨.inl hx, he⟩
            · exact ⟨.inr rfl, heq⟩
          · rintro ⟨hx | hx, he⟩
            · exact .inl ⟨hx, he⟩
            · exact .inr hx.symm
        · rename_i hge hne
          rw [h3]
          constructor
          · rintro ⟨hx, he⟩; exact ⟨.inl hx, he⟩
          · rintro ⟨hx | hx, he⟩
            · exact ⟨hx, he⟩
            · subst hx; exact absurd he hne
end Go.Proofs.Ytnlebofipoepfaa.Code
end

section
namespace Go.Proofs.Ytnlebofipoepfaa.Code
open Go Go.Ab
variable {pure : Bool} {base bar : Nat} {H : Heap} {Q : AV → Heap → Prop}

section
variable {n : Nat} {w g : Nat → Nat}
theorem cnt_pos (hg : ReachW w g) {left x : Nat} (hx : left.testBit x = true) (hx7 : x < 7) : 1 ≤ cntG g left x := by
  unfold cntG
  exact List.length_pos_of_mem (a := x) (bits_mem.2 ⟨by omega, by rw [testBit_band, hx, (hg.bit x x hx7).2 .refl]; rfl⟩)
/-- the first group: those with the greatest number -/
theorem first_spec (hg : ReachW w g) {left : Nat} (hl : left < 128) (h0 : left ≠ 0) : ∃ m, (firstG g left).1 < 256 ∧ (∀ x, left.testBit x = true → cntG g left x ≤ m) ∧ (∃ x, left.testBit x = true ∧ cntG g left x = m) ∧ ∀ x, (firstG g left).1.testBit x = true ↔ left.testBit x = true ∧ cntG g left x = m := by
  have h7 : ∀ x, left.testBit x = true → x < 7 := fun x hx => bit_lt (n := 7) hl hx
  have := fold_group (g := g) (left := left) (fun x hx _ => cnt_pos hg hx (h7 x hx)) (bitsOf left) [] (0, 0) (fun x hx => ⟨(bits_mem.1 hx).2, (bits_mem.1 hx).1⟩) (by decide) (by simp) (.inl ⟨rfl, rfl⟩) (by simp)
  obtain ⟨a1, a2, a3, a4⟩ := this
  simp only [List.nil_append] at a2 a3 a4
  have hm : ∀ x, left.testBit x = true → x ∈ bitsOf left := fun x hx => bits_mem.2 ⟨by have := h7 x hx; omega, hx⟩
  refine ⟨(firstG g left).2, a1, fun x hx => a2 x (hm x hx), ?_, fun x => ?_⟩
  · rcases a3 with ⟨_, h⟩ | ⟨x, hx, h⟩
    · exfalso
      apply h0
      apply Nat.eq_of_testBit_eq
      intro i
      rw [Nat.zero_testBit]
      cases hi : left.testBit i
      · rfl
      · have := hm i hi; rw [h] at this; simp at this
    · exact ⟨x, (bits_mem.1 hx).2, h⟩
  · refine (a4 x).trans ⟨fun ⟨h1, h2⟩ => ⟨(bits_mem.1 h1).2, h2⟩, fun ⟨h1, h2⟩ => ⟨hm x h1, h2⟩⟩
/-- what groups are -/
structure GroupsOK (w : Nat → Nat) (left : Nat) (G : List (List Nat)) : Prop where
  each : ∀ l ∈ G, l.Pairwise (· < ·) ∧ l ≠ [] ∧ ∀ x ∈ l, left.testBit x = true
  all : ∀ x, left.testBit x = true → ∃ l ∈ G, x ∈ l
  order : G.Pairwise fun a b => ∀ x ∈ a, ∀ y ∈ b, (w x).testBit y = true
  inside : ∀ l ∈ G, ∀ x ∈ l, ∀ y ∈ l, Rch w x y
  sum : (G.flatMap fun l => l).length = (bitsOf left).length
theorem cnt_mono {left x y : Nat} (h : ∀ z, (g y).testBit z = true → (g x).testBit z = true) (hl : left < 128) : cntG g left y ≤ cntG g left x ∧ (cntG g left y = cntG g left x → ∀ z, left.testBit z = true → (g x).testBit z = true → (g y).testBit z = true) := by
  have hb : ∀ u, band u left < 128 := fun u => Nat.lt_of_le_of_lt Nat.and_le_right hl
  have hsub : band (band (g y) left) (band (g x) left) = band (g y) left := sub_band fun z hz => by
    rw [testBit_band, Bool.and_eq_true] at hz ⊢
    exact ⟨h z hz.1, hz.2⟩
  by_cases he : band (g y) left = band (g x) left
  · refine ⟨by unfold cntG; rw [he]; exact Nat.le_refl _, fun _ z hz hx => ?_⟩
    have := congrArg (·.testBit z) he
    simp only [testBit_band, hz, hx, Bool.and_self, Bool.and_true] at this
    exact this
  · have := more_bits _ (hb (g y)) _ (hb (g x)) hsub he
    unfold cntG
    exact ⟨by omega, fun hc => by omega⟩
theorem groups_ok (hbd : BoardW n w) (hg : ReachW w g) : ∀ (f left : Nat), (bitsOf left).length ≤ f → left < pw n → GroupsOK w left (groupsT g f left)
  | 0, left, hf, _ => by
    have hn : bitsOf left = [] := List.length_eq_zero_iff.1 (by omega)
    have : ∀ x, left.testBit x = true → False := fun x hx => by
      have hx7 := bit_lt (by assumption : left < pw n) hx
      have hn7 := hbd.le
      have := bits_mem.2 ⟨show x < 8 by omega, hx⟩
      rw [hn] at this; simp at this
    exact ⟨by simp [groupsT], fun x hx => (this x hx).elim, .nil, by simp [groupsT], by simp [groupsT, hn]⟩
  | f + 1, left, hf, hl => by
    have hn7 : pw n ≤ 128 := Nat.pow_le_pow_right (by decide) hbd.le
    have hl7 : left < 128 := by omega
    have h7 : ∀ x, left.testBit x = true → x < n := fun x hx => bit_lt hl hx
    have hn := hbd.le
    by_cases h0 : left = 0
    · subst h0
      rw [groupsT, if_pos rfl]
      exact ⟨by simp, fun x hx => by simp at hx, .nil, by simp, by simp [bits_zero]⟩
    obtain ⟨m, s1, s2, ⟨x0, s3, s3'⟩, s4⟩ := first_spec hg hl7 h0
    rw [groupsT, if_neg h0]
    generalize (firstG g left).1 = grp at *
    have hsub : ∀ x, grp.testBit x = true → left.testBit x = true := fun x hx => ((s4 x).1 hx).1
    have hlen : (bitsOf left).length = (bitsOf grp).length + (bitsOf (clr left grp)).length := by
      have e1 := len_split (p := grp.testBit) (l := bitsOf left)
      have e2 : (bitsOf left).filter grp.testBit = bitsOf grp := by
        unfold bitsOf
        rw [List.filter_filter]
        apply List.filter_congr
        intro x _
        cases hgx : grp.testBit x
        · rfl
        · rw [hsub x hgx]; rfl
      rw [e2, ← bits_clr (by omega)] at e1
      exact e1
    have hx0 := (s4 x0).2 ⟨s3, s3'⟩
    have hgl : 1 ≤ (bitsOf grp).length := List.length_pos_of_mem (bits_mem.2 ⟨by have := h7 x0 s3; omega, hx0⟩)
    have hc : ∀ x, (clr left grp).testBit x = true ↔ left.testBit x = true ∧ grp.testBit x = false := fun x => by
      rw [testBit_clr (by omega)]; simp
    have ih := groups_ok hbd hg f (clr left grp) (by omega) (Nat.lt_of_le_of_lt Nat.and_le_left hl)
    refine ⟨fun l hl' => ?_, fun x hx => ?_, ?_, fun l hl' => ?_, ?_⟩
    · rcases List.mem_cons.1 hl' with rfl | hl'
      · exact ⟨bits_pairwise grp, fun he => by rw [he] at hgl; simp at hgl, fun x hx => hsub x (bits_mem.1 hx).2⟩
      · obtain ⟨i1, i2, i3⟩ := ih.each l hl'
        exact ⟨i1, i2, fun x hx => ((hc x).1 (i3 x hx)).1⟩
    · cases hgx : grp.testBit x
      · obtain ⟨l, i1, i2⟩ := ih.all x ((hc x).2 ⟨hx, hgx⟩)
        exact ⟨l, List.mem_cons_of_mem _ i1, i2⟩
      · exact ⟨_, List.mem_cons_self .., bits_mem.2 ⟨by have := h7 x hx; omega, hgx⟩⟩
    · rw [List.pairwise_cons]
      refine ⟨fun b hb x hx y hy => ?_, ih.order⟩
      have hx := (bits_mem.1 hx).2
      have hy := (hc y).1 ((ih.each b hb).2.2 y hy)
      have hxl := hsub x hx
      have hxn := h7 x hxl
      have hyn := h7 y hy.1
      have hne : x ≠ y := fun he => by subst he; rw [hx] at hy; cases hy.2
      cases hw : (w x).testBit y
      · exfalso
        have hyx : (w y).testBit x = true := by rw [hbd.one y x hyn hxn (Ne.symm hne), hw]; rfl
        have hmn := cnt_mono (g := g) (left := left) (x := y) (y := x) (fun z hz => (hg.bit y z (by omega)).2 ((Rch.step .refl hyx).trans ((hg.bit x z (by omega)).1 hz))) hl7
        have e1 := ((s4 x).1 hx).2
        have e2 := s2 y hy.1
        have : grp.testBit y = true := (s4 y).2 ⟨hy.1, by omega⟩
        rw [this] at hy; cases hy.2
      · rfl
    · rcases List.mem_cons.1 hl' with rfl | hl'
      · intro x hx y hy
        have hx := (s4 x).1 (bits_mem.1 hx).2
        have hy := (s4 y).1 (bits_mem.1 hy).2
        have hxn := h7 x hx.1
        have hyn := h7 y hy.1
        by_cases hne : x = y
        · subst hne; exact .refl
        cases hw : (w x).testBit y
        · have hyx : (w y).testBit x = true := by rw [hbd.one y x hyn hxn (Ne.symm hne), hw]; rfl
          have hmn := cnt_mono (g := g) (left := left) (x := y) (y := x) (fun z hz => (hg.bit y z (by omega)).2 ((Rch.step .refl hyx).trans ((hg.bit x z (by omega)).1 hz))) hl7
          exact (hg.bit x y (by omega)).1 (hmn.2 (by rw [hx.2, hy.2]) y hy.1 ((hg.bit y y (by omega)).2 .refl))
        · exact .step .refl hw
      · exact ih.inside l hl'
    · rw [List.flatMap_cons, List.length_append, ih.sum, hlen]

/-! 33: the groups -/
theorem l33a {id ver fz left : Nat} {ex : Bool} {ov lv : AV} {l : List Nat} (hid : H[id]? = some (.row ver (bcells n w) fz ex)) (hbd : BoardW n w) (hg : ReachW w g) (hl : left < 128) (hv : isL lv l) (hll : l.length ≤ 8) (h7 : ∀ x ∈ l, x < 7) (hb : bar ≤ H.length) {R : PQ} :
    ∀ (k i grp most : Nat), i + k = l.length → grp < 256 →
    R (.exit 2) [(4, .ptr id ver 0), (6, ov), (7, .int .u8 (left : Nat)), (8, .int .u8 (((l.drop i).foldl (stepG g left) (grp, most)).1 : Nat)), (9, .int .i64 (((l.drop i).foldl (stepG g left) (grp, most)).2 : Nat)), (26, lv), (27, .int .i64 (l.length : Nat)), (28, .int .i64 (l.length : Nat)), (29, .bool false)] H →
    Wp E base bar (.loop c33_l0) [(4, .ptr id ver 0), (6, ov), (7, .int .u8 (left : Nat)), (8, .int .u8 (grp : Nat)), (9, .int .i64 (most : Nat)), (26, lv), (27, .int .i64 (l.length : Nat)), (28, .int .i64 (i : Nat))] H R := by
  intro k
  induction k with
  | zero =>
    intro i grp most hi hgrp h
    obtain rfl : i = l.length := by omega
    rw [List.drop_length] at h
    rw [wp_round c33_l0.eq_1]
    simp [go_sem]
    exact h
  | succ k ih =>
    intro i grp most hi hgrp h
    have hlt : i < l.length := by omega
    have hx := h7 _ (List.getElem_mem hlt)
    have hgx := hg.lt _ hx
    rw [List.drop_eq_getElem_cons hlt, List.foldl_cons] at h
    have hst : stepG g left (grp, most) l[i] = if most < cntG g left l[i] then (pw l[i], cntG g left l[i]) else if cntG g left l[i] = most then (bor grp (pw l[i]), most) else (grp, most) := rfl
    have hcl : cntG g left l[i] = (bitsOf (band (g l[i]) left)).length := rfl
    rw [wp_round c33_l0.eq_1]
    simp [go_sem, hlt, hv.ix hlt]
    refine k64g hid hbd hg hx hb ?_
    simp [go_sem, and_u8 (show g l[i] < 256 by omega) (show left < 256 by omega), k72 (band_lt (show g l[i] < 256 by omega))]
    rw [← hcl]
    generalize l[i] = x at *
    by_cases h1 : most < cntG g left x
    · rw [hst, if_pos h1] at h
      simp [go_sem, h1, shl_u8 (show x < 8 by omega), i64_suc (show i < 1000000 by omega)]
      exact ih (i + 1) (pw x) (cntG g left x) (by omega) (pw_lt (by omega)) h
    · by_cases h2 : cntG g left x = most
      · rw [hst, if_neg h1, if_pos h2] at h
        simp [go_sem, h1, h2, shl_u8 (show x < 8 by omega), or_u8 hgrp (pw_lt (show x < 8 by omega)), i64_suc (show i < 1000000 by omega)]
        exact ih (i + 1) _ most (by omega) (bor_lt hgrp (pw_lt (by omega))) h
      · rw [hst, if_neg h1, if_neg h2] at h
        simp [go_sem, h1, natEq, h2, i64_suc (show i < 1000000 by omega)]
        exact ih (i + 1) grp most (by omega) hgrp h
theorem l33 {id ver fz : Nat} {ex : Bool} (hid : H[id]? = some (.row ver (bcells n w) fz ex)) (hbd : BoardW n w) (hg : ReachW w g) {k0 : Nat} (hk0 : k0 ≤ H.length) (hidk : id < k0) (hbar : bar ≤ k0) (hbase : base ≤ k0) {R : PQ} :
    ∀ (f left : Nat) (acc : List (List Nat)) (vs : List AV) (ov : AV) (Hc : Heap), left < pw n → (bitsOf left).length ≤ f → Hc.length ≥ k0 → (∀ j, j < k0 → Hc[j]? = H[j]?) → Own k0 1 vs ov Hc → allL vs acc → acc.length + f ≤ 1000 →
    (∀ vs' ov' Hc', (∀ j, j < k0 → Hc'[j]? = H[j]?) → Hc'.length ≥ k0 → Own k0 1 vs' ov' Hc' → allL vs' (acc ++ groupsT g f left) → R (.exit 0) [(4, .ptr id ver 0), (6, ov'), (7, .int .u8 0), (24, .bool false)] Hc') →
    Wp E base bar (.loop c33_l1) [(4, .ptr id ver 0), (6, ov), (7, .int .u8 (left : Nat))] Hc R := by
  have hn7 : pw n ≤ 128 := Nat.pow_le_pow_right (by decide) hbd.le
  intro f
  induction f with
  | zero =>
    intro left acc vs ov Hc hl hf hlen hsame ho ha hal h
    have h0 : left = 0 := by
      apply Nat.eq_of_testBit_eq
      intro i
      rw [Nat.zero_testBit]
      cases hi : left.testBit i
      · rfl
      · have hx7 := bit_lt hl hi
        have hn := hbd.le
        have := bits_mem.2 ⟨show i < 8 by omega, hi⟩
        rw [List.length_eq_zero_iff.1 (show (bitsOf left).length = 0 by omega)] at this; simp at this
    subst h0
    rw [wp_round c33_l1.eq_1]
    simp [go_sem]
    exact h vs ov Hc hsame hlen ho (by simpa [groupsT] using ha)
  | succ f ih =>
    intro left acc vs ov Hc hl hf hlen hsame ho ha hal h
    rw [wp_round c33_l1.eq_1]
    by_cases h0 : left = 0
    · subst h0
      simp [go_sem]
      exact h vs ov Hc hsame hlen ho (by simpa [groupsT] using ha)
    · have hl7 : left < 128 := by omega
      have hid' : Hc[id]? = some (.row ver (bcells n w) fz ex) := by rw [hsame id hidk, hid]
      have hne : ¬ ((left : Nat) : Int) = 0 := by omega
      obtain ⟨m, s1, s2, ⟨x0, s3, s3'⟩, s4⟩ := first_spec hg hl7 h0
      have hx0 := (s4 x0).2 ⟨s3, s3'⟩
      have hbl := bits_len left
      rw [groupsT, if_neg h0] at h
      have hlt : (bitsOf (clr left (firstG g left).1)).length < (bitsOf left).length := by
        rw [bits_clr (by omega)]
        rw [List.length_filter_lt_length_iff_exists]
        exact ⟨x0, bits_mem.2 ⟨by have := bit_lt (n := 7) hl7 s3; omega, s3⟩, by simp [hx0]⟩
      simp [go_sem, hne, h0]
      refine k71 (by omega) (by omega) ?_
      have hv := isL.out (l := bitsOf left)
      generalize outL 1 (nats (bitsOf left)) = v at hv
      simp [go_sem, hv.len]
      refine l33a hid' hbd hg hl7 hv hbl (fun x hx => bit_lt (n := 7) hl7 (bits_mem.1 hx).2) (by omega) (bitsOf left).length 0 0 0 (by omega) (by decide) ?_
      rw [List.drop_zero]
      have e1 : ((bitsOf left).foldl (stepG g left) (0, 0)) = firstG g left := rfl
      rw [e1]
      simp [go_sem]
      refine k71 s1 (by omega) ?_
      have hv2 := isL.out (l := bitsOf (firstG g left).1)
      generalize outL 1 (nats (bitsOf (firstG g left).1)) = v2 at hv2
      simp [go_sem, hv2.isTup, hv2.cells, hv2.frz, aop, fillA, setCells, chunks]
      refine ho.app (bytes := 24) (xs := [v2]) (by omega) (by decide) (Nat.one_dvd _) (fun c hc => by simp [hv2.cells] at hc; subst hc; exact hv2.plain) (by simp [hv2.cells, AV.noVec.noVecs, hv2.noVec]) (Nat.one_dvd _) (by omega) (by omega) (by
        simp [hv2.cells, ha.length]; omega) fun v3 H2 tc2 o2 k2 => ?_
      simp [hv2.cells] at o2
      have hs2 : ∀ j, j < k0 → H2[j]? = H[j]? := fun j hj => by
        rw [k2.same j (by omega) (fun hc => by have := (ho.lt hc).1; omega), hsame j hj]
      have hl2 := k2.len
      simp [go_sem, andNot_u8 (show left < 256 by omega) s1]
      refine ih (clr left (firstG g left).1) (acc ++ [bitsOf (firstG g left).1]) _ _ _ (Nat.lt_of_le_of_lt Nat.and_le_left hl) (by omega) (by omega) hs2 o2 (ha.append ⟨hv2, trivial⟩) (by simp; omega) ?_
      simpa using h

theorem k33 {n bits : Nat} {q : AV} {l : List ZZ} {f : Nat → Nat → Bool} {g : Nat → Nat} (hq : isP q l) (hl : l.length < 1000) (hm : MadeC n bits l f) (hg : ReachW (boardF l fun _ => 0) g) (hbar : bar ≤ H.length)
    (h : ∀ v, isLL v (groupsT g 8 (pw n - 1)) → Q (.tup [v, .int .i64 0]) H) : WpCall E pure base bar 33 [.agg [.int .i64 (n : Nat), q]] H Q := by
  rw [call33]
  have hb' := bar_ok (pure := pure) hbar
  have hbd := hm.board.1
  have lh : aload (H ++ [Blk.row 0 [.int .i64 (n : Nat), q] 0 true]) ⟨true, 2⟩ (.ptr H.length 0 0) = some (.agg [.int .i64 (n : Nat), q]) := by simp [aload, own_get0, Ab.part]
  simp [go_sem, WpFun, c33, hq.frz, lh] at hb' ⊢
  generalize (if pure = true then H.length else bar) = bar' at hb' ⊢
  refine k56 hq hl (by simp; omega) (fun hc => absurd hm.check hc) (fun m hnm _ _ _ => ?_)
  obtain rfl : n = m := by omega
  have hid : (H ++ [Blk.row 0 [AV.int IntKind.i64 (n : Nat), q] 0 true, Blk.row 0 (bcells n (boardF l fun _ => 0)) 0 true])[H.length + 1]? = some (.row 0 (bcells n (boardF l fun _ => 0)) 0 true) := by simp [own_get]
  have h1 : 1 ≤ pw n := Nat.one_le_two_pow
  simp [go_sem, k59 hid hm.le]
  refine l33 (k0 := H.length + 2) hid hbd hg (by simp) (by omega) (by omega) (by omega) 8 (pw n - 1) [] [] .nils _ (by omega) (bits_len _) (by simp) (fun _ _ => rfl) Own.nil trivial (by simp) fun vs' ov' Hc' hs hlen ho' ha' => ?_
  obtain ⟨H2, f1, f2, f3, f4⟩ := ho'.frz (d := 5) (bar := bar') (by decide) (Nat.one_dvd _) ha'.plain (by omega)
  rw [show 5 + 3 = 8 from rfl] at f1
  have e3 : H2.take H.length = H := by
    apply List.ext_getElem?
    intro j
    rw [List.getElem?_take]
    by_cases hj : j < H.length
    · rw [if_pos hj, f4 j (fun hc => by have := (ho'.lt hc).1; omega), hs j (by omega), List.getElem?_append_left hj]
    · rw [if_neg hj, List.getElem?_eq_none (by omega)]
  have hv := isLL.out ha'
  simp [go_sem, f1, hv.top, e3]
  exact h _ (by simpa using hv)
end
end Go.Proofs.Ytnlebofipoepfaa.Code
end

section
namespace Go.Proofs.Ytnlebofipoepfaa.Code
open Go Go.Ab
variable {pure : Bool} {base bar : Nat} {H : Heap} {Q : AV → Heap → Prop}

/-! 45: to whom chains lead, with at most so many steps -/
def nextR (f : Nat → Nat → Bool) (n : Nat) (met : Nat → Bool) (a : Nat) : Nat → Bool := fun j => met j || (decide (j < n) && (List.range a).any fun x => met x && f x j)
def nextP (f : Nat → Nat → Bool) (n : Nat) (met : Nat → Bool) (a b : Nat) : Nat → Bool := fun j => nextR f n met a j || (decide (j < b) && (met a && f a j))
def reachR (f : Nat → Nat → Bool) (n x : Nat) : Nat → Nat → Bool
  | 0 => fun j => decide (j = x)
  | k + 1 => nextR f n (reachR f n x k) n
theorem nextP_zero {f : Nat → Nat → Bool} {n a : Nat} {met : Nat → Bool} : nextP f n met a 0 = nextR f n met a := by
  funext j; simp [nextP]
theorem nextP_step {f : Nat → Nat → Bool} {n a b : Nat} {met : Nat → Bool} : updB (nextP f n met a b) b (nextP f n met a b b || (met a && f a b)) = nextP f n met a (b + 1) := by
  funext j
  unfold updB
  split
  · rename_i h; subst h
    unfold nextP
    have e1 : decide (j < j) = false := by simp
    have e2 : decide (j < j + 1) = true := by simp
    rw [e1, e2]; simp
  · rename_i h
    unfold nextP
    have : decide (j < b + 1) = decide (j < b) := decide_eq_decide.2 (by omega)
    rw [this]
theorem nextP_all {f : Nat → Nat → Bool} {n a : Nat} {met : Nat → Bool} : nextP f n met a n = nextR f n met (a + 1) := by
  funext j
  unfold nextP nextR
  rw [List.range_succ, List.any_append]
  cases decide (j < n) <;> simp [Bool.or_assoc]
theorem nextR_zero {f : Nat → Nat → Bool} {n : Nat} {met : Nat → Bool} : nextR f n met 0 = met := by
  funext j; simp [nextR]

section
variable {n i4 i8 i9 i10 steps s : Nat} {f : Nat → Nat → Bool} {met : Nat → Bool} {cs : List AV}
theorem l45a (h4 : H[i4]? = some (.row 0 (gcells f) 0 true)) (h9 : H[i9]? = some (.row 0 (mcells met) 0 true)) (h10 : H[i10]? = some (.row 0 cs 0 true)) (n4 : i4 ≠ i10) (n9 : i9 ≠ i10) (hn : n ≤ 7) {a : Nat} (ha : a < n) (hbar : bar ≤ i10) {R : PQ} :
    ∀ (k b : Nat), b + k = n →
    R (.exit 4) [(1, .int .i64 (n : Nat)), (4, .ptr i4 0 0), (8, .ptr i8 0 0), (9, .ptr i9 0 0), (15, .int .i64 (steps : Nat)), (16, .int .i64 (s : Nat)), (10, .ptr i10 0 0), (19, .int .i64 (n : Nat)), (20, .int .i64 (a : Nat)), (11, .int .i64 (a : Nat)), (23, .int .i64 (n : Nat)), (24, .int .i64 (n : Nat)), (25, .bool false)] (H.set i10 (.row 0 (mcells (nextP f n met a n)) 0 true)) →
    Wp E base bar (.loop c45_l0) [(1, .int .i64 (n : Nat)), (4, .ptr i4 0 0), (8, .ptr i8 0 0), (9, .ptr i9 0 0), (15, .int .i64 (steps : Nat)), (16, .int .i64 (s : Nat)), (10, .ptr i10 0 0), (19, .int .i64 (n : Nat)), (20, .int .i64 (a : Nat)), (11, .int .i64 (a : Nat)), (23, .int .i64 (n : Nat)), (24, .int .i64 (b : Nat))] (H.set i10 (.row 0 (mcells (nextP f n met a b)) 0 true)) R := by
  intro k
  induction k with
  | zero =>
    intro b hb h
    obtain rfl : b = n := by omega
    rw [wp_round c45_l0.eq_1]
    simp [go_sem]
    exact h
  | succ k ih =>
    intro b hb h
    have hlt : b < n := by omega
    have g4 : ∀ m, (H.set i10 (.row 0 (mcells m) 0 true))[i4]? = some (.row 0 (gcells f) 0 true) := fun m => by rw [List.getElem?_set_ne (Ne.symm n4)]; exact h4
    have g9 : ∀ m, (H.set i10 (.row 0 (mcells m) 0 true))[i9]? = some (.row 0 (mcells met) 0 true) := fun m => by rw [List.getElem?_set_ne (Ne.symm n9)]; exact h9
    have g10 : ∀ m, (H.set i10 (.row 0 (mcells m) 0 true))[i10]? = some (.row 0 (mcells m) 0 true) := fun m => set_get h10
    have next := ih (b + 1) (by omega) h
    rw [← nextP_step] at next
    have m1 := loadM (s := 1) (g10 (nextP f n met a b)) (show b < 7 by omega)
    have m2 := loadM (s := 1) (g9 (nextP f n met a b)) (show a < 7 by omega)
    have m3 := loadG (s := 1) (g4 (nextP f n met a b)) (show a < 7 by omega) (show b < 7 by omega)
    rw [wp_round c45_l0.eq_1]
    have hb7 : b < 7 := by omega
    have ha7 : a < 7 := by omega
    have hz := i64_suc (show b < 1000000 by omega)
    cases e1 : nextP f n met a b b
    · rw [e1] at m1 next
      cases e2 : met a
      · rw [e2] at m2 next
        simp [go_sem, hlt, hb7, ha7, m1, m2]
        rw [storeM (g10 _) hb7 hbar]
        simp [go_sem, hz] at next ⊢
        exact next
      · rw [e2] at m2 next
        simp [go_sem, hlt, hb7, ha7, m1, m2, m3]
        rw [storeM (g10 _) hb7 hbar]
        simp [go_sem, hz] at next ⊢
        exact next
    · rw [e1] at m1 next
      simp [go_sem, hlt, hb7, ha7, m1]
      rw [storeM (g10 _) hb7 hbar]
      simp [go_sem, hz] at next ⊢
      exact next
theorem l45b (h4 : H[i4]? = some (.row 0 (gcells f) 0 true)) (h9 : H[i9]? = some (.row 0 (mcells met) 0 true)) (h10 : H[i10]? = some (.row 0 cs 0 true)) (n4 : i4 ≠ i10) (n9 : i9 ≠ i10) (hn : n ≤ 7) (hbar : bar ≤ i10) {R : PQ} :
    ∀ (k a : Nat), a + k = n →
    R (.exit 2) [(1, .int .i64 (n : Nat)), (4, .ptr i4 0 0), (8, .ptr i8 0 0), (9, .ptr i9 0 0), (15, .int .i64 (steps : Nat)), (16, .int .i64 (s : Nat)), (10, .ptr i10 0 0), (19, .int .i64 (n : Nat)), (20, .int .i64 (n : Nat)), (21, .bool false)] (H.set i10 (.row 0 (mcells (nextR f n met n)) 0 true)) →
    Wp E base bar (.loop c45_l1) [(1, .int .i64 (n : Nat)), (4, .ptr i4 0 0), (8, .ptr i8 0 0), (9, .ptr i9 0 0), (15, .int .i64 (steps : Nat)), (16, .int .i64 (s : Nat)), (10, .ptr i10 0 0), (19, .int .i64 (n : Nat)), (20, .int .i64 (a : Nat))] (H.set i10 (.row 0 (mcells (nextR f n met a)) 0 true)) R := by
  intro k
  induction k with
  | zero =>
    intro a ha h
    obtain rfl : a = n := by omega
    rw [wp_round c45_l1.eq_1]
    simp [go_sem]
    exact h
  | succ k ih =>
    intro a ha h
    have hlt : a < n := by omega
    rw [wp_round c45_l1.eq_1]
    simp [go_sem, hlt]
    rw [← nextP_zero]
    refine l45a h4 h9 h10 n4 n9 hn hlt hbar n 0 (by omega) ?_
    rw [nextP_all]
    simp [go_sem, i64_suc (show a < 1000000 by omega)]
    exact ih (a + 1) (by omega) h
end
theorem l45 {n x steps : Nat} {f : Nat → Nat → Bool} (hn : n ≤ 7) (hst : steps < 1000) (hbar : bar ≤ H.length) {R : PQ} :
    ∀ (k s : Nat), s + k = steps →
    R (.exit 0) [(1, .int .i64 (n : Nat)), (4, .ptr H.length 0 0), (8, .ptr (H.length + 1) 0 0), (9, .ptr (H.length + 2) 0 0), (15, .int .i64 (steps : Nat)), (16, .int .i64 (steps : Nat)), (17, .bool false)] (H ++ [.row 0 (gcells f) 0 true, .row 0 (mcells fun _ => false) 0 true, .row 0 (mcells (reachR f n x steps)) 0 true]) →
    Wp E base bar (.loop c45_l2) [(1, .int .i64 (n : Nat)), (4, .ptr H.length 0 0), (8, .ptr (H.length + 1) 0 0), (9, .ptr (H.length + 2) 0 0), (15, .int .i64 (steps : Nat)), (16, .int .i64 (s : Nat))] (H ++ [.row 0 (gcells f) 0 true, .row 0 (mcells fun _ => false) 0 true, .row 0 (mcells (reachR f n x s)) 0 true]) R := by
  intro k
  induction k with
  | zero =>
    intro s hs h
    obtain rfl : s = steps := by omega
    rw [wp_round c45_l2.eq_1]
    simp [go_sem]
    exact h
  | succ k ih =>
    intro s hs h
    have hlt : s < steps := by omega
    have next := ih (s + 1) (by omega) h
    have g2 : ∀ L : Heap, (H ++ (.row 0 (gcells f) 0 true :: .row 0 (mcells fun _ => false) 0 true :: .row 0 (mcells (reachR f n x s)) 0 true :: L))[H.length + 2]? = some (.row 0 (mcells (reachR f n x s)) 0 true) := fun L => by simp [own_get]
    have g3 : ∀ (m : Nat → Bool), (H ++ [.row 0 (gcells f) 0 true, .row 0 (mcells fun _ => false) 0 true, .row 0 (mcells (reachR f n x s)) 0 true, .row 0 (mcells m) 0 true])[H.length + 3]? = some (.row 0 (mcells m) 0 true) := fun m => by simp [own_get]
    rw [wp_round c45_l2.eq_1]
    simp [go_sem, hlt, loadMM (g2 [])]
    rw [storeMM (g3 _) (by omega)]
    simp [go_sem, own_set]
    have e : H ++ [Blk.row 0 (gcells f) 0 true, .row 0 (mcells fun _ => false) 0 true, .row 0 (mcells (reachR f n x s)) 0 true, .row 0 (mcells (reachR f n x s)) 0 true]
        = (H ++ [Blk.row 0 (gcells f) 0 true, .row 0 (mcells fun _ => false) 0 true, .row 0 (mcells (reachR f n x s)) 0 true, .row 0 (mcells (reachR f n x s)) 0 true]).set (H.length + 3) (.row 0 (mcells (nextR f n (reachR f n x s) 0)) 0 true) := by rw [own_set, nextR_zero]; rfl
    rw [e]
    refine l45b (H := H ++ [Blk.row 0 (gcells f) 0 true, .row 0 (mcells fun _ => false) 0 true, .row 0 (mcells (reachR f n x s)) 0 true, .row 0 (mcells (reachR f n x s)) 0 true]) (f := f) (met := reachR f n x s) (cs := mcells (reachR f n x s)) (i4 := H.length) (i9 := H.length + 2) (i10 := H.length + 3) (by simp [own_get0]) (g2 _) (g3 _) (by omega) (by omega) hn (by omega) n 0 (by omega) ?_
    rw [own_set]
    simp [go_sem]
    have g3' := g3 (nextR f n (reachR f n x s) n)
    simp [go_sem, loadMM g3']
    rw [storeMM (g2 _) (by omega)]
    simp [go_sem, own_set, i64_suc (show s < 1000000 by omega)]
    exact next
theorem k45 {n x steps : Nat} {f : Nat → Nat → Bool} (hn : n ≤ 7) (hx : x < 7) (hst : steps < 1000) (hbar : bar ≤ H.length) (h : Q (.agg (mcells (reachR f n x steps))) H) :
    WpCall E pure base bar 45 [.agg (gcells f), .int .i64 (n : Nat), .int .i64 (x : Nat), .int .i64 (steps : Nat)] H Q := by
  rw [call45]
  have hb' := bar_ok (pure := pure) hbar
  simp [go_sem, WpFun, c45, frz_g] at hb' ⊢
  generalize (if pure = true then H.length else bar) = bar' at hb' ⊢
  have g2 : (H ++ [Blk.row 0 (gcells f) 0 true, .row 0 (mcells fun _ => false) 0 true, .row 0 (mcells fun _ => false) 0 true])[H.length + 2]? = some (.row 0 (mcells fun _ => false) 0 true) := by simp [own_get]
  simp [go_sem, hx]
  rw [storeM g2 hx (by omega)]
  have e0 : updB (fun _ => false) x true = reachR f n x 0 := by funext j; simp [updB, reachR]
  simp [go_sem, own_set, e0]
  refine l45 hn hst hb' steps 0 (by omega) ?_
  have g2' : (H ++ [Blk.row 0 (gcells f) 0 true, .row 0 (mcells fun _ => false) 0 true, .row 0 (mcells (reachR f n x steps)) 0 true])[H.length + 2]? = some (.row 0 (mcells (reachR f n x steps)) 0 true) := by simp [own_get]
  have g1' : (H ++ [Blk.row 0 (gcells f) 0 true, .row 0 (mcells fun _ => false) 0 true, .row 0 (mcells (reachR f n x steps)) 0 true])[H.length + 1]? = some (.row 0 (mcells fun _ => false) 0 true) := by simp [own_get]
  simp [go_sem, loadMM g2']
  rw [storeMM g1' (by omega)]
  have g1'' : (H ++ [Blk.row 0 (gcells f) 0 true, .row 0 (mcells (reachR f n x steps)) 0 true, .row 0 (mcells (reachR f n x steps)) 0 true])[H.length + 1]? = some (.row 0 (mcells (reachR f n x steps)) 0 true) := by simp [own_get]
  simp [go_sem, own_set, loadMM g1'']
  rw [plains (d := 5) mcells_plain]
  simp [go_sem]
  exact h

/-! what it says -/
theorem nextR_iff {f : Nat → Nat → Bool} {n j : Nat} {met : Nat → Bool} : nextR f n met n j = true ↔ met j = true ∨ j < n ∧ ∃ x, x < n ∧ met x = true ∧ f x j = true := by
  unfold nextR
  simp [List.any_eq_true, Bool.or_eq_true, Bool.and_eq_true]
section
variable {n x : Nat} {f : Nat → Nat → Bool} {w : Nat → Nat}
theorem reachR_mono {k j : Nat} (h : reachR f n x k j = true) : reachR f n x (k + 1) j = true := nextR_iff.2 (.inl h)
theorem reachR_lt (hx : x < n) : ∀ {k j : Nat}, reachR f n x k j = true → j < n
  | 0, j, h => by simp [reachR] at h; omega
  | k + 1, j, h => by
    rcases nextR_iff.1 h with h | h
    · exact reachR_lt hx h
    · exact h.1
theorem reachR_sound (hw : ∀ x y, (w x).testBit y = f x y) : ∀ {k j : Nat}, reachR f n x k j = true → Rch w x j
  | 0, j, h => by
    simp [reachR] at h
    subst h; exact .refl
  | k + 1, j, h => by
    rcases nextR_iff.1 h with h | ⟨_, y, _, h1, h2⟩
    · exact reachR_sound hw h
    · exact .step (reachR_sound hw h1) (by rw [hw]; exact h2)
def closedR (f : Nat → Nat → Bool) (n x k : Nat) : Prop := ∀ a b, a < n → b < n → reachR f n x k a = true → f a b = true → reachR f n x k b = true
theorem closed_or (hx : x < n) : ∀ k, closedR f n x k ∨ k + 1 ≤ ((List.range n).filter (reachR f n x k)).length
  | 0 => .inr (List.length_pos_of_mem (a := x) (List.mem_filter.2 ⟨List.mem_range.2 hx, by simp [reachR]⟩))
  | k + 1 => by
    by_cases hc : closedR f n x k
    · left
      intro a b ha hb hr hf
      rcases nextR_iff.1 hr with hr | ⟨_, y, hy, h1, h2⟩
      · exact reachR_mono (hc a b ha hb hr hf)
      · exact reachR_mono (hc a b ha hb (hc y a hy ha h1 h2) hf)
    · right
      have hcount := (closed_or hx k).resolve_left hc
      have hex : ∃ b, b < n ∧ reachR f n x (k + 1) b = true ∧ reachR f n x k b = false := by
        apply Decidable.byContradiction
        intro hno
        refine hc fun a b ha hb hr hf => ?_
        cases hrb : reachR f n x k b
        · exact absurd ⟨b, hb, nextR_iff.2 (.inr ⟨hb, a, ha, hr, hf⟩), hrb⟩ hno
        · rfl
      obtain ⟨b, b1, b2, b3⟩ := hex
      have := sub_len (l := b :: (List.range n).filter (reachR f n x k)) (m := (List.range n).filter (reachR f n x (k + 1))) (by
        rw [List.nodup_cons]
        exact ⟨fun hm => (by rw [(List.mem_filter.1 hm).2] at b3; cases b3), List.nodup_range.filter _⟩) fun y hy => by
          rcases List.mem_cons.1 hy with rfl | hy
          · exact List.mem_filter.2 ⟨List.mem_range.2 b1, b2⟩
          · obtain ⟨h1, h2⟩ := List.mem_filter.1 hy
            exact List.mem_filter.2 ⟨h1, reachR_mono h2⟩
      rw [List.length_cons] at this
      omega
theorem reach_start : ∀ {k : Nat}, reachR f n x k x = true
  | 0 => by simp [reachR]
  | k + 1 => reachR_mono reach_start
theorem reach_all (hx : x < n) (hbd : BoardW n w) (hw : ∀ x y, (w x).testBit y = f x y) {j : Nat} : reachR f n x n j = true ↔ Rch w x j := by
  have hc : closedR f n x n := by
    rcases closed_or (f := f) hx n with h | h
    · exact h
    · have := List.length_filter_le (reachR f n x n) (List.range n)
      rw [List.length_range] at this
      omega
  refine ⟨reachR_sound hw, fun h => ?_⟩
  induction h with
  | refl => exact reach_start
  | step h1 h2 ih =>
    have hd := hbd.dom _ _ h2
    exact hc _ _ hd.1 hd.2 ih (by rw [← hw]; exact h2)
end
end Go.Proofs.Ytnlebofipoepfaa.Code
end
