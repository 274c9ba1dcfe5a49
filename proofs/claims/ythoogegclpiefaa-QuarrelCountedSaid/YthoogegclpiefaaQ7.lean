/-
  Parts of the proofs about this chapter, joined: contracts of functions and plain laws.
-/
import Derived.Test.YthoogegclpiefaaQ6
set_option linter.all false
section
namespace Go.Proofs.Ythoogegclpiefaa.Code
open Go Go.Ab

/-! a list of people as a set -/
def setOf : List Nat → Nat
  | [] => 0
  | x :: r => bor (setOf r) (pw x)
theorem setOf_lt : ∀ {l : List Nat}, (∀ x ∈ l, x < 8) → setOf l < 256
  | [], _ => by decide
  | x :: r, h => bor_lt (setOf_lt fun y hy => h y (List.mem_cons_of_mem _ hy)) (pw_lt (h x (List.mem_cons_self ..)))
theorem setOf_bit : ∀ {l : List Nat} {y : Nat}, (setOf l).testBit y = true ↔ y ∈ l
  | [], y => by simp [setOf]
  | x :: r, y => by
    rw [setOf, testBit_bor, Bool.or_eq_true, setOf_bit, testBit_pw, decide_eq_true_eq, List.mem_cons]
    constructor
    · rintro (h | h)
      · exact .inr h
      · exact .inl h.symm
    · rintro (h | h)
      · exact .inr h.symm
      · exact .inl h
theorem setOf_len : ∀ {l : List Nat}, l.Nodup → (∀ x ∈ l, x < 8) → (bitsOf (setOf l)).length = l.length
  | [], _, _ => by decide
  | x :: r, hn, h => by
    rw [List.nodup_cons] at hn
    have hb : (setOf r).testBit x = false := by
      cases hc : (setOf r).testBit x
      · rfl
      · exact absurd (setOf_bit.1 hc) hn.1
    rw [setOf, bits_put _ (setOf_lt fun y hy => h y (List.mem_cons_of_mem _ hy)) x (h x (List.mem_cons_self ..)) hb, setOf_len hn.2 fun y hy => h y (List.mem_cons_of_mem _ hy)]
    rfl
/-- any who all quarrel are at most as many as the largest brawl -/
theorem clique_le {n : Nat} {w : Nat → Nat} (h : RoomW n w) (hn : n ≤ 8) {C : List Nat} (hC : ∀ x ∈ C, x < n) (hnd : C.Nodup) (hp : C.Pairwise fun x y => (w x).testBit y = true) : C.length ≤ (largestS n w).length := by
  cases C with
  | nil => simp
  | cons c r =>
    have h8 : ∀ x ∈ c :: r, x < 8 := fun x hx => by have := hC x hx; omega
    rw [← setOf_len hnd h8]
    refine largest_max ?_ (lt_pw fun i hi => hC i (setOf_bit.1 hi)) ((brawl_iff h (setOf_lt h8)).2 fun x y hx hy hxy => ?_)
    · apply Decidable.byContradiction
      intro hc
      have := setOf_bit.2 (List.mem_cons_self (a := c) (l := r))
      rw [show setOf (c :: r) = 0 by omega] at this
      simp at this
    · exact pairwise_all (P := fun x y => (w x).testBit y = true) (fun x y hp => by rw [h.sym]; exact hp) hp x (setOf_bit.1 hx) y (setOf_bit.1 hy) hxy

/-! the sum of 1 / (n - d) -/
def nonG (f : Nat → Nat → Bool) (S : List Nat) (v : Nat) : Nat := (S.filter fun u => !f v u).length
def sumG (g : Nat → Nat) : List Nat → Nat
  | [] => 0
  | x :: r => g x + sumG g r
theorem sumG_split {g : Nat → Nat} {p : Nat → Bool} : ∀ {l : List Nat}, sumG g l = sumG g (l.filter fun u => !p u) + sumG g (l.filter p)
  | [] => rfl
  | x :: r => by
    rw [sumG, sumG_split (p := p) (l := r), List.filter_cons, List.filter_cons]
    cases p x <;> simp [sumG] <;> omega
theorem sumG_le {g : Nat → Nat} {c : Nat} : ∀ {l : List Nat}, (∀ x ∈ l, g x ≤ c) → sumG g l ≤ l.length * c
  | [], _ => by simp [sumG]
  | x :: r, h => by
    have h1 := sumG_le (l := r) fun y hy => h y (List.mem_cons_of_mem _ hy)
    have h2 := h x (List.mem_cons_self ..)
    rw [sumG, List.length_cons, Nat.succ_mul]; omega
theorem sumG_mono {g g' : Nat → Nat} : ∀ {l : List Nat}, (∀ x ∈ l, g x ≤ g' x) → sumG g l ≤ sumG g' l
  | [], _ => Nat.le_refl _
  | x :: r, h => by
    have h1 := sumG_mono (l := r) fun y hy => h y (List.mem_cons_of_mem _ hy)
    have h2 := h x (List.mem_cons_self ..)
    simp only [sumG]; omega
theorem exists_least {g : Nat → Nat} : ∀ {l : List Nat}, l ≠ [] → ∃ v ∈ l, ∀ u ∈ l, g v ≤ g u
  | [x], _ => ⟨x, List.mem_cons_self .., fun u hu => by simp at hu; subst hu; exact Nat.le_refl _⟩
  | x :: y :: r, _ => by
    obtain ⟨v, hv, hm⟩ := exists_least (g := g) (l := y :: r) (by simp)
    by_cases hx : g x ≤ g v
    · exact ⟨x, List.mem_cons_self .., fun u hu => by
        rcases List.mem_cons.1 hu with rfl | hu
        · exact Nat.le_refl _
        · exact Nat.le_trans hx (hm u hu)⟩
    · exact ⟨v, List.mem_cons_of_mem _ hv, fun u hu => by
        rcases List.mem_cons.1 hu with rfl | hu
        · omega
        · exact hm u hu⟩
theorem filter_filter_len {p q : Nat → Bool} {l : List Nat} : ((l.filter p).filter q).length ≤ (l.filter q).length := by
  have e : (l.filter p).filter q = (l.filter q).filter p := by
    rw [List.filter_filter, List.filter_filter]
    apply List.filter_congr
    intro x _
    exact Bool.and_comm ..
  rw [e]
  exact List.length_filter_le ..
theorem len_split {p : Nat → Bool} : ∀ {l : List Nat}, l.length = (l.filter p).length + (l.filter fun u => !p u).length
  | [] => rfl
  | x :: r => by
    have := len_split (p := p) (l := r)
    rw [List.filter_cons, List.filter_cons, List.length_cons]
    cases p x <;> simp <;> omega
theorem caro {f : Nat → Nat → Bool} (hirr : ∀ x, f x x = false) : ∀ (k : Nat) (S : List Nat), S.length ≤ k → S.Nodup → ∃ C : List Nat, (∀ x ∈ C, x ∈ S) ∧ C.Nodup ∧ (C.Pairwise fun x y => f x y = true) ∧ sumG (fun v => 840 / nonG f S v) S ≤ 840 * C.length
  | 0, S, h, _ => by
    obtain rfl : S = [] := List.length_eq_zero_iff.1 (by omega)
    exact ⟨[], by simp, .nil, .nil, by simp [sumG]⟩
  | k + 1, S, h, hnd => by
    by_cases hS : S = []
    · subst hS; exact ⟨[], by simp, .nil, .nil, by simp [sumG]⟩
    obtain ⟨v, hv, hm⟩ := exists_least (g := nonG f S) hS
    have hpos : 0 < nonG f S v := by
      unfold nonG
      exact List.length_pos_iff.2 (List.ne_nil_of_mem (List.mem_filter.2 ⟨hv, by simp [hirr]⟩))
    have hlen : (S.filter (f v)).length < S.length := by
      have := len_split (p := f v) (l := S)
      unfold nonG at hpos
      omega
    obtain ⟨C, c1, c2, c3, c4⟩ := caro hirr k (S.filter (f v)) (by omega) (hnd.filter _)
    refine ⟨v :: C, fun x hx => ?_, ?_, ?_, ?_⟩
    · rcases List.mem_cons.1 hx with rfl | hx
      · exact hv
      · exact (List.mem_filter.1 (c1 x hx)).1
    · rw [List.nodup_cons]
      refine ⟨fun hc => ?_, c2⟩
      have := (List.mem_filter.1 (c1 v hc)).2
      rw [hirr] at this; cases this
    · rw [List.pairwise_cons]
      exact ⟨fun y hy => (List.mem_filter.1 (c1 y hy)).2, c3⟩
    · rw [sumG_split (p := f v), List.length_cons]
      have h1 : sumG (fun v => 840 / nonG f S v) (S.filter fun u => !f v u) ≤ nonG f S v * (840 / nonG f S v) := by
        refine sumG_le fun x hx => ?_
        exact Nat.div_le_div_left (hm x (List.mem_filter.1 hx).1) hpos
      have h2 : nonG f S v * (840 / nonG f S v) ≤ 840 := Nat.mul_div_le ..
      have h3 : sumG (fun v => 840 / nonG f S v) (S.filter (f v)) ≤ sumG (fun u => 840 / nonG f (S.filter (f v)) u) (S.filter (f v)) := by
        refine sumG_mono fun u hu => Nat.div_le_div_left filter_filter_len ?_
        unfold nonG
        exact List.length_pos_iff.2 (List.ne_nil_of_mem (List.mem_filter.2 ⟨hu, by simp [hirr]⟩))
      omega
theorem caro_le {n : Nat} {w : Nat → Nat} (h : RoomW n w) (hn : n ≤ 8) : sumG (fun v => 840 / (n - degW w v)) (List.range n) ≤ 840 * (largestS n w).length := by
  obtain ⟨C, c1, c2, c3, c4⟩ := caro (f := wf w) (fun x => h.irr x) n (List.range n) (by simp) List.nodup_range
  have := clique_le h hn (fun x hx => List.mem_range.1 (c1 x hx)) c2 c3
  refine Nat.le_trans (Nat.le_trans (sumG_mono fun x hx => ?_) c4) (Nat.mul_le_mul_left _ this)
  have e : nonG (wf w) (List.range n) x = n - degW w x := by
    rw [← oft_deg h hn]
    unfold nonG oftG
    have := len_split (p := wf w x) (l := List.range n)
    rw [List.length_range] at this
    omega
  rw [e]
  exact Nat.le_refl _
end Go.Proofs.Ythoogegclpiefaa.Code
end

section
namespace Go.Proofs.Ythoogegclpiefaa.Code
open Go Go.Ab
variable {pure : Bool} {base bar : Nat} {H : Heap} {Q : AV → Heap → Prop}

/-- how many brawls of each size, among the first sets -/
def cntS (w : Nat → Nat) (k : Nat) : Nat → Nat := fun size => ((List.range' 1 k).filter fun s => decide ((bitsOf s).length = size) && brawlS w s).length
theorem cntS_zero {w : Nat → Nat} : cntS w 0 = fun _ => 0 := by funext x; rfl
theorem cntS_le {w : Nat → Nat} {k x : Nat} : cntS w k x ≤ k := Nat.le_trans (List.length_filter_le _ _) (by simp)
theorem cntS_skip {w : Nat → Nat} {k : Nat} (h : brawlS w (k + 1) = false) : cntS w (k + 1) = cntS w k := by
  funext x
  unfold cntS
  rw [List.range'_1_concat, List.filter_append, List.length_append, Nat.add_comm 1 k]
  simp [h]
theorem cntS_put {w : Nat → Nat} {k : Nat} (h : brawlS w (k + 1) = true) : cntS w (k + 1) = upd (cntS w k) (bitsOf (k + 1)).length (cntS w k (bitsOf (k + 1)).length + 1) := by
  funext x
  unfold cntS upd
  rw [List.range'_1_concat, List.filter_append, List.length_append, Nat.add_comm 1 k]
  by_cases hx : x = (bitsOf (k + 1)).length
  · rw [if_pos hx]; subst hx; simp [h]
  · rw [if_neg hx]; simp [h, Ne.symm hx]
theorem cntS_count {n : Nat} {w : Nat → Nat} {size : Nat} : countS n w (size : Int) = cntS w (pw n - 1) size := by
  unfold countS cntS
  congr 1
  apply List.filter_congr
  intro s _
  simp only [natEq]

theorem l7a {i3 id id2 n : Nat} {w : Nat → Nat} {cs : List AV} (hid : H[id]? = some (.row 0 (gcells (wf w)) 0 true)) (hid2 : H[id2]? = some (.row 0 cs 0 true)) (hne : id ≠ id2) (hw : RoomW n w) (hn : n ≤ 8) (hb : bar ≤ H.length) (hb2 : bar ≤ id2) {R : PQ} :
    ∀ (k s : Nat), s + 1 + k = pw n →
    R (.exit 0) [(3, .ptr i3 0 0), (4, .ptr id 0 0), (5, .int .i64 (n : Nat)), (6, .ptr id2 0 0), (7, .int .i64 (pw n : Nat)), (29, .bool false)] (H.set id2 (.row 0 (fcells 9 (cntS w (pw n - 1))) 0 true)) →
    Wp E base bar (.loop c7_l0) [(3, .ptr i3 0 0), (4, .ptr id 0 0), (5, .int .i64 (n : Nat)), (6, .ptr id2 0 0), (7, .int .i64 ((s + 1 : Nat) : Int))] (H.set id2 (.row 0 (fcells 9 (cntS w s)) 0 true)) R := by
  intro k
  induction k with
  | zero =>
    intro s hs h
    have e : s + 1 = pw n := by omega
    rw [show pw n - 1 = s by omega] at h
    rw [e]
    rw [wp_round c7_l0.eq_1]
    simp [go_sem, shl_i64 (show n < 62 by omega)]
    exact h
  | succ k ih =>
    intro s hs h
    have := pw_le hn
    have h8 : s + 1 < 256 := by omega
    have hlt : s + 1 < pw n := by omega
    have hbl := bits_len (s + 1)
    have hcl : ∀ x, cntS w s x ≤ 256 := fun x => Nat.le_trans cntS_le (by omega)
    have g1 : ∀ f, (H.set id2 (.row 0 (fcells 9 f) 0 true))[id]? = some (.row 0 (gcells (wf w)) 0 true) := fun f => by rw [List.getElem?_set_ne (Ne.symm hne)]; exact hid
    have g2 : ∀ f, (H.set id2 (.row 0 (fcells 9 f) 0 true))[id2]? = some (.row 0 (fcells 9 f) 0 true) := fun f => set_get hid2
    have hx := ih (s + 1) (by omega) h
    have hsk := cntS_skip (w := w) (k := s)
    have hpt := cntS_put (w := w) (k := s)
    generalize s + 1 = t at *
    rw [wp_round c7_l0.eq_1]
    simp [go_sem, shl_i64 (show n < 62 by omega), hlt]
    refine k41 h8 (by simpa using hb) ?_
    have hov : isL (outL 1 (nats (bitsOf t))) (bitsOf t) := isL.out
    generalize outL 1 (nats (bitsOf t)) = ov at hov
    simp [go_sem, loadGG (g1 _)]
    refine k42 hov (by omega) (fun y hy => bits_lt hy) ?_
    rw [brawl_okG hw h8]
    cases h2 : brawlS w t
    · rw [hsk h2] at hx
      simp [go_sem, i64_suc (show t < 1000000 by omega)]
      exact hx
    · rw [hpt h2] at hx
      have hi9 : (bitsOf t).length < 9 := by omega
      simp [go_sem, hov.len, hi9, loadF (g2 _) hi9, i64_suc (show cntS w s (bitsOf t).length < 1000000 by have := hcl (bitsOf t).length; omega)]
      have e1 : ((cntS w s (bitsOf t).length : Nat) : Int) + 1 = ((cntS w s (bitsOf t).length + 1 : Nat) : Int) := by omega
      rw [e1, storeF (g2 _) hi9 (by omega) hb2]
      simp [go_sem, i64_suc (show t < 1000000 by omega)]
      exact hx

theorem l7b {q : AV} {l : List ZZ} {i4 id2 n : Nat} {w : Nat → Nat} {i3 : Nat} (hq : isP q l) (hl : l.length < 1000) (ho : openS n l = .room w) (hid2 : H[id2]? = some (.row 0 (fcells 9 (cntS w (pw n - 1))) 0 true)) (h3 : aload H ⟨true, 2⟩ (.ptr i3 0 0) = some (.agg [.int .i64 (n : Nat), q]))
    (hb : bar ≤ H.length) {R : PQ} :
    ∀ (k size : Nat), size + k = 9 → 1 ≤ size →
    R (.exit 2) [(3, .ptr i3 0 0), (4, .ptr i4 0 0), (5, .int .i64 (n : Nat)), (6, .ptr id2 0 0), (9, .int .i64 9), (44, .bool false)] H →
    Wp E base bar (.loop c7_l1) [(3, .ptr i3 0 0), (4, .ptr i4 0 0), (5, .int .i64 (n : Nat)), (6, .ptr id2 0 0), (9, .int .i64 (size : Nat))] H R := by
  intro k
  induction k with
  | zero =>
    intro size hs h1 h
    obtain rfl : size = 9 := by omega
    rw [wp_round c7_l1.eq_1]
    simp [go_sem]
    exact h
  | succ k ih =>
    intro size hs h1 h
    have hx := ih (size + 1) (by omega) (by omega) h
    have h8 : size < 9 := by omega
    have h8' : (size : Int) ≤ 8 := by omega
    rw [wp_round c7_l1.eq_1]
    simp [go_sem, h8', h3]
    refine k43 hq hl hb (fun e he => by rw [ho] at he; cases he) (fun m w' hm _ _ _ he hr => absurd hr (by simp [within]; omega)) (fun m w' hm _ _ _ he hr => ?_)
    rw [ho] at he; cases he
    obtain rfl : n = m := by omega
    rw [cntS_count]
    simp [go_sem, h8, loadF hid2 h8, i64_suc (show size < 1000000 by omega)]
    exact hx
end Go.Proofs.Ythoogegclpiefaa.Code
end

section
namespace Go.Proofs.Ythoogegclpiefaa.Code
open Go Go.Ab
variable {pure : Bool} {base bar : Nat} {H : Heap} {Q : AV → Heap → Prop}

theorem subs_one : ∀ n, n ≤ 8 → subs n 1 0 = (List.range n).map fun x => [x] := by decide
theorem subs_two : ∀ n, n ≤ 8 → subs n 2 0 = (List.range n).flatMap fun x => (List.range' (x + 1) (n - (x + 1))).map fun y => [x, y] := by decide
theorem count_one {n : Nat} {l : List ZZ} {w : Nat → Nat} (ho : openS (n : Int) l = .room w) (hn : n ≤ 8) : cntS w (pw n - 1) 1 = n := by
  rw [← cntS_count (n := n) (size := 1), agree_count (m := n) rfl ho 1 (by omega) (by omega), brawlsR_subs, List.length_map, show fromOf [] = 0 from rfl, subs_one n hn, List.filter_map, List.length_map]
  rw [List.filter_eq_self.2 (fun x _ => by simp [ok])]
  simp
theorem two_len {l : List ZZ} {p : Nat → Nat → Bool} {f : Nat → List Nat} : ∀ {L : List Nat}, ((L.flatMap fun x => (f x).map fun y => [x, y]).filter fun s => match s with
      | [x, y] => p x y
      | _ => true).length = (L.flatMap fun x => ((f x).filter (p x)).map fun (y : Nat) => ((x : Int), (y : Int))).length
  | [] => rfl
  | x :: r => by
    rw [List.flatMap_cons, List.filter_append, List.length_append, List.flatMap_cons, List.length_append, two_len (l := l), List.filter_map, List.length_map, List.length_map]
    rfl
theorem count_two {n : Nat} {l : List ZZ} {w : Nat → Nat} (ho : openS (n : Int) l = .room w) (hn : n ≤ 8) (h1 : 1 ≤ n) : cntS w (pw n - 1) 2 = l.length := by
  have hr := openS_room (m := n) rfl ho
  obtain ⟨_, _, _, ht, _, _⟩ := openS_facts (m := n) rfl ho
  rw [← cntS_count (n := n) (size := 2), agree_count (m := n) rfl ho 2 (by omega) (by omega), brawlsR_subs, List.length_map, show fromOf [] = 0 from rfl, subs_two n hn]
  have e1 := two_len (l := l) (p := fun x y => qin l (x : Int) (y : Int)) (f := fun x => List.range' (x + 1) (n - (x + 1))) (L := List.range n)
  have e2 : ((List.range n).flatMap fun x => (List.range' (x + 1) (n - (x + 1))).map fun y => [x, y]).filter (ok l []) = ((List.range n).flatMap fun x => (List.range' (x + 1) (n - (x + 1))).map fun y => [x, y]).filter fun s => match s with
      | [x, y] => qin l (x : Int) (y : Int)
      | _ => true := by
    apply List.filter_congr
    intro s hs
    simp only [List.mem_flatMap, List.mem_map] at hs
    obtain ⟨x, _, y, _, rfl⟩ := hs
    simp [ok]
  rw [e2, e1]
  have e3 : ((List.range n).flatMap fun x => ((List.range' (x + 1) (n - (x + 1))).filter ((fun (x y : Nat) => qin l (x : Int) (y : Int)) x)).map fun (y : Nat) => ((x : Int), (y : Int))) = houseS n w := by
    rw [houseS_enum hr hn]
    exact enumR_congr fun x y _ _ => (ht x y (by omega) (by omega)).symm
  rw [e3, ← quarrels_len (m := n) rfl (open_house hr h1 hn), quarrels_len (m := n) rfl ho]
theorem deg_lt {n x : Nat} {w : Nat → Nat} (h : RoomW n w) (hn : n ≤ 8) (hx : x < n) : degW w x < n := by
  rw [← oft_deg h hn]
  have := len_split (p := wf w x) (l := List.range n)
  rw [List.length_range] at this
  have h2 : 0 < ((List.range n).filter fun u => !wf w x u).length := List.length_pos_iff.2 (List.ne_nil_of_mem (List.mem_filter.2 ⟨List.mem_range.2 hx, by simp [wf, h.irr]⟩))
  unfold oftG
  omega
theorem sumG_append {g : Nat → Nat} : ∀ {l r : List Nat}, sumG g (l ++ r) = sumG g l + sumG g r
  | [], r => by simp [sumG]
  | x :: l, r => by rw [List.cons_append, sumG, sumG, sumG_append]; omega
theorem sumG_range {g : Nat → Nat} : ∀ {n : Nat}, sumG g (List.range n) = sumN g n
  | 0 => rfl
  | n + 1 => by rw [List.range_succ, sumG_append, sumG_range, sumN]; simp [sumG]
theorem quoN {a b : Nat} (h : a < 1000000) (hb : 1 ≤ b) : abin .quo (.int .i64 (a : Int)) (.int .i64 (b : Int)) = some (.int .i64 ((a / b : Nat) : Int)) := by
  rw [abin_quo (by omega), Go.IntWalk.i64_quo _ _ ⟨by omega, by omega, by omega⟩]
  congr 2

def partS (n : Nat) (w : Nat → Nat) : Nat → Nat := fun v => 840 / (n - degW w v)
theorem oftenS_deg {n x : Nat} {w : Nat → Nat} (hx : x < (oftenS n w).length) : (oftenS n w)[x] = degW w x := by
  simp [oftenS, degW]

theorem l7c {lv ov : AV} {i3 i4 i6 n : Nat} {w : Nat → Nat} (hr : RoomW n w) (hn : n ≤ 8) (hid : H[i4]? = some (.row 0 (gcells (wf w)) 0 true)) (hov : isL ov (oftenS n w)) {R : PQ} :
    ∀ (k x : Nat), x + k = n →
    R (.exit 4) [(3, .ptr i3 0 0), (4, .ptr i4 0 0), (5, .int .i64 (n : Nat)), (6, .ptr i6 0 0), (12, lv), (14, ov), (16, .int .i64 (sumN (partS n w) n : Nat)), (17, .int .i64 (degSum n w : Nat)), (92, .int .i64 (n : Nat)), (93, .int .i64 (n : Nat)), (94, .bool false)] H →
    Wp E base bar (.loop c7_l2) [(3, .ptr i3 0 0), (4, .ptr i4 0 0), (5, .int .i64 (n : Nat)), (6, .ptr i6 0 0), (12, lv), (14, ov), (16, .int .i64 (sumN (partS n w) x : Nat)), (17, .int .i64 (sumN (degW w) x : Nat)), (92, .int .i64 (n : Nat)), (93, .int .i64 (x : Nat))] H R := by
  intro k
  induction k with
  | zero =>
    intro x hx h
    obtain rfl : x = n := by omega
    rw [wp_round c7_l2.eq_1]
    simp [go_sem]
    exact h
  | succ k ih =>
    intro x hx h
    have hlt : x < n := by omega
    have hxl : x < (oftenS n w).length := by rw [oftenS_len]; exact hlt
    have hd := deg_lt hr hn hlt
    have s1 : sumN (degW w) x ≤ x * 8 := sumN_le fun y _ => bits_len _
    have s2 : sumN (partS n w) x ≤ x * 840 := sumN_le fun y _ => Nat.div_le_self _ _
    have s3 : partS n w x ≤ 840 := Nat.div_le_self _ _
    have e1 : IntKind.i64.wrap (((sumN (degW w) x : Nat) : Int) + ((degW w x : Nat) : Int)) = ((sumN (degW w) (x + 1) : Nat) : Int) := by
      rw [show ((sumN (degW w) x : Nat) : Int) + ((degW w x : Nat) : Int) = ((sumN (degW w) (x + 1) : Nat) : Int) by simp [sumN], i64_nat (by simp only [sumN]; omega)]
    have e2 : IntKind.i64.wrap (((sumN (partS n w) x : Nat) : Int) + ((partS n w x : Nat) : Int)) = ((sumN (partS n w) (x + 1) : Nat) : Int) := by
      rw [show ((sumN (partS n w) x : Nat) : Int) + ((partS n w x : Nat) : Int) = ((sumN (partS n w) (x + 1) : Nat) : Int) by simp [sumN], i64_nat (by simp only [sumN]; omega)]
    have e3 : IntKind.i64.wrap ((n : Int) - ((degW w x : Nat) : Int)) = ((n - degW w x : Nat) : Int) := by
      rw [show (n : Int) - ((degW w x : Nat) : Int) = ((n - degW w x : Nat) : Int) by omega, i64_nat (by omega)]
    have e4 : abin .quo (.int .i64 840) (.int .i64 ((n - degW w x : Nat) : Int)) = some (.int .i64 ((partS n w x : Nat) : Int)) := quoN (a := 840) (by omega) (by omega)
    have e5 := oftenS_deg hxl
    have hx2 := ih (x + 1) (by omega) h
    have hd8 : degW w x ≤ 8 := bits_len _
    generalize hdd : degW w x = d at *
    generalize hnd : n - d = nd at *
    rw [wp_round c7_l2.eq_1]
    simp [go_sem, hlt, loadGG hid, hov.ix hxl, e5]
    refine k39 hn (by omega) ?_
    rw [oft_deg hr hn, hdd]
    simp [go_sem, hov.ix hxl, e5, e3, e4, e2, e1, i64_suc (show x < 1000000 by omega)]
    exact hx2
end Go.Proofs.Ythoogegclpiefaa.Code
end

section
namespace Go.Proofs.Ythoogegclpiefaa.Code
open Go Go.Ab

set_option maxRecDepth 4000 in
theorem law7 {p bits : Nat} (hp : p < 256) (hbits : bits < 4294967296) :
    WpCall E false 0 0 7 [.agg [.int .u8 (p : Nat), .int .u32 (bits : Nat)]] [] (fun v _ => v = .bool true) := by
  rw [call7]
  have e0 : aload [Blk.row 0 [AV.int .u8 (p : Nat), .int .u32 (bits : Nat)] 0 true] ⟨true, 2⟩ (.ptr 0 0 0) = some (.agg [.int .u8 (p : Nat), .int .u32 (bits : Nat)]) := rfl
  simp [go_sem, WpFun, c7, e0]
  refine k35 (most := 8) (n := 1 + p % 8) hp hbits (by omega) (by omega) (Nat.zero_le _) rfl fun q l w hq hm => ?_
  have hn1 : 1 ≤ 1 + p % 8 := by omega
  have hn8 : 1 + p % 8 ≤ 8 := by omega
  generalize 1 + p % 8 = n at *
  have hr := openS_room (m := n) rfl hm.room
  have hl : l.length < 1000 := by have := hm.len; omega
  have d1 : aload [Blk.row 0 [AV.int .u8 (p : Nat), .int .u32 (bits : Nat)] 0 true, Blk.row 0 [.int .i64 (n : Nat), q] 0 true, Blk.row 0 (gcells (wf w)) 0 true] ⟨false, 1⟩ (.ptr 1 0 0) = some (.int .i64 (n : Nat)) := rfl
  simp [go_sem, storeWp, astore, setCells, hq.cells, hq.top, hq.isTup, gcells_length, gcells_over, d1]
  have hpw : 1 ≤ pw n := Nat.one_le_two_pow
  have z9 : [AV.int .i64 0, .int .i64 0, .int .i64 0, .int .i64 0, .int .i64 0, .int .i64 0, .int .i64 0, .int .i64 0, .int .i64 0] = fcells 9 (cntS w 0) := by rw [cntS_zero]; rfl
  rw [z9]
  have e4 : ∀ f, [Blk.row 0 [AV.int .u8 (p : Nat), .int .u32 (bits : Nat)] 0 true, Blk.row 0 [.int .i64 (n : Nat), q] 0 true, Blk.row 0 (gcells (wf w)) 0 true, Blk.row 0 (fcells 9 (cntS w 0)) 0 true].set 3 (.row 0 (fcells 9 f) 0 true)
      = [Blk.row 0 [AV.int .u8 (p : Nat), .int .u32 (bits : Nat)] 0 true, Blk.row 0 [.int .i64 (n : Nat), q] 0 true, Blk.row 0 (gcells (wf w)) 0 true, Blk.row 0 (fcells 9 f) 0 true] := fun f => rfl
  have e5 := e4 (cntS w 0)
  rw [← e5]
  refine l7a (cs := fcells 9 (cntS w 0)) rfl rfl (by omega) hr hn8 (Nat.zero_le _) (Nat.zero_le _) (pw n - 1) 0 (by omega) ?_
  rw [e4]
  obtain ⟨Hc, hHc⟩ : ∃ Hc, Hc = [Blk.row 0 [AV.int .u8 (p : Nat), .int .u32 (bits : Nat)] 0 true, Blk.row 0 [.int .i64 (n : Nat), q] 0 true, Blk.row 0 (gcells (wf w)) 0 true, Blk.row 0 (fcells 9 (cntS w (pw n - 1))) 0 true] := ⟨_, rfl⟩
  rw [← hHc]
  have g1 : Hc[1]? = some (Blk.row 0 [.int .i64 (n : Nat), q] 0 true) := by rw [hHc]; rfl
  have g2 : Hc[2]? = some (Blk.row 0 (gcells (wf w)) 0 true) := by rw [hHc]; rfl
  have g3 : Hc[3]? = some (Blk.row 0 (fcells 9 (cntS w (pw n - 1))) 0 true) := by rw [hHc]; rfl
  clear hHc
  have f1 : aload Hc ⟨true, 2⟩ (.ptr 1 0 0) = some (.agg [.int .i64 (n : Nat), q]) := by rw [aload_ptr g1]; rfl
  have f1q : aload Hc ⟨false, 1⟩ (.ptr 1 0 1) = some q := by rw [aload_ptr g1]; rfl
  simp [go_sem]
  refine l7b hq hl hm.room g3 f1 (Nat.zero_le _) 8 1 (by omega) (by omega) ?_
  simp [go_sem, f1]
  refine k37 hq hl (Nat.zero_le _) (fun e' he => by rw [hm.room] at he; cases he) (fun m' w' hm' _ _ _ he lv hlv => ?_)
  rw [hm.room] at he; cases he
  obtain rfl : n = m' := by omega
  simp [go_sem, f1]
  refine k44 hq hl (Nat.zero_le _) (fun e' he => by rw [hm.room] at he; cases he) (fun m' w' hm' _ _ _ he ov hov => ?_)
  rw [hm.room] at he; cases he
  obtain rfl : n = m' := by omega
  simp [go_sem, loadGG g2]
  refine k38 hr hn8 (Nat.zero_le _) fun lv2 hlv2 => ?_
  simp [go_sem]
  have hll : (largestS n w).length ≤ 8 := by
    rcases largest_is (n := n) (w := w) with h | ⟨s, _, _, _, h⟩
    · rw [h]; simp
    · rw [h]; exact bits_len s
  refine k22 hlv hlv2 (by omega) (by omega) ?_
  simp [go_sem, hov.len, oftenS_len]
  refine l7c hr hn8 g2 hov n 0 (by omega) ?_
  have hsum := degSum_len (m := n) rfl hm.room
  have hcaro := caro_le hr hn8
  rw [sumG_range] at hcaro
  have hmul : IntKind.i64.wrap (840 * ((largestS n w).length : Int)) = ((840 * (largestS n w).length : Nat) : Int) := by
    rw [show (840 : Int) * ((largestS n w).length : Int) = ((840 * (largestS n w).length : Nat) : Int) by omega, i64_nat (by omega)]
  have hmul2 : IntKind.i64.wrap (2 * (l.length : Int)) = ((2 * l.length : Nat) : Int) := by
    rw [show (2 : Int) * (l.length : Int) = ((2 * l.length : Nat) : Int) by omega, i64_nat (by omega)]
  have c1 := loadF (s := 1) g3 (show 1 < 9 by omega)
  have c2 := loadF (s := 1) g3 (show 2 < 9 by omega)
  rw [count_one hm.room hn8] at c1
  rw [count_two hm.room hn8 hn1] at c2
  have hcaro' : sumN (partS n w) n ≤ 840 * (largestS n w).length := hcaro
  simp [go_sem, hlv.len, f1q, hq.len, hmul, hmul2]
  refine ⟨by omega, by omega, ?_⟩
  simp [go_sem, c1, c2, f1q, hq.len, call15]
theorem counted_true {p bits : Nat} (hp : p < 256) (hbits : bits < 4294967296) : ∃ f H', acall E f 7 [.agg [.int .u8 (p : Nat), .int .u32 (bits : Nat)]] [] = some (.bool true, H') := by
  obtain ⟨f, v, H', h, rfl⟩ := law7 hp hbits
  exact ⟨f, H', h⟩
end Go.Proofs.Ythoogegclpiefaa.Code
end
