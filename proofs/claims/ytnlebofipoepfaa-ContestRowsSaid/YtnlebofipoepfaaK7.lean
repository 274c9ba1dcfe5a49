/-
  Parts of the proofs about this chapter, joined: contracts of functions and plain laws.
-/
import Derived.Test.YtnlebofipoepfaaK5
import Derived.Test.YtnlebofipoepfaaK6
import Derived.Test.YtnlebofipoepfaaAbArg
set_option linter.all false
section
namespace Go.Proofs.Ytnlebofipoepfaa.Code
open Go Go.Ab
variable {pure : Bool} {base bar : Nat} {H : Heap} {Q : AV → Heap → Prop}

/-! a contest without an error, in general -/
structure OkC (n : Nat) (l : List ZZ) : Prop where
  le : n ≤ 7
  pos : 1 ≤ n
  check : checkS (n : Int) l = 0
theorem MadeC.ok {n bits : Nat} {l : List ZZ} {f : Nat → Nat → Bool} (h : MadeC n bits l f) : OkC n l := ⟨h.le, h.pos, h.check⟩
theorem OkC.of {n : Int} {l : List ZZ} (h : checkS n l = 0) : ∃ m : Nat, n = m ∧ OkC m l := by
  have hr : within 1 7 n = true := by
    unfold checkS at h
    split at h
    · assumption
    · cases h
  simp [within] at hr
  obtain ⟨m, rfl⟩ := Int.eq_ofNat_of_zero_le (show 0 ≤ n by omega)
  exact ⟨m, rfl, by omega, by omega, h⟩
theorem OkC.chk {n : Nat} {l : List ZZ} (h : OkC n l) : chkF (n : Int) [] l = 0 := by
  have hc := h.check
  unfold checkS at hc
  split at hc
  · split at hc
    · assumption
    · exact hc
  · cases hc
theorem OkC.len {n : Nat} {l : List ZZ} (h : OkC n l) : halfN n ≤ l.length := by
  have hc := h.check
  unfold checkS at hc
  have hk := h.chk
  split at hc
  · split at hc
    · cases hc
    · rename_i g; simpa using g
  · cases hc

def codeP (p : ZZ) : Nat := tri (max p.1.toNat p.2.toNat) + min p.1.toNat p.2.toNat
theorem tri_mono {a b : Nat} (h : a ≤ b) : tri a ≤ tri b := by
  induction b with
  | zero => obtain rfl : a = 0 := by omega
            exact Nat.le_refl _
  | succ b ih =>
    by_cases e : a = b + 1
    · subst e; exact Nat.le_refl _
    · have := ih (by omega)
      simp only [tri]; omega
theorem tri_inj {a b c d : Nat} (hb : b < a) (hd : d < c) (h : tri a + b = tri c + d) : a = c ∧ b = d := by
  rcases Nat.lt_trichotomy a c with hl | hl | hl
  · have := tri_mono (show a + 1 ≤ c by omega)
    simp only [tri] at this; omega
  · subst hl; exact ⟨rfl, by omega⟩
  · have := tri_mono (show c + 1 ≤ a by omega)
    simp only [tri] at this; omega
theorem chkF_valid2 {n : Int} : ∀ {l b : List ZZ}, chkF n b l = 0 → ∀ p ∈ l, 0 ≤ p.1 ∧ 0 ≤ p.2 ∧ p.1 < n ∧ p.2 < n ∧ p.1 ≠ p.2 := chkF_valid
theorem chkF_new {n : Int} : ∀ {l b : List ZZ}, chkF n b l = 0 → ∀ p ∈ l, qin b p.1 p.2 = false
  | [], _, _, p, hp => by simp at hp
  | o :: r, b, h, p, hp => by
    simp only [chkF] at h
    split at h
    · cases h
    split at h
    · cases h
    split at h
    · cases h
    rename_i g
    rcases List.mem_cons.1 hp with rfl | hp
    · simpa using g
    · have := chkF_new h p hp
      rw [qin, List.any_append, Bool.or_eq_false_iff] at this
      exact this.1
theorem chkF_codes {n : Int} : ∀ {l b : List ZZ}, chkF n b l = 0 → (l.map codeP).Nodup
  | [], _, _ => List.nodup_nil
  | o :: r, b, h => by
    have hv := chkF_valid h o (List.mem_cons_self ..)
    have hvr := fun p hp => chkF_valid h p (List.mem_cons_of_mem _ hp)
    simp only [chkF] at h
    split at h
    · cases h
    split at h
    · cases h
    split at h
    · cases h
    rw [List.map_cons, List.nodup_cons]
    refine ⟨fun hm => ?_, chkF_codes h⟩
    obtain ⟨p, hp, he⟩ := List.mem_map.1 hm
    have hn := chkF_new h p hp
    have hvp := hvr p hp
    rw [qin, List.any_append, Bool.or_eq_false_iff] at hn
    have h2 := hn.2
    simp only [List.any_cons, List.any_nil, Bool.or_false, Bool.or_eq_false_iff, Bool.and_eq_false_iff, beq_eq_false_iff_ne] at h2
    unfold codeP at he
    have := tri_inj (by omega) (by omega) he
    omega
theorem codeP_lt {n : Nat} {p : ZZ} (h : 0 ≤ p.1 ∧ 0 ≤ p.2 ∧ p.1 < (n : Int) ∧ p.2 < (n : Int) ∧ p.1 ≠ p.2) : codeP p < tri n := by
  unfold codeP
  have := tri_mono (show max p.1.toNat p.2.toNat + 1 ≤ n by omega)
  simp only [tri] at this
  omega
/-- no two met twice, and there are enough meetings: so all have met -/
theorem met_all {n : Nat} {l : List ZZ} (hc : chkF (n : Int) [] l = 0) (hl : tri n ≤ l.length) {x y : Nat} (hx : x < n) (hyx : y < x) : ((x : Int), (y : Int)) ∈ l ∨ ((y : Int), (x : Int)) ∈ l := by
  apply Decidable.byContradiction
  intro hno
  rw [not_or] at hno
  have hv := chkF_valid hc
  have hnd := chkF_codes hc
  have hnc : tri x + y ∉ l.map codeP := fun hm => by
    obtain ⟨⟨a, b⟩, hp, he⟩ := List.mem_map.1 hm
    have h1 := hv _ hp
    simp only at h1
    obtain ⟨a, rfl⟩ := Int.eq_ofNat_of_zero_le h1.1
    obtain ⟨b, rfl⟩ := Int.eq_ofNat_of_zero_le h1.2.1
    unfold codeP at he
    simp only [Int.toNat_natCast] at he
    obtain ⟨e1, e2⟩ := tri_inj (by omega) hyx he
    by_cases hab : a ≤ b
    · obtain rfl : b = x := by omega
      obtain rfl : a = y := by omega
      exact hno.2 hp
    · obtain rfl : a = x := by omega
      obtain rfl : b = y := by omega
      exact hno.1 hp
  have hxy : tri x + y < tri n := by
    have := tri_mono (show x + 1 ≤ n by omega)
    simp only [tri] at this; omega
  have := sub_len (l := (tri x + y) :: l.map codeP) (m := List.range (tri n)) (List.nodup_cons.2 ⟨hnc, hnd⟩) fun c hcm => by
    rcases List.mem_cons.1 hcm with rfl | hcm
    · exact List.mem_range.2 hxy
    · obtain ⟨p, hp, rfl⟩ := List.mem_map.1 hcm
      exact List.mem_range.2 (codeP_lt (hv p hp))
  rw [List.length_cons, List.length_map, List.length_range] at this
  omega
theorem not_both {n : Int} : ∀ {l b : List ZZ}, chkF n b l = 0 → ∀ x y, (x, y) ∈ l → (y, x) ∈ l → False
  | [], _, _, x, y, h, _ => by simp at h
  | o :: r, b, h, x, y, h1, h2 => by
    have hv := chkF_valid h
    have hne := (hv _ h1).2.2.2.2
    simp only at hne
    simp only [chkF] at h
    split at h
    · cases h
    split at h
    · cases h
    split at h
    · cases h
    rcases List.mem_cons.1 h1 with rfl | g1
    · rcases List.mem_cons.1 h2 with h2 | h2
      · cases h2; exact hne rfl
      · have hn := chkF_new h _ h2
        rw [qin, List.any_append, Bool.or_eq_false_iff] at hn
        have h3 := hn.2
        simp [List.any_cons] at h3
    · rcases List.mem_cons.1 h2 with h2 | g2
      · subst h2
        have hn := chkF_new h _ g1
        rw [qin, List.any_append, Bool.or_eq_false_iff] at hn
        have h3 := hn.2
        simp [List.any_cons] at h3
      · exact not_both h x y g1 g2
theorem boardF_lt : ∀ (r : List ZZ) (w : Nat → Nat), (∀ x, w x < 256) → (∀ p ∈ r, p.2.toNat < 8) → ∀ x, boardF r w x < 256
  | [], w, hw, _ => hw
  | p :: r, w, hw, hp => boardF_lt r (winW w p) (winW_lt hw (hp p (List.mem_cons_self ..))) fun q hq => hp q (List.mem_cons_of_mem _ hq)
/-- whom each one beat -/
def bitL (l : List ZZ) (x y : Nat) : Bool := l.any fun p => p.1 == (x : Int) && p.2 == (y : Int)
theorem bitL_iff {l : List ZZ} {x y : Nat} : bitL l x y = true ↔ ((x : Int), (y : Int)) ∈ l := by
  unfold bitL
  rw [List.any_eq_true]
  constructor
  · rintro ⟨⟨a, b⟩, h1, h2⟩
    simp at h2
    obtain ⟨rfl, rfl⟩ := h2; exact h1
  · exact fun h => ⟨_, h, by simp⟩
theorem OkC.board {n : Nat} {l : List ZZ} (h : OkC n l) : BoardW n (boardF l fun _ => 0) ∧ ∀ x y, (boardF l (fun _ => 0) x).testBit y = bitL l x y := by
  have hv := chkF_valid h.chk
  have hle := h.le
  have hl := h.len
  have ht := tri_half n hle
  have hb : ∀ x y, (boardF l (fun _ => 0) x).testBit y = true ↔ ((x : Int), (y : Int)) ∈ l := fun x y => by
    rw [boardF_bit fun p hp => by have := hv p hp; exact ⟨this.1, this.2.1⟩]
    simp
  have hdom : ∀ x y : Nat, ((x : Int), (y : Int)) ∈ l → x < n ∧ y < n ∧ x ≠ y := fun x y hm => by
    have := hv _ hm
    simp only at this; omega
  refine ⟨⟨hle, boardF_lt l _ (fun _ => by decide) fun p hp => by have := hv p hp; omega, fun x y hxy => ?_, fun x => ?_, fun x y hx hy hne => ?_⟩, fun x y => by rw [Bool.eq_iff_iff, hb, bitL_iff]⟩
  · have := hdom x y ((hb x y).1 hxy); exact ⟨this.1, this.2.1⟩
  · cases hx : (boardF l (fun _ => 0) x).testBit x
    · rfl
    · exact absurd rfl (hdom x x ((hb x x).1 hx)).2.2
  · have hall : ((x : Int), (y : Int)) ∈ l ∨ ((y : Int), (x : Int)) ∈ l := by
      rcases Nat.lt_or_ge y x with hlt | hge
      · exact met_all h.chk (by omega) hx hlt
      · exact (met_all h.chk (by omega) hy (show x < y by omega)).symm
    cases h1 : (boardF l (fun _ => 0) x).testBit y
    · cases h2 : (boardF l (fun _ => 0) y).testBit x
      · exfalso
        rcases hall with hm | hm
        · rw [(hb x y).2 hm] at h1; cases h1
        · rw [(hb y x).2 hm] at h2; cases h2
      · rfl
    · cases h2 : (boardF l (fun _ => 0) y).testBit x
      · rfl
      · exact (not_both h.chk _ _ ((hb x y).1 h1) ((hb y x).1 h2)).elim
end Go.Proofs.Ytnlebofipoepfaa.Code
end

section
namespace Go.Proofs.Ytnlebofipoepfaa.Code
open Go Go.Ab
variable {pure : Bool} {base bar : Nat} {H : Heap} {Q : AV → Heap → Prop}

/-! a function's own copy of a contest -/
def HI (H : Heap) (n : Int) (q : AV) : Heap := H ++ [.row 0 [.int .i64 n, q] 0 true]
theorem HI_len {n : Int} {q : AV} : (HI H n q).length = H.length + 1 := by simp [HI]
theorem HI_get {n : Int} {q : AV} : (HI H n q)[H.length]? = some (.row 0 [.int .i64 n, q] 0 true) := by simp [HI, own_get0]
theorem HI_n {n : Int} {q : AV} {s : Nat} : aload (HI H n q) ⟨false, s⟩ (.ptr H.length 0 0) = some (.int .i64 n) := by rw [aload_ptr HI_get]; rfl
theorem HI_q {n : Int} {q : AV} {s : Nat} : aload (HI H n q) ⟨false, s⟩ (.ptr H.length 0 1) = some q := by rw [aload_ptr HI_get]; rfl
theorem HI_h {n : Int} {q : AV} : aload (HI H n q) ⟨true, 2⟩ (.ptr H.length 0 0) = some (.agg [.int .i64 n, q]) := by rw [aload_ptr HI_get]; rfl
theorem HI_take {n : Int} {q : AV} : (HI H n q).take H.length = H := by simp [HI]
theorem i64_pred {n : Nat} (h : n < 1000000) : IntKind.i64.wrap ((n : Int) - 1) = (n : Int) - 1 := Go.IntWalk.i64_in _ (by omega)

/-! 15: is it too large -/
theorem k15 {n : Int} {q : AV} {l : List ZZ} (hq : isP q l) : WpCall E pure base bar 15 [.agg [.int .i64 n, q]] H Q ↔ Q (.bool (decide (60 < l.length))) H := by
  rw [call15]
  have lq : aload (H ++ [Blk.row 0 [.int .i64 n, q] 0 true]) ⟨false, 1⟩ (.ptr H.length 0 1) = some q := by simp [aload, own_get0, Ab.part]
  have e : decide ((60 : Int) < (l.length : Int)) = decide (60 < l.length) := decide_eq_decide.2 (by omega)
  simp [go_sem, WpFun, c15, hq.frz, lq, hq.len, e]

/-! 62: is a number from lo to hi -/
theorem k62 {n a b : Int} : WpCall E pure base bar 62 [.int .i64 n, .int .i64 a, .int .i64 b] H Q ↔ Q (.bool (within a b n)) H := by
  rw [call62]
  simp [go_sem, WpFun, c62]
  unfold within
  by_cases h : a ≤ n <;> simp [h]

/-! 63: beat one another one -/
def beatZ (l : List ZZ) (a b : Int) : Bool := l.any fun p => p.1 == a && p.2 == b
theorem l63 {q : AV} {l : List ZZ} (hq : isP q l) (hl : l.length < 1000) {a b : Int} {R : PQ} : ∀ (k i : Nat), i + k = l.length →
    (beatZ (l.drop i) a b = true → R .ret [(6, .bool true)] H) →
    (beatZ (l.drop i) a b = false → R (.exit 0) [(0, q), (1, .int .i64 a), (2, .int .i64 b), (7, .int .i64 (l.length : Nat)), (11, .bool false)] H) →
    Wp E base bar (.loop c63_l0) [(0, q), (1, .int .i64 a), (2, .int .i64 b), (7, .int .i64 (i : Nat))] H R := by
  intro k
  induction k with
  | zero =>
    intro i hi h1 h2
    obtain rfl : i = l.length := by omega
    rw [List.drop_length] at h2
    rw [wp_round c63_l0.eq_1]
    simp [go_sem, hq.len]
    exact h2 (by simp [beatZ])
  | succ k ih =>
    intro i hi h1 h2
    have hlt : i < l.length := by omega
    rw [wp_round c63_l0.eq_1]
    rw [List.drop_eq_getElem_cons hlt] at h1 h2
    obtain ⟨⟨x, y⟩, hp⟩ : ∃ p, l[i] = p := ⟨_, rfl⟩
    rw [hp] at h1 h2
    simp only [beatZ, List.any_cons] at h1 h2
    by_cases e1 : x = a
    · by_cases e2 : y = b
      · have g1 := h1 (by simp [e1, e2])
        simp [go_sem, hq.len, hlt, hq.ix hlt, zc, hp, e1, e2]
        exact g1
      · have e3 : (x == a && y == b) = false := by simp [e2]
        simp only [e3, Bool.false_or] at h1 h2
        simp [go_sem, hq.len, hlt, hq.ix hlt, zc, hp, e1, e2, i64_suc (show i < 1000000 by omega)]
        exact ih (i + 1) (by omega) h1 h2
    · have e3 : (x == a && y == b) = false := by simp [e1]
      simp only [e3, Bool.false_or] at h1 h2
      simp [go_sem, hq.len, hlt, hq.ix hlt, zc, hp, e1, i64_suc (show i < 1000000 by omega)]
      exact ih (i + 1) (by omega) h1 h2
theorem k63 {q : AV} {l : List ZZ} (hq : isP q l) (hl : l.length < 1000) {a b : Int} : WpCall E pure base bar 63 [q, .int .i64 a, .int .i64 b] H Q ↔ Q (.bool (beatZ l a b)) H := by
  refine ⟨fun h => ?_, fun h => ?_⟩
  · refine (WpCall.det (v0 := .bool (beatZ l a b)) (H0 := H) ?_).1 h
    exact main ⟨rfl, rfl⟩
  · exact main h
where
  main {Q : AV → Heap → Prop} (h : Q (.bool (beatZ l a b)) H) : WpCall E pure base bar 63 [q, .int .i64 a, .int .i64 b] H Q := by
    rw [call63]
    simp [go_sem, WpFun, c63, hq.frz]
    refine l63 hq hl l.length 0 (by omega) ?_ ?_
    · intro e
      rw [List.drop_zero] at e
      rw [e] at h
      simp [go_sem]
      exact h
    · intro e
      rw [List.drop_zero] at e
      rw [e] at h
      simp [go_sem]
      exact h
theorem qin_beat {l : List ZZ} {a b : Int} : qin l a b = (beatZ l a b || beatZ l b a) := by
  unfold qin beatZ
  induction l with
  | nil => rfl
  | cons p r ih =>
    simp only [List.any_cons, ih]
    cases (p.1 == a && p.2 == b) <;> cases (p.1 == b && p.2 == a) <;> simp
theorem bitL_beat {l : List ZZ} {x y : Nat} : bitL l x y = beatZ l x y := rfl

/-! 87: has a list a number -/
theorem l87 {v : AV} {l : List Nat} (hv : isL v l) (hl : l.length < 1000) {x : Nat} {R : PQ} : ∀ (k i : Nat), i + k = l.length →
    ((l.drop i).contains x = true → R .ret [(4, .bool true)] H) →
    ((l.drop i).contains x = false → R (.exit 0) [(0, v), (1, .int .i64 (x : Nat)), (5, .int .i64 (l.length : Nat)), (9, .bool false)] H) →
    Wp E base bar (.loop c87_l0) [(0, v), (1, .int .i64 (x : Nat)), (5, .int .i64 (i : Nat))] H R := by
  intro k
  induction k with
  | zero =>
    intro i hi h1 h2
    obtain rfl : i = l.length := by omega
    rw [List.drop_length] at h2
    rw [wp_round c87_l0.eq_1]
    simp [go_sem, hv.len]
    exact h2 rfl
  | succ k ih =>
    intro i hi h1 h2
    have hlt : i < l.length := by omega
    rw [wp_round c87_l0.eq_1]
    rw [List.drop_eq_getElem_cons hlt, List.contains_cons] at h1 h2
    by_cases e1 : l[i] = x
    · have g1 := h1 (by simp [e1])
      simp [go_sem, hv.len, hlt, hv.ix hlt, natEq, e1]
      exact g1
    · have e3 : (x == l[i]) = false := by simpa using fun h => e1 h.symm
      simp only [e3, Bool.false_or] at h1 h2
      simp [go_sem, hv.len, hlt, hv.ix hlt, natEq, e1, i64_suc (show i < 1000000 by omega)]
      exact ih (i + 1) (by omega) h1 h2
theorem k87 {v : AV} {l : List Nat} (hv : isL v l) (hl : l.length < 1000) {x : Nat} : WpCall E pure base bar 87 [v, .int .i64 (x : Nat)] H Q ↔ Q (.bool (l.contains x)) H := by
  refine ⟨fun h => ?_, fun h => ?_⟩
  · refine (WpCall.det (v0 := .bool (l.contains x)) (H0 := H) ?_).1 h
    exact main ⟨rfl, rfl⟩
  · exact main h
where
  main {Q : AV → Heap → Prop} (h : Q (.bool (l.contains x)) H) : WpCall E pure base bar 87 [v, .int .i64 (x : Nat)] H Q := by
    rw [call87]
    simp [go_sem, WpFun, c87, hv.frz]
    refine l87 hv hl l.length 0 (by omega) ?_ ?_
    · intro e
      rw [List.drop_zero] at e
      rw [e] at h
      simp [go_sem]
      exact h
    · intro e
      rw [List.drop_zero] at e
      rw [e] at h
      simp [go_sem]
      exact h

/-! 24: the reference's check -/
set_option maxRecDepth 4000 in
theorem l24 {n : Nat} {q : AV} {l : List ZZ} (hq : isP q l) (hl : l.length < 1000) (hn : n ≤ 7) (hn1 : 1 ≤ n) {R : PQ} : ∀ (k i : Nat), i + k = l.length →
    (chkF n (l.take i) (l.drop i) ≠ 0 → R .ret [(2, .int .i64 (chkF n (l.take i) (l.drop i)))] (HI H n q)) →
    (chkF n (l.take i) (l.drop i) = 0 → R (.exit 0) [(1, .ptr H.length 0 0), (3, .int .i64 (l.length : Nat)), (16, .bool false)] (HI H n q)) →
    Wp E base bar (.loop c24_l0) [(1, .ptr H.length 0 0), (3, .int .i64 (i : Nat))] (HI H n q) R := by
  intro k
  induction k with
  | zero =>
    intro i hi h1 h2
    obtain rfl : i = l.length := by omega
    rw [List.drop_length] at h2
    rw [wp_round c24_l0.eq_1]
    simp [go_sem, HI_q, hq.len]
    exact h2 rfl
  | succ k ih =>
    intro i hi h1 h2
    have hlt : i < l.length := by omega
    rw [wp_round c24_l0.eq_1]
    rw [List.drop_eq_getElem_cons hlt] at h1 h2
    obtain ⟨⟨a, b⟩, hp⟩ : ∃ p, l[i] = p := ⟨_, rfl⟩
    obtain ⟨q', hq1, hq2⟩ := isP.cut (H := HI H n q) hq hlt
    rw [hp] at h1 h2
    simp only [chkF] at h1 h2
    obtain ⟨m, hm, hpn⟩ : ∃ m : Int, m = (n : Int) - 1 ∧ IntKind.i64.wrap ((n : Int) - 1) = m := ⟨_, rfl, i64_pred (by omega)⟩
    by_cases ca : within 0 m a = true
    · by_cases cb : within 0 m b = true
      · simp [within] at ca cb
        rw [if_neg (show ¬ (a < 0 ∨ b < 0 ∨ (n : Int) ≤ a ∨ (n : Int) ≤ b) by omega)] at h1 h2
        have ca' : within 0 m a = true := by simp [within]; omega
        have cb' : within 0 m b = true := by simp [within]; omega
        by_cases hab : a = b
        · rw [if_pos hab] at h1
          have g1 := h1 (by decide)
          subst hab
          simp [go_sem, HI_q, HI_n, hq.len, hlt, hq.ix hlt, zc, hp, hpn, k62, ca']
          exact g1
        · rw [if_neg hab] at h1 h2
          rw [qin_beat] at h1 h2
          cases e1 : beatZ (l.take i) a b
          · cases e2 : beatZ (l.take i) b a
            · simp only [e1, e2, Bool.or_self, Bool.false_eq_true, if_false] at h1 h2
              have hs : l.take i ++ [(a, b)] = l.take (i + 1) := by rw [List.take_succ_eq_append_getElem hlt, hp]
              rw [hs] at h1 h2
              simp [go_sem, HI_q, HI_n, hq.len, hlt, hq.ix hlt, zc, hp, hpn, k62, ca', cb', hab, aop, Opd.evo, hq1, k63 hq2 (show (l.take i).length < 1000 by simp; omega), e1, e2, i64_suc (show i < 1000000 by omega)]
              exact ih (i + 1) (by omega) h1 h2
            · have g1 := h1 (by simp [e1, e2])
              simp only [e1, e2, Bool.or_true, if_true] at g1
              simp [go_sem, HI_q, HI_n, hq.len, hlt, hq.ix hlt, zc, hp, hpn, k62, ca', cb', hab, aop, Opd.evo, hq1, k63 hq2 (show (l.take i).length < 1000 by simp; omega), e1, e2]
              exact g1
          · have g1 := h1 (by simp [e1])
            simp only [e1, Bool.true_or, if_true] at g1
            simp [go_sem, HI_q, HI_n, hq.len, hlt, hq.ix hlt, zc, hp, hpn, k62, ca', cb', hab, aop, Opd.evo, hq1, k63 hq2 (show (l.take i).length < 1000 by simp; omega), e1]
            exact g1
      · have cb' : within 0 m b = false := by simpa using cb
        simp [within] at ca cb
        rw [if_pos (show (a < 0 ∨ b < 0 ∨ (n : Int) ≤ a ∨ (n : Int) ≤ b) by omega)] at h1
        have ca' : within 0 m a = true := by simp [within]; omega
        have g1 := h1 (by decide)
        simp [go_sem, HI_q, HI_n, hq.len, hlt, hq.ix hlt, zc, hp, hpn, k62, ca', cb']
        exact g1
    · have ca' : within 0 m a = false := by simpa using ca
      simp [within] at ca
      rw [if_pos (show (a < 0 ∨ b < 0 ∨ (n : Int) ≤ a ∨ (n : Int) ≤ b) by omega)] at h1
      have g1 := h1 (by decide)
      simp [go_sem, HI_q, HI_n, hq.len, hlt, hq.ix hlt, zc, hp, hpn, k62, ca']
      exact g1
end Go.Proofs.Ytnlebofipoepfaa.Code
end

section
namespace Go.Proofs.Ytnlebofipoepfaa.Code
open Go Go.Ab
variable {pure : Bool} {base bar : Nat} {H : Heap} {Q : AV → Heap → Prop}

def metB (l : List ZZ) (a b : Nat) : Bool := beatZ l a b || beatZ l b a
def metA (l : List ZZ) (a : Nat) : Bool := (List.range' 0 a).all (metB l a)
theorem l24a {n a : Nat} {q : AV} {l : List ZZ} (hq : isP q l) (hl : l.length < 1000) (ha : a < 1000) {R : PQ} : ∀ (k b : Nat), b + k = a →
    ((List.range' b k).all (metB l a) = false → R .ret [(2, .int .i64 21)] (HI H n q)) →
    ((List.range' b k).all (metB l a) = true → R (.exit 4) [(1, .ptr H.length 0 0), (6, .int .i64 (a : Nat)), (7, .int .i64 (a : Nat)), (72, .bool false)] (HI H n q)) →
    Wp E base bar (.loop c24_l1) [(1, .ptr H.length 0 0), (6, .int .i64 (a : Nat)), (7, .int .i64 (b : Nat))] (HI H n q) R := by
  intro k
  induction k with
  | zero =>
    intro b hb h1 h2
    obtain rfl : b = a := by omega
    rw [wp_round c24_l1.eq_1]
    simp [go_sem]
    exact h2 rfl
  | succ k ih =>
    intro b hb h1 h2
    have hlt : b < a := by omega
    rw [wp_round c24_l1.eq_1]
    rw [List.range'_succ, List.all_cons] at h1 h2
    have hm : metB l a b = (beatZ l a b || beatZ l b a) := rfl
    cases e1 : beatZ l a b
    · cases e2 : beatZ l b a
      · rw [e1, e2] at hm
        have g1 := h1 (by simp [hm])
        simp [go_sem, hlt, HI_q, k63 hq hl, e1, e2]
        exact g1
      · rw [e1, e2] at hm
        simp only [hm, Bool.or_true, Bool.true_and] at h1 h2
        simp [go_sem, hlt, HI_q, k63 hq hl, e1, e2, i64_suc (show b < 1000000 by omega)]
        exact ih (b + 1) (by omega) h1 h2
    · rw [e1] at hm
      simp only [hm, Bool.true_or, Bool.true_and] at h1 h2
      simp [go_sem, hlt, HI_q, k63 hq hl, e1, i64_suc (show b < 1000000 by omega)]
      exact ih (b + 1) (by omega) h1 h2
theorem l24b {n : Nat} {q : AV} {l : List ZZ} (hq : isP q l) (hl : l.length < 1000) (hn : n ≤ 7) {R : PQ} : ∀ (k a : Nat), a + k = n →
    ((List.range' a k).all (metA l) = false → R .ret [(2, .int .i64 21)] (HI H n q)) →
    ((List.range' a k).all (metA l) = true → R (.exit 2) [(1, .ptr H.length 0 0), (6, .int .i64 (n : Nat)), (67, .bool false)] (HI H n q)) →
    Wp E base bar (.loop c24_l2) [(1, .ptr H.length 0 0), (6, .int .i64 (a : Nat))] (HI H n q) R := by
  intro k
  induction k with
  | zero =>
    intro a ha h1 h2
    obtain rfl : a = n := by omega
    rw [wp_round c24_l2.eq_1]
    simp [go_sem, HI_n]
    exact h2 rfl
  | succ k ih =>
    intro a ha h1 h2
    have hlt : a < n := by omega
    rw [wp_round c24_l2.eq_1]
    rw [List.range'_succ, List.all_cons] at h1 h2
    simp [go_sem, HI_n, hlt]
    refine l24a hq hl (by omega) a 0 (by omega) (fun he => ?_) fun he => ?_
    · have hm : metA l a = false := he
      simp [go_sem]
      exact h1 (by simp [hm])
    · have hm : metA l a = true := he
      simp only [hm, Bool.true_and] at h1 h2
      simp [go_sem, i64_suc (show a < 1000000 by omega)]
      exact ih (a + 1) (by omega) h1 h2
theorem tri_code : ∀ {n c : Nat}, c < tri n → ∃ x y, y < x ∧ x < n ∧ tri x + y = c
  | 0, c, h => by simp [tri] at h
  | n + 1, c, h => by
    by_cases hc : c < tri n
    · obtain ⟨x, y, h1, h2, h3⟩ := tri_code hc
      exact ⟨x, y, h1, by omega, h3⟩
    · simp only [tri] at h
      exact ⟨n, c - tri n, by omega, by omega, by omega⟩
theorem met_iff {n : Nat} {l : List ZZ} (hn : n ≤ 7) (hc : chkF (n : Int) [] l = 0) : (List.range' 0 n).all (metA l) = true ↔ halfN n ≤ l.length := by
  rw [← tri_half n hn]
  have hmem : ∀ a b : Int, beatZ l a b = true ↔ (a, b) ∈ l := fun a b => by
    unfold beatZ
    rw [List.any_eq_true]
    constructor
    · rintro ⟨⟨x, y⟩, h1, h2⟩
      simp at h2
      obtain ⟨rfl, rfl⟩ := h2; exact h1
    · exact fun h => ⟨_, h, by simp⟩
  have hall : (List.range' 0 n).all (metA l) = true ↔ ∀ a, a < n → ∀ b, b < a → (((a : Int), (b : Int)) ∈ l ∨ ((b : Int), (a : Int)) ∈ l) := by
    simp only [metA, metB, List.all_eq_true, List.mem_range'_1, Bool.or_eq_true, hmem, Nat.zero_le, true_and, Nat.zero_add]
  rw [hall]
  constructor
  · intro h
    have := sub_len (l := List.range (tri n)) (m := l.map codeP) List.nodup_range fun c hcm => by
      obtain ⟨x, y, h1, h2, h3⟩ := tri_code (List.mem_range.1 hcm)
      rcases h x h2 y h1 with hm | hm
      · refine List.mem_map.2 ⟨_, hm, ?_⟩
        unfold codeP
        simp only [Int.toNat_natCast]
        rw [show max x y = x by omega, show min x y = y by omega, h3]
      · refine List.mem_map.2 ⟨_, hm, ?_⟩
        unfold codeP
        simp only [Int.toNat_natCast]
        rw [show max y x = x by omega, show min y x = y by omega, h3]
    simpa using this
  · intro h a ha b hb
    exact met_all hc h ha hb
theorem k24 {n : Int} {q : AV} {l : List ZZ} (hq : isP q l) (hl : l.length < 1000) : WpCall E pure base bar 24 [.agg [.int .i64 n, q]] H Q ↔ Q (.int .i64 (checkS n l)) H := by
  refine ⟨fun h => ?_, fun h => ?_⟩
  · refine (WpCall.det (v0 := .int .i64 (checkS n l)) (H0 := H) ?_).1 h
    exact main ⟨rfl, rfl⟩
  · exact main h
where
  main {Q : AV → Heap → Prop} (h : Q (.int .i64 (checkS n l)) H) : WpCall E pure base bar 24 [.agg [.int .i64 n, q]] H Q := by
    rw [call24]
    have e0 : H ++ [.row 0 [.int .i64 n, q] 0 true] = HI H n q := rfl
    simp [go_sem, WpFun, c24, hq.frz, e0, HI_n, k62]
    unfold checkS at h
    cases hr : within 1 7 n
    · simp only [hr, Bool.false_eq_true, if_false] at h
      simp [go_sem, HI_take]
      exact h
    · simp only [hr, if_true] at h
      simp [within] at hr
      obtain ⟨n, rfl⟩ := Int.eq_ofNat_of_zero_le (show 0 ≤ n by omega)
      have hn : n ≤ 7 := by omega
      simp only [Int.toNat_natCast] at h
      simp [go_sem]
      refine l24 hq hl hn (by omega) l.length 0 (by omega) (fun he => ?_) fun he => ?_
      · rw [List.drop_zero, List.take_zero] at he ⊢
        rw [if_neg he] at h
        simp [go_sem, HI_take]
        exact h
      · rw [List.drop_zero, List.take_zero] at he
        rw [if_pos he] at h
        have hm := met_iff hn he
        simp [go_sem]
        refine l24b hq hl hn n 0 (by omega) (fun ha => ?_) fun ha => ?_
        · rw [if_pos (by
            apply Decidable.byContradiction
            intro hc
            rw [hm.2 (by omega)] at ha; cases ha)] at h
          simp [go_sem, HI_take]
          exact h
        · rw [if_neg (by have := hm.1 ha; omega)] at h
          simp [go_sem, HI_take]
          exact h

/-! the program's functions, of contests in general -/
theorem k18e {n : Int} {q : AV} {l : List ZZ} (hq : isP q l) (hl : l.length < 1000) (hc : checkS n l ≠ 0) (hbar : bar ≤ H.length) (h : Q (.tup [.nils, .int .i64 (checkS n l)]) H) : WpCall E pure base bar 18 [.agg [.int .i64 n, q]] H Q := by
  rw [call18]
  have hb' := bar_ok (pure := pure) hbar
  have e0 : H ++ [.row 0 [.int .i64 n, q] 0 true] = HI H n q := rfl
  simp [go_sem, WpFun, c18, hq.frz, e0, HI_h] at hb' ⊢
  refine k56 hq hl (by rw [HI_len]; omega) (fun _ => ?_) (fun m _ _ _ hc' => absurd hc' hc)
  simp [go_sem, hc, HI_take]
  exact h
theorem k20e {n : Int} {q : AV} {l : List ZZ} (hq : isP q l) (hl : l.length < 1000) (hc : checkS n l ≠ 0) (hbar : bar ≤ H.length) (h : Q (.tup [.nils, .int .i64 (checkS n l)]) H) : WpCall E pure base bar 20 [.agg [.int .i64 n, q]] H Q := by
  rw [call20]
  have hb' := bar_ok (pure := pure) hbar
  have e0 : H ++ [.row 0 [.int .i64 n, q] 0 true] = HI H n q := rfl
  simp [go_sem, WpFun, c20, hq.frz, e0, HI_h] at hb' ⊢
  refine k56 hq hl (by rw [HI_len]; omega) (fun _ => ?_) (fun m _ _ _ hc' => absurd hc' hc)
  simp [go_sem, hc, HI_take]
  exact h
theorem k18g {n : Nat} {q : AV} {l : List ZZ} (hq : isP q l) (hl : l.length < 1000) (hm : OkC n l) (hbar : bar ≤ H.length)
    (h : ∀ v, isL v (oftenS n (boardF l fun _ => 0)) → Q (.tup [v, .int .i64 0]) H) : WpCall E pure base bar 18 [.agg [.int .i64 (n : Nat), q]] H Q := by
  rw [call18]
  have hb' := bar_ok (pure := pure) hbar
  have hbd := hm.board.1
  have lh : aload (H ++ [Blk.row 0 [.int .i64 (n : Nat), q] 0 true]) ⟨true, 2⟩ (.ptr H.length 0 0) = some (.agg [.int .i64 (n : Nat), q]) := by simp [aload, own_get0, Ab.part]
  simp [go_sem, WpFun, c18, hq.frz, lh] at hb' ⊢
  generalize (if pure = true then H.length else bar) = bar' at hb' ⊢
  refine k56 hq hl (by simp; omega) (fun hc => absurd hm.check hc) (fun m hnm _ _ _ => ?_)
  obtain rfl : n = m := by omega
  have hid : (H ++ [Blk.row 0 [AV.int IntKind.i64 (n : Nat), q] 0 true, Blk.row 0 (bcells n (boardF l fun _ => 0)) 0 true])[H.length + 1]? = some (.row 0 (bcells n (boardF l fun _ => 0)) 0 true) := by simp [own_get]
  simp [go_sem]
  refine k57 hid hbd.lt hm.le (by simp; omega) ?_
  have hv := isL.out (l := oftenS n (boardF l fun _ => 0))
  generalize outL 1 (nats (oftenS n (boardF l fun _ => 0))) = v at hv
  simp [go_sem, hv.frz, hv.top]
  exact h v hv
theorem k20g {n : Nat} {q : AV} {l : List ZZ} (hq : isP q l) (hl : l.length < 1000) (hm : OkC n l) (hbar : bar ≤ H.length)
    (h : ∀ v, isL v (bestS n (boardF l fun _ => 0)) → Q (.tup [v, .int .i64 0]) H) : WpCall E pure base bar 20 [.agg [.int .i64 (n : Nat), q]] H Q := by
  rw [call20]
  have hb' := bar_ok (pure := pure) hbar
  have hbd := hm.board.1
  have lh : aload (H ++ [Blk.row 0 [.int .i64 (n : Nat), q] 0 true]) ⟨true, 2⟩ (.ptr H.length 0 0) = some (.agg [.int .i64 (n : Nat), q]) := by simp [aload, own_get0, Ab.part]
  simp [go_sem, WpFun, c20, hq.frz, lh] at hb' ⊢
  generalize (if pure = true then H.length else bar) = bar' at hb' ⊢
  refine k56 hq hl (by simp; omega) (fun hc => absurd hm.check hc) (fun m hnm _ _ _ => ?_)
  obtain rfl : n = m := by omega
  have hid : (H ++ [Blk.row 0 [AV.int IntKind.i64 (n : Nat), q] 0 true, Blk.row 0 (bcells n (boardF l fun _ => 0)) 0 true])[H.length + 1]? = some (.row 0 (bcells n (boardF l fun _ => 0)) 0 true) := by simp [own_get]
  simp [go_sem, loadBN hid]
  refine l20 hid hbd (by simp; omega) (by simp) n 0 .nils _ (by omega) Grow.nil fun v' H' g => ?_
  obtain ⟨H2, f1, f2, f3, f4⟩ := g.frz (d := 5) (bar := bar') (by decide) (Nat.one_dvd _) nats_plain (by simp; omega)
  rw [show 5 + 3 = 8 from rfl] at f1
  have e5 : H2.take H.length = H := by
    have := congrArg (List.take H.length) f4
    rw [List.take_take, Nat.min_eq_left (by simp)] at this
    rw [this]; simp
  have hv := isL.out (l := bestS n (boardF l fun _ => 0))
  simp [go_sem, f1, hv.top, e5]
  exact h _ hv
end Go.Proofs.Ytnlebofipoepfaa.Code
end

section
namespace Go.Proofs.Ytnlebofipoepfaa.Code
open Go Go.Ab
variable {pure : Bool} {base bar : Nat} {H : Heap} {Q : AV → Heap → Prop}

/-! 19: the reference's scores -/
def winsF (l : List ZZ) (x : Nat) : Nat := (l.filter fun p => p.1 == (x : Int)).length
theorem winsF_step {l : List ZZ} {a : Nat} {b : Int} : winsF (l ++ [((a : Int), b)]) = upd (winsF l) a (winsF l a + 1) := by
  funext x
  unfold winsF upd
  rw [List.filter_append, List.length_append]
  by_cases h : x = a
  · subst h; simp
  · rw [if_neg h]
    have : ¬ (a : Int) = (x : Int) := by omega
    simp [this]
theorem l19 {n : Nat} {q : AV} {l : List ZZ} (hq : isP q l) (hl : l.length < 1000) (hval : ∀ p ∈ l, 0 ≤ p.1 ∧ 0 ≤ p.2 ∧ p.1 < (n : Int) ∧ p.2 < (n : Int) ∧ p.1 ≠ p.2) (hbar : bar ≤ H.length) {R : PQ} :
    ∀ (k i : Nat), i + k = l.length →
    (R (.exit 0) [(1, .ptr H.length 0 0), (5, .vec (H.length + 1) 0 0 n 1), (6, .int .i64 (l.length : Nat)), (19, .bool false)] (H ++ [.row 0 [.int .i64 (n : Int), q] 0 true, .row 0 (fcells n (winsF l)) 0 true])) →
    Wp E H.length bar (.loop c19_l0) [(1, .ptr H.length 0 0), (5, .vec (H.length + 1) 0 0 n 1), (6, .int .i64 (i : Nat))] (H ++ [.row 0 [.int .i64 (n : Int), q] 0 true, .row 0 (fcells n (winsF (l.take i))) 0 true]) R := by
  intro k
  induction k with
  | zero =>
    intro i hi h
    obtain rfl : i = l.length := by omega
    rw [List.take_length]
    rw [wp_round c19_l0.eq_1]
    simp [go_sem, aload, own_get0, hq.len]
    exact h
  | succ k ih =>
    intro i hi h
    have hlt : i < l.length := by omega
    obtain ⟨⟨a, b⟩, hp⟩ : ∃ p, l[i] = p := ⟨_, rfl⟩
    obtain ⟨v1, v2, v3, _⟩ := hval _ (hp ▸ List.getElem_mem hlt)
    simp only at v1 v2 v3
    obtain ⟨a, rfl⟩ := Int.eq_ofNat_of_zero_le v1
    have ha : a < n := by omega
    have hd : winsF (l.take i) a ≤ i := Nat.le_trans (List.length_filter_le _ _) (by simp; omega)
    have hid : ∀ g, (H ++ [Blk.row 0 [.int .i64 (n : Int), q] 0 true, .row 0 (fcells n g) 0 true])[H.length + 1]? = some (.row 0 (fcells n g) 0 true) := fun g => by simp [own_get]
    have hset : ∀ g g', (H ++ [Blk.row 0 [.int .i64 (n : Int), q] 0 true, .row 0 (fcells n g) 0 true]).set (H.length + 1) (Blk.row 0 (fcells n g') 0 true) = H ++ [Blk.row 0 [.int .i64 (n : Int), q] 0 true, .row 0 (fcells n g') 0 true] := fun g g' => by simp [own_set]
    have hrow : ∀ g s, aload (H ++ [Blk.row 0 [.int .i64 (n : Int), q] 0 true, .row 0 (fcells n g) 0 true]) ⟨false, s⟩ (.ptr H.length 0 1) = some q := fun g s => by simp [aload, own_get0, Ab.part]
    have next := ih (i + 1) (by omega) h
    rw [List.take_succ_eq_append_getElem hlt, hp, winsF_step] at next
    rw [wp_round c19_l0.eq_1]
    simp [go_sem, hrow, hq.len, hlt, hq.ix hlt, hp, zc, ha, loadF (hid _) ha, i64_suc (show winsF (l.take i) a < 1000000 by omega)]
    have e1 : ((winsF (l.take i) a : Nat) : Int) + 1 = ((winsF (l.take i) a + 1 : Nat) : Int) := by omega
    rw [e1, storeF (hid _) ha (by omega) (by omega), hset]
    simp [go_sem, i64_suc (show i < 1000000 by omega)]
    exact next
theorem wins_often {n : Nat} {l : List ZZ} (h : OkC n l) : (List.range n).map (winsF l) = oftenS n (boardF l fun _ => 0) := by
  unfold oftenS
  apply List.map_congr_left
  intro x hx
  have hb := h.board
  have hv := chkF_valid h.chk
  have hnd : l.Nodup := by
    have := chkF_codes h.chk
    exact List.Pairwise.of_map codeP (fun a b hab he => hab (by rw [he])) this
  have e : (l.filter fun p => p.1 == (x : Int)).length = ((l.filter fun p => p.1 == (x : Int)).map fun p => p.2.toNat).length := by rw [List.length_map]
  have hin : ((l.filter fun p => p.1 == (x : Int)).map fun p => p.2.toNat).Nodup := map_nodup (hnd.filter _) fun p hp o ho he => by
    obtain ⟨p1, p2⟩ := List.mem_filter.1 hp
    obtain ⟨o1, o2⟩ := List.mem_filter.1 ho
    simp only [beq_iff_eq] at p2 o2
    have h1 := hv p p1
    have h2 := hv o o1
    exact Prod.ext (by rw [p2, o2]) (by omega)
  have hmem : ∀ y, y ∈ ((l.filter fun p => p.1 == (x : Int)).map fun p => p.2.toNat) ↔ y ∈ bitsOf (boardF l (fun _ => 0) x) := fun y => by
    rw [bits_mem, hb.2, bitL_iff, List.mem_map]
    constructor
    · rintro ⟨⟨a, b⟩, hp, rfl⟩
      obtain ⟨p1, p2⟩ := List.mem_filter.1 hp
      simp only [beq_iff_eq] at p2
      have h1 := hv _ p1
      have hle := h.le
      simp only at h1 ⊢
      subst p2
      obtain ⟨b, rfl⟩ := Int.eq_ofNat_of_zero_le h1.2.1
      exact ⟨by omega, by simpa using p1⟩
    · rintro ⟨_, hm⟩
      exact ⟨_, List.mem_filter.2 ⟨hm, by simp⟩, by simp⟩
  unfold winsF
  rw [e]
  apply Nat.le_antisymm
  · exact sub_len hin fun y hy => (hmem y).1 hy
  · exact sub_len ((bits_pairwise _).imp fun h => Nat.ne_of_lt h) fun y hy => (hmem y).2 hy
theorem k19 {n : Int} {q : AV} {l : List ZZ} (hq : isP q l) (hl : l.length < 1000) (hbar : bar ≤ H.length)
    (h1 : checkS n l ≠ 0 → Q (.tup [.nils, .int .i64 (checkS n l)]) H)
    (h2 : ∀ m : Nat, n = m → OkC m l → ∀ v, isL v (oftenS m (boardF l fun _ => 0)) → Q (.tup [v, .int .i64 0]) H) :
    WpCall E pure base bar 19 [.agg [.int .i64 n, q]] H Q := by
  rw [call19]
  have hb' := bar_ok (pure := pure) hbar
  have e0 : H ++ [.row 0 [.int .i64 n, q] 0 true] = HI H n q := rfl
  simp [go_sem, WpFun, c19, hq.frz, e0, HI_h, HI_n, HI_len, k24 hq hl] at hb' ⊢
  generalize (if pure = true then H.length else bar) = bar' at hb' ⊢
  by_cases hc : checkS n l = 0
  · obtain ⟨m, rfl, hok⟩ := OkC.of hc
    have hm := hok.le
    have e2 : List.replicate m (AV.int .i64 0) = fcells m (winsF ([] : List ZZ)) := by rw [← fcells_zero]; rfl
    simp [go_sem, hc, HI_n, aop, AV.asNat, HI_len]
    rw [if_pos (show m * 8 ≤ 140737488355328 by omega), e2]
    have e3 : HI H (m : Int) q ++ [.row 0 (fcells m (winsF ([] : List ZZ))) 0 true] = H ++ [.row 0 [.int .i64 (m : Int), q] 0 true, .row 0 (fcells m (winsF (l.take 0))) 0 true] := by simp [HI]
    rw [e3]
    simp only [go_sem]
    simp [go_sem]
    refine l19 hq hl (chkF_valid hok.chk) hb' l.length 0 (by omega) ?_
    simp [go_sem]
    have f := frzF (d := 5) (bar := bar') (H := H ++ [.row 0 [.int .i64 (m : Int), q] 0 true, .row 0 (fcells m (winsF l)) 0 true]) (id := H.length + 1) (ver := 0) (n := m) (fz := 0) (ex := true) (f := winsF l) (by simp [own_get]) (by omega)
    rw [show 5 + 3 = 8 from rfl] at f
    simp only [f]
    simp [go_sem, own_set, isL.f.top]
    refine h2 m rfl hok _ ?_
    have := isL.f (n := m) (f := winsF l) (ex := false)
    rw [wins_often hok] at this
    exact this
  · simp [go_sem, hc, HI_take]
    exact h1 hc

/-! 86: all chains of so many steps more -/
def lastN (s : List Nat) : Nat := s.getD (s.length - 1) 0
def chainsR (l : List ZZ) (n b : Nat) : Nat → List Nat → List (List Nat)
  | 0, s => if lastN s = b then [s] else []
  | k + 1, s => (List.range' 0 n).flatMap fun (x : Nat) => if (!s.contains x && bitL l (lastN s) x) = true then chainsR l n b k (s ++ [x]) else []
theorem chainsR_len {l : List ZZ} {n b : Nat} (hn : n ≤ 7) : ∀ (k : Nat) (s : List Nat), (chainsR l n b k s).length ≤ 7 ^ k
  | 0, s => by
    unfold chainsR
    split <;> simp
  | k + 1, s => by
    have := flatMap_len (m := 7 ^ k) (f := fun (x : Nat) => if (!s.contains x && bitL l (lastN s) x) = true then chainsR l n b k (s ++ [x]) else []) (List.range' 0 n) fun x _ => by
      split
      · exact chainsR_len hn k _
      · simp
    simp only [List.length_range'] at this
    have h2 : n * 7 ^ k ≤ 7 * 7 ^ k := Nat.mul_le_mul_right _ hn
    rw [Nat.pow_succ, Nat.mul_comm (7 ^ k) 7]
    exact Nat.le_trans this h2

/-- what a call found, and its own copy of the contest, are as they were -/
def Pre (H : Heap) (n : Int) (q : AV) (Hc : Heap) : Prop := H.length + 1 ≤ Hc.length ∧ ∀ j, j < H.length + 1 → Hc[j]? = (HI H n q)[j]?
theorem Pre.refl {n : Int} {q : AV} : Pre H n q (HI H n q) := ⟨by rw [HI_len]; omega, fun _ _ => rfl⟩
theorem Pre.get {n : Int} {q : AV} {Hc : Heap} (h : Pre H n q Hc) : Hc[H.length]? = some (.row 0 [.int .i64 n, q] 0 true) := by
  rw [h.2 _ (by omega), HI_get]
theorem Pre.n {n : Int} {q : AV} {Hc : Heap} (h : Pre H n q Hc) {s : Nat} : aload Hc ⟨false, s⟩ (.ptr H.length 0 0) = some (.int .i64 n) := by rw [aload_ptr h.get]; rfl
theorem Pre.q {n : Int} {q : AV} {Hc : Heap} (h : Pre H n q Hc) {s : Nat} : aload Hc ⟨false, s⟩ (.ptr H.length 0 1) = some q := by rw [aload_ptr h.get]; rfl
theorem Pre.h {n : Int} {q : AV} {Hc : Heap} (h : Pre H n q Hc) : aload Hc ⟨true, 2⟩ (.ptr H.length 0 0) = some (.agg [.int .i64 n, q]) := by rw [aload_ptr h.get]; rfl
theorem Pre.take {n : Int} {q : AV} {Hc : Heap} (h : Pre H n q Hc) : Hc.take H.length = H := by
  apply List.ext_getElem?
  intro j
  rw [List.getElem?_take]
  by_cases hj : j < H.length
  · rw [if_pos hj, h.2 j (by omega)]
    simp [HI, List.getElem?_append_left hj]
  · rw [if_neg hj, List.getElem?_eq_none (by omega)]
theorem Pre.next {n : Int} {q : AV} {Hc Hd : Heap} (h : Pre H n q Hc) (hl : Hc.length ≤ Hd.length) (hs : ∀ j, j < H.length + 1 → Hd[j]? = Hc[j]?) : Pre H n q Hd :=
  ⟨by have := h.1; omega, fun j hj => (hs j hj).trans (h.2 j hj)⟩

def Rec86 (n b : Nat) (q : AV) (l : List ZZ) (k : Nat) : Prop := ∀ (s : List Nat) (sv : AV) (H : Heap) (pure : Bool) (base bar : Nat) (Q : AV → Heap → Prop), isL sv s → s ≠ [] → s.length + k ≤ 100 → bar ≤ H.length →
  (∀ v, isLL v (chainsR l n b k s) → Q v H) → WpFun E pure base bar c86 [.agg [.int .i64 (n : Int), q], sv, .int .i64 (b : Int), .int .i64 (k : Int)] H Q

set_option maxRecDepth 4000 in
theorem l86 {n b : Nat} {q : AV} {l : List ZZ} (hq : isP q l) (hl : l.length < 1000) (hn : n ≤ 7) {sv : AV} {s : List Nat} (hs : isL sv s) (hs0 : s ≠ []) {k : Nat} (hk : k ≤ 7) (hsl : s.length + (k + 1) ≤ 100) (hrec : Rec86 n b q l k) (hbar : bar ≤ H.length) {R : PQ} :
    ∀ (d x : Nat) (acc : List (List Nat)) (vs : List AV) (ov : AV) (Hc : Heap), x + d = n → Pre H n q Hc → Own (H.length + 1) 1 vs ov Hc → allL vs acc → acc.length ≤ x * 7 ^ k →
    (∀ vs' ov' Hc', Pre H n q Hc' → Own (H.length + 1) 1 vs' ov' Hc' → allL vs' (acc ++ (List.range' x d).flatMap fun (x : Nat) => if (!s.contains x && bitL l (lastN s) x) = true then chainsR l n b k (s ++ [x]) else []) →
      R (.exit 0) [(1, sv), (2, .int .i64 (b : Nat)), (3, .int .i64 ((k + 1 : Nat) : Int)), (4, .ptr H.length 0 0), (9, .int .i64 (lastN s : Nat)), (10, ov'), (11, .int .i64 (n : Nat)), (28, .bool false)] Hc') →
    Wp E H.length bar (.loop c86_l0) [(1, sv), (2, .int .i64 (b : Nat)), (3, .int .i64 ((k + 1 : Nat) : Int)), (4, .ptr H.length 0 0), (9, .int .i64 (lastN s : Nat)), (10, ov), (11, .int .i64 (x : Nat))] Hc R := by
  intro d
  induction d with
  | zero =>
    intro x acc vs ov Hc hx hp ho ha hal h
    obtain rfl : x = n := by omega
    rw [wp_round c86_l0.eq_1]
    simp [go_sem, hp.n]
    exact h vs ov Hc hp ho (by simpa using ha)
  | succ d ih =>
    intro x acc vs ov Hc hx hp ho ha hal h
    have hxn : x < n := by omega
    have hp8 : 7 ^ k ≤ 7 ^ 7 := Nat.pow_le_pow_right (by decide) hk
    have hx8 : x * 7 ^ k ≤ 7 * 7 ^ 7 := Nat.mul_le_mul (by omega) hp8
    have hpl := hp.1
    have h87 := fun (P : Bool) (B C : Nat) (H : Heap) (Q : AV → Heap → Prop) => k87 (pure := P) (base := B) (bar := C) (H := H) (Q := Q) hs (by omega) (x := x)
    have h63 := fun (P : Bool) (B C : Nat) (H : Heap) (Q : AV → Heap → Prop) => k63 (pure := P) (base := B) (bar := C) (H := H) (Q := Q) hq hl (a := (lastN s : Int)) (b := (x : Int))
    rw [wp_round c86_l0.eq_1]
    simp only [List.range'_succ, List.flatMap_cons, ← List.append_assoc] at h
    have hz := i64_suc (show x < 1000000 by omega)
    cases e1 : s.contains x
    · have m1 : x ∉ s := by simpa using e1
      cases e2 : beatZ l (lastN s) x
      · rw [bitL_beat, e1, e2] at h
        simp only [Bool.and_false, Bool.false_eq_true, if_false, List.append_nil] at h
        simp [go_sem, hp.n, hxn, h87, h63, m1, e2, hp.q, hz]
        exact ih (x + 1) acc vs ov Hc (by omega) hp ho ha (Nat.le_trans hal (Nat.mul_le_mul_right _ (by omega))) h
      · rw [bitL_beat, e1, e2] at h
        simp only [Bool.not_false, Bool.and_true, if_true] at h
        have wrapk : IntKind.i64.wrap (k : Int) = (k : Int) := i64_nat (by omega)
        simp [go_sem, hp.n, hxn, h87, h63, m1, e2, hp.q, hp.h, aop, chunks, own_get]
        refine app_lst0 hs (by omega) (fun hb0 => absurd hb0 hs0) (fun _ => ?_)
        simp [go_sem, aop, chunks]
        have o1 : Own (H.length + 1) 1 (nats s) (.vec Hc.length 0 0 s.length 1) (Hc ++ [.row 0 (nats s) 0 false]) :=
          .inr ⟨Hc.length, 0, 0, by simpa [nats_eq_nil] using hs0, by omega, by simp, by simp [nats_length], by simp⟩
        refine o1.app (xs := [.int .i64 (x : Int)]) (by simp; omega) (by decide) (Nat.one_dvd _) (fun c hc => by simp [AV.cells] at hc; subst hc; exact Plain.int) rfl (Nat.one_dvd _) (by omega) (by omega) (by simp [nats_length, AV.cells]; omega) fun v2 H2 tc2 o2 k2 => ?_
        have hid2 : ∀ j, idOf v2 = some j → Hc.length ≤ j := fun j hj => by
          rcases k2.id j hj with h1 | h1
          · simp [idOf] at h1; omega
          · simp at h1; omega
        have hl2 : Hc.length ≤ H2.length := by have := k2.len; simp at this; omega
        have hs2 : ∀ j, j < Hc.length → H2[j]? = Hc[j]? := fun j hj => by
          rw [k2.same j (by simp; omega) (by simp [idOf]; omega), List.getElem?_append_left hj]
        have hc2 : H.length ∉ tc2 := fun hc => by
          have := k2.tc _ hc
          simp [idOf] at this
          omega
        have o2 : Own (H.length + 1) 1 (nats (s ++ [x])) v2 H2 := by
          rw [nats_append, nats_one]
          simpa [AV.cells] using o2
        obtain ⟨H3, f1, f2, f3, f4⟩ := o2.frz (d := 5) (bar := bar) (by decide) (Nat.one_dvd _) nats_plain (by omega)
        rw [show 5 + 3 = 8 from rfl] at f1
        have same3 : ∀ j, j < Hc.length → H3[j]? = Hc[j]? := fun j hj => by
          rw [f4 j (by intro hc; have := hid2 j hc; omega)]
          exact hs2 j hj
        have hp3 : Pre H n q H3 := hp.next (by omega) fun j hj => same3 j (by omega)
        have o3 : Own (H.length + 1) 1 vs ov H3 := ho.mono fun j hj => same3 j (ho.lt hj).2
        simp [go_sem, wrapk, call86, hq.frz, f1]
        refine hrec (s ++ [x]) _ H3 true _ bar _ isL.out (by simp) (by simp; omega) (by omega) fun r hr => ?_
        have hrl := chainsR_len (l := l) (b := b) hn k (s ++ [x])
        simp [go_sem]
        rcases hr with ⟨rfl, he⟩ | ⟨ex, ws, rfl, hw⟩
        · refine o3.app_nil (by decide) (Nat.one_dvd _) (by rw [ha.length]; omega) ?_
          simp [go_sem, hc2, hz]
          rw [he] at h
          refine ih (x + 1) acc vs ov H3 (by omega) hp3 o3 ha (Nat.le_trans hal (Nat.mul_le_mul_right _ (by omega))) ?_
          simpa using h
        · refine o3.app (by omega) (by decide) (Nat.one_dvd _) (by rw [hw.flat]; exact hw.plain) (by rw [hw.flat]; exact hw.noVecs) (Nat.one_dvd _) (by omega) (by omega) (by
            rw [hw.flat, List.length_append, ha.length, hw.length]
            have : 7 ^ 7 = 823543 := by decide
            omega) fun v4 H4 tc4 o4 k4 => ?_
          rw [hw.flat] at o4
          have hp4 : Pre H n q H4 := hp3.next k4.len fun j hj => k4.same j (by omega) fun hc => by have := (o3.lt hc).1; omega
          simp [go_sem, hc2, hz]
          refine ih (x + 1) (acc ++ chainsR l n b k (s ++ [x])) (vs ++ ws) v4 H4 (by omega) hp4 o4 (ha.append hw) (by
            rw [List.length_append, Nat.succ_mul]; omega) ?_
          exact h
    · have m1 : x ∈ s := by simpa using e1
      rw [e1] at h
      simp only [Bool.not_true, Bool.false_and, Bool.false_eq_true, if_false, List.append_nil] at h
      simp [go_sem, hp.n, hxn, h87, m1, hp.q, hz]
      exact ih (x + 1) acc vs ov Hc (by omega) hp ho ha (Nat.le_trans hal (Nat.mul_le_mul_right _ (by omega))) h
theorem lastN_get {s : List Nat} (h : s ≠ []) : s.length - 1 < s.length ∧ ∀ hi : s.length - 1 < s.length, s[s.length - 1] = lastN s := by
  have := List.length_pos_iff.2 h
  refine ⟨by omega, fun hi => ?_⟩
  unfold lastN
  rw [List.getD_eq_getElem?_getD, List.getElem?_eq_getElem hi]; rfl
theorem f86 {n b : Nat} {q : AV} {l : List ZZ} (hq : isP q l) (hl : l.length < 1000) (hn : n ≤ 7) : ∀ k, k ≤ 7 → Rec86 n b q l k
  | 0, _ => fun s sv H pure base bar Q hs hs0 hsl hbar h => by
    have e0 : H ++ [.row 0 [.int .i64 (n : Int), q] 0 true] = HI H n q := rfl
    have hpos := List.length_pos_iff.2 hs0
    have e1 : IntKind.i64.wrap ((s.length : Int) - 1) = ((s.length - 1 : Nat) : Int) := by
      rw [show (s.length : Int) - 1 = ((s.length - 1 : Nat) : Int) by omega, i64_nat (by omega)]
    have hix : ∀ {H : Heap} {K : AV → Heap → List Nat → Prop}, ixaSWp 1 (some sv) (some (.int .i64 ((s.length - 1 : Nat) : Int))) H K = K (.fp (.int .i64 (lastN s : Nat))) H [] := fun {H K} => by rw [hs.ix (by omega), (lastN_get hs0).2]
    generalize s.length - 1 = m at *
    unfold chainsR at h
    by_cases hb : lastN s = b
    · rw [if_pos hb] at h
      have hll : isLL (.lst 1 true [sv]) [s] := .inr ⟨true, [sv], rfl, hs, trivial⟩
      simp [go_sem, WpFun, c86, e0, hs.len, e1, hix, natEq, hb, aop, hs.frz, hs.cells, chunks, hs.isTup, hs.top, HI_take]
      exact h _ hll
    · rw [if_neg hb] at h
      simp [go_sem, WpFun, c86, e0, hs.len, e1, hix, natEq, hb, HI_take]
      exact h _ (.inl ⟨rfl, rfl⟩)
  | k + 1, hk => fun s sv H pure base bar Q hs hs0 hsl hbar h => by
    have hb' := bar_ok (pure := pure) hbar
    have e0 : H ++ [.row 0 [.int .i64 (n : Int), q] 0 true] = HI H n q := rfl
    have hpos := List.length_pos_iff.2 hs0
    have e1 : IntKind.i64.wrap ((s.length : Int) - 1) = ((s.length - 1 : Nat) : Int) := by
      rw [show (s.length : Int) - 1 = ((s.length - 1 : Nat) : Int) by omega, i64_nat (by omega)]
    have hix : ∀ {H : Heap} {K : AV → Heap → List Nat → Prop}, ixaSWp 1 (some sv) (some (.int .i64 ((s.length - 1 : Nat) : Int))) H K = K (.fp (.int .i64 (lastN s : Nat))) H [] := fun {H K} => by rw [hs.ix (by omega), (lastN_get hs0).2]
    generalize s.length - 1 = m at *
    have hne : ¬ ((k : Int) + 1 = 0) := by omega
    simp [go_sem, WpFun, c86, e0, hs.len, e1, hix, hne] at hb' ⊢
    generalize (if pure = true then H.length else bar) = bar' at hb' ⊢
    refine l86 hq hl hn hs hs0 (by omega) (by omega) (f86 hq hl hn k (by omega)) hb' n 0 [] [] .nils _ (by omega) Pre.refl Own.nil trivial (by simp) ?_
    intro vs' ov' Hc' hp' ho' ha'
    obtain ⟨H3, f1, f2, f3, f4⟩ := ho'.frz (d := 5) (bar := bar') (by decide) (Nat.one_dvd _) ha'.plain (by omega)
    rw [show 5 + 3 = 8 from rfl] at f1
    have hll := isLL.out ha'
    simp [go_sem, f1, hll.top]
    have hp3 : Pre H n q H3 := hp'.next (by omega) fun j hj => f4 j (fun hc => by have := (ho'.lt hc).1; omega)
    rw [hp3.take]
    refine h _ ?_
    simpa [chainsR] using hll
theorem k86 {n b k : Nat} {q sv : AV} {s : List Nat} {l : List ZZ} (hq : isP q l) (hl : l.length < 1000) (hn : n ≤ 7) (hk : k ≤ 7) (hs : isL sv s) (hs0 : s ≠ []) (hsl : s.length ≤ 90) (hbar : bar ≤ H.length) (h : ∀ v, isLL v (chainsR l n b k s) → Q v H) :
    WpCall E pure base bar 86 [.agg [.int .i64 (n : Int), q], sv, .int .i64 (b : Int), .int .i64 (k : Int)] H Q := by
  rw [call86]
  simp [go_sem, hq.frz, hs.frz]
  exact f86 hq hl hn k hk s sv H pure base bar Q hs hs0 (by omega) hbar h
end Go.Proofs.Ytnlebofipoepfaa.Code
end

section
namespace Go.Proofs.Ytnlebofipoepfaa.Code
open Go Go.Ab
variable {pure : Bool} {base bar : Nat} {H : Heap} {Q : AV → Heap → Prop}

/-! 60: the first one of the shortest chains -/
def chainF (l : List ZZ) (n a b : Nat) : Nat → Nat → List Nat
  | 0, _ => []
  | d + 1, more => match chainsR l n b more [a] with
    | [] => chainF l n a b d (more + 1)
    | x :: _ => x
theorem chainsR_mem {l : List ZZ} {n b : Nat} : ∀ {k : Nat} {s x : List Nat}, x ∈ chainsR l n b k s → x.length = s.length + k
  | 0, s, x, h => by
    unfold chainsR at h
    split at h
    · simp at h; subst h; rfl
    · simp at h
  | k + 1, s, x, h => by
    unfold chainsR at h
    obtain ⟨y, _, hy⟩ := List.mem_flatMap.1 h
    split at hy
    · have := chainsR_mem hy
      simp at this; omega
    · simp at hy
theorem l60 {n a b most : Nat} {q : AV} {l : List ZZ} (hq : isP q l) (hl : l.length < 1000) (hn : n ≤ 7) (hm : most ≤ 7) (hbar : bar ≤ H.length) {R : PQ} :
    ∀ (d more : Nat), more + d = most →
    (∀ v, isL v (chainF l n a b d more) → v ≠ .nils → chainF l n a b d more ≠ [] → R .ret [(8, v)] (HI H n q)) →
    (chainF l n a b d more = [] → R (.exit 0) [(1, .int .i64 (a : Nat)), (2, .int .i64 (b : Nat)), (3, .int .i64 (most : Nat)), (4, .ptr H.length 0 0), (9, .int .i64 (most : Nat)), (13, .bool false)] (HI H n q)) →
    Wp E base bar (.loop c60_l0) [(1, .int .i64 (a : Nat)), (2, .int .i64 (b : Nat)), (3, .int .i64 (most : Nat)), (4, .ptr H.length 0 0), (9, .int .i64 (more : Nat))] (HI H n q) R := by
  intro d
  induction d with
  | zero =>
    intro more hd h1 h2
    obtain rfl : more = most := by omega
    rw [wp_round c60_l0.eq_1]
    simp [go_sem]
    exact h2 rfl
  | succ d ih =>
    intro more hd h1 h2
    have hlt : more < most := by omega
    rw [wp_round c60_l0.eq_1]
    simp [go_sem, hlt, HI_h, aop, fillA, setCells, chunks]
    refine k86 (s := [a]) hq hl hn (by omega) (.inr ⟨true, rfl⟩) (by simp) (by simp) (by rw [HI_len]; omega) fun r hr => ?_
    unfold chainF at h1 h2
    have hmem := fun x (hx : x ∈ chainsR l n b more [a]) => chainsR_mem hx
    generalize chainsR l n b more [a] = L at *
    cases L with
    | nil =>
      simp [go_sem, hr.len, i64_suc (show more < 1000000 by omega)]
      exact ih (more + 1) (by omega) h1 h2
    | cons x rest =>
      obtain ⟨u, hu1, hu2⟩ := isLL.ix0 hr
      have hxl := hmem x (List.mem_cons_self ..)
      have hx0 : x ≠ [] := fun he => by rw [he] at hxl; simp at hxl; omega
      have hun : u ≠ .nils := fun he => by
        rcases hu1 with ⟨_, h0⟩ | ⟨ex, h0⟩
        · exact hx0 h0
        · rw [he] at h0; cases h0
      simp [go_sem, hr.len, hu2]
      rw [aload_fpL hu1]
      simp [go_sem]
      exact h1 u hu1 hun hx0
theorem k60 {n a b most : Nat} {q : AV} {l : List ZZ} (hq : isP q l) (hl : l.length < 1000) (hn : n ≤ 7) (hm : most ≤ 7) (hbar : bar ≤ H.length)
    (h1 : ∀ v, isL v (chainF l n a b most 0) → v ≠ .nils → chainF l n a b most 0 ≠ [] → Q v H) (h2 : chainF l n a b most 0 = [] → Q .nils H) :
    WpCall E pure base bar 60 [.agg [.int .i64 (n : Int), q], .int .i64 (a : Nat), .int .i64 (b : Nat), .int .i64 (most : Nat)] H Q := by
  rw [call60]
  have hb' := bar_ok (pure := pure) hbar
  have e0 : H ++ [.row 0 [.int .i64 (n : Int), q] 0 true] = HI H n q := rfl
  simp [go_sem, WpFun, c60, hq.frz, e0] at hb' ⊢
  generalize (if pure = true then H.length else bar) = bar' at hb' ⊢
  refine l60 hq hl hn hm hb' most 0 (by omega) (fun v hv hvn hc => ?_) fun hc => ?_
  · simp [go_sem, hv.frz, hv.top, HI_take]
    exact h1 v hv hvn hc
  · simp [go_sem, HI_take]
    exact h2 hc

/-! what chains say -/
theorem lastN_snoc {s : List Nat} {x : Nat} : lastN (s ++ [x]) = x := by simp [lastN, List.getD_eq_getElem?_getD]
theorem flatMap_first {α : Type} {f : Nat → List α} {A B : List Nat} {x : Nat} {h : α} {t : List α} (hA : ∀ y ∈ A, f y = []) (hx : f x = h :: t) : (A ++ x :: B).flatMap f = h :: (t ++ B.flatMap f) := by
  rw [List.flatMap_append, List.flatMap_cons, hx, List.flatMap_eq_nil_iff.2 hA]
  simp
/-- least steps to the end -/
def greedy (f : Nat → Nat → Bool) (n b : Nat) : Nat → Nat → List Nat
  | 0, _ => []
  | d + 1, c => match (List.range' 0 n).find? fun x => f c x && reachR f n x d b with
    | some x => x :: greedy f n b d x
    | none => []
section
variable {l : List ZZ} {n b : Nat}
theorem chains_sound (hd : ∀ x y, bitL l x y = true → x < n ∧ y < n) : ∀ {k : Nat} {s : List Nat}, lastN s < n → chainsR l n b k s ≠ [] → reachR (bitL l) n (lastN s) k b = true
  | 0, s, _, h => by
    unfold chainsR at h
    split at h
    · rename_i he; simp [reachR, he]
    · exact absurd rfl h
  | k + 1, s, hlt, h => by
    unfold chainsR at h
    have hex : ∃ x, x < n ∧ (if (!s.contains x && bitL l (lastN s) x) = true then chainsR l n b k (s ++ [x]) else []) ≠ [] := by
      apply Decidable.byContradiction
      intro hno
      refine h (List.flatMap_eq_nil_iff.2 fun x hx => ?_)
      rw [List.mem_range'_1] at hx
      apply Decidable.byContradiction
      intro hc
      exact hno ⟨x, by omega, hc⟩
    obtain ⟨x, hx, hc⟩ := hex
    split at hc
    · rename_i hcond
      rw [Bool.and_eq_true] at hcond
      have := chains_sound hd (k := k) (s := s ++ [x]) (by rw [lastN_snoc]; exact hx) hc
      rw [lastN_snoc] at this
      exact (reach_front hd hlt).2 (.inr ⟨x, hx, hcond.2, this⟩)
    · exact absurd rfl hc
theorem chains_head (hd : ∀ x y, bitL l x y = true → x < n ∧ y < n) : ∀ {d : Nat} {s : List Nat}, lastN s < n → isLv (bitL l) n b (lastN s) d → (∀ y ∈ s, ∀ j, j < d → reachR (bitL l) n y j b = false) →
    ∃ rest, chainsR l n b d s = (s ++ greedy (bitL l) n b d (lastN s)) :: rest
  | 0, s, hlt, h, _ => by
    have := h.1
    simp only [reachR, decide_eq_true_eq] at this
    refine ⟨[], ?_⟩
    unfold chainsR greedy
    rw [if_pos this.symm, List.append_nil]
  | d + 1, s, hlt, h, hs => by
    obtain ⟨u, u1, u2, u3⟩ := h.next hd hlt
    obtain ⟨x, hx⟩ : ∃ x, (List.range' 0 n).find? (fun x => bitL l (lastN s) x && reachR (bitL l) n x d b) = some x := by
      cases hf : (List.range' 0 n).find? (fun x => bitL l (lastN s) x && reachR (bitL l) n x d b) with
      | some x => exact ⟨x, rfl⟩
      | none =>
        rw [List.find?_eq_none] at hf
        exact absurd (by rw [u2, u3.1]; rfl) (hf u (List.mem_range'_1.2 (by omega)))
    have hg : greedy (bitL l) n b (d + 1) (lastN s) = x :: greedy (bitL l) n b d x := by
      rw [greedy.eq_2, hx]
    rw [hg]
    obtain ⟨h1, A, B, h2, h3⟩ := List.find?_eq_some_iff_append.1 hx
    rw [Bool.and_eq_true] at h1
    have hxs : s.contains x = false := by
      cases hc : s.contains x
      · rfl
      · rw [List.contains_iff_mem] at hc
        have := hs x hc d (by omega)
        rw [h1.2] at this; cases this
    have hlx := h.pred hd hlt h1.1 h1.2
    obtain ⟨rest, hr⟩ := chains_head hd (d := d) (s := s ++ [x]) (by rw [lastN_snoc]; exact (hd _ _ h1.1).2) (by rw [lastN_snoc]; exact hlx) fun y hy j hj => by
      rcases List.mem_append.1 hy with hy | hy
      · exact hs y hy j (by omega)
      · rw [List.mem_singleton] at hy; subst hy
        exact hlx.2 j hj
    rw [lastN_snoc] at hr
    unfold chainsR
    rw [h2]
    refine ⟨_, (flatMap_first (t := rest) (h := s ++ x :: greedy (bitL l) n b d x) (fun y hy => ?_) ?_)⟩
    · split
      · rename_i hc
        rw [Bool.and_eq_true] at hc
        have hno := h3 y hy
        rw [hc.2, Bool.true_and] at hno
        apply Decidable.byContradiction
        intro hne
        have hyn : y < n := (hd _ _ hc.2).2
        have := chains_sound hd (s := s ++ [y]) (by rw [lastN_snoc]; exact hyn) hne
        rw [lastN_snoc] at this
        rw [this] at hno; cases hno
      · rfl
    · rw [hxs, h1.1]
      simp only [Bool.not_false, Bool.and_self, if_true]
      rw [hr, List.append_assoc]; rfl
/-- the first chain, of those with the fewest steps -/
theorem chainF_some (hd : ∀ x y, bitL l x y = true → x < n ∧ y < n) {a d : Nat} (ha : a < n) (h : isLv (bitL l) n b a d) : ∀ {c more : Nat}, more ≤ d → d < more + c → chainF l n a b c more = a :: greedy (bitL l) n b d a
  | 0, more, h1, h2 => by omega
  | c + 1, more, h1, h2 => by
    have hla : lastN [a] = a := rfl
    unfold chainF
    by_cases e : more = d
    · subst e
      obtain ⟨rest, hr⟩ := chains_head hd (s := [a]) (by rw [hla]; exact ha) (by rw [hla]; exact h) fun y hy j hj => by
        simp at hy; subst hy; exact h.2 j hj
      rw [hr]; rfl
    · have hn : chainsR l n b more [a] = [] := by
        apply Decidable.byContradiction
        intro hc
        have := chains_sound hd (s := [a]) (by rw [hla]; exact ha) hc
        rw [hla, h.2 more (by omega)] at this; cases this
      rw [hn]
      exact chainF_some hd ha h (by omega) (by omega)
theorem chainF_none (hd : ∀ x y, bitL l x y = true → x < n ∧ y < n) {a : Nat} (ha : a < n) : ∀ {c more : Nat}, (∀ j, j < more + c → reachR (bitL l) n a j b = false) → chainF l n a b c more = []
  | 0, more, _ => rfl
  | c + 1, more, h => by
    have hla : lastN [a] = a := rfl
    unfold chainF
    have hn : chainsR l n b more [a] = [] := by
      apply Decidable.byContradiction
      intro hc
      have := chains_sound hd (s := [a]) (by rw [hla]; exact ha) hc
      rw [hla, h more (by omega)] at this; cases this
    rw [hn]
    exact chainF_none hd ha fun j hj => h j (by omega)
theorem lv_ex {f : Nat → Nat → Bool} {n a b m : Nat} (h : reachR f n a m b = true) : ∃ d, d ≤ m ∧ isLv f n b a d := by
  obtain ⟨d, d1, d2, d3⟩ := least_ex (n := m + 1) (p := fun d => reachR f n a d b = true) ⟨m, by omega, h⟩
  exact ⟨d, by omega, d2, fun j hj => by simpa using d3 j hj⟩
theorem chainF_iff (hd : ∀ x y, bitL l x y = true → x < n ∧ y < n) {a most : Nat} (ha : a < n) : chainF l n a b (most + 1) 0 ≠ [] ↔ reachR (bitL l) n a most b = true := by
  constructor
  · intro h
    cases hr : reachR (bitL l) n a most b
    · refine absurd (chainF_none hd ha fun j hj => ?_) h
      cases hj2 : reachR (bitL l) n a j b
      · rfl
      · rw [reachR_le hj2 (by omega)] at hr; cases hr
    · rfl
  · intro h
    obtain ⟨d, d1, d2⟩ := lv_ex h
    rw [chainF_some hd ha d2 (Nat.zero_le _) (by omega)]
    simp
theorem OkC.dom {n : Nat} {l : List ZZ} (h : OkC n l) : ∀ x y, bitL l x y = true → x < n ∧ y < n := fun x y hxy => h.board.1.dom x y (by rw [h.board.2]; exact hxy)
end
end Go.Proofs.Ytnlebofipoepfaa.Code
end

section
namespace Go.Proofs.Ytnlebofipoepfaa.Code
open Go Go.Ab
variable {pure : Bool} {base bar : Nat} {H : Heap} {Q : AV → Heap → Prop}

theorem eqWp_nil {neg : Bool} {v : AV} {l : List Nat} (hv : isL v l) (hn : v ≠ .nils) {K : AV → Heap → List Nat → Prop} : eqWp neg .nilS (some v) (some .nils) H K = K (.bool neg) H [] := by
  rcases hv with ⟨rfl, _⟩ | ⟨ex, rfl⟩
  · exact absurd rfl hn
  · simp [eqWp, aeq]
theorem eqWp_nil0 {neg : Bool} {K : AV → Heap → List Nat → Prop} : eqWp neg .nilS (some .nils) (some .nils) H K = K (.bool (!neg)) H [] := by
  simp [eqWp, aeq]
/-! 21: the reference's best -/
theorem l21a {n a : Nat} {q ov : AV} {l : List ZZ} {H0 : Heap} (hq : isP q l) (hl : l.length < 1000) (hn : n ≤ 7) (hd : ∀ x y, bitL l x y = true → x < n ∧ y < n) (ha : a < n) {Hc : Heap} (hp : Pre H0 n q Hc) (hbar : bar ≤ H0.length) {R : PQ} :
    ∀ (k b : Nat) (f : Bool), b + k = n →
    R (.exit 2) [(1, .ptr H0.length 0 0), (5, ov), (6, .int .i64 (a : Nat)), (7, .bool (f && (List.range' b k).all (reachR (bitL l) n a 2))), (8, .int .i64 (n : Nat)), (23, .bool false)] Hc →
    Wp E base bar (.loop c21_l0) [(1, .ptr H0.length 0 0), (5, ov), (6, .int .i64 (a : Nat)), (7, .bool f), (8, .int .i64 (b : Nat))] Hc R := by
  have hpl := hp.1
  intro k
  induction k with
  | zero =>
    intro b f hb h
    obtain rfl : b = n := by omega
    rw [wp_round c21_l0.eq_1]
    simp [go_sem, hp.n]
    simpa using h
  | succ k ih =>
    intro b f hb h
    have hlt : b < n := by omega
    have hz := i64_suc (show b < 1000000 by omega)
    rw [wp_round c21_l0.eq_1]
    rw [List.range'_succ, List.all_cons] at h
    cases f
    · simp [go_sem, hp.n, hlt, hz]
      exact ih (b + 1) false (by omega) (by simpa using h)
    · simp only [Bool.true_and] at h
      simp [go_sem, hp.n, hlt, hp.h]
      refine k60 (most := 3) hq hl hn (by decide) (by omega) (fun v hv hvn hc => ?_) fun hc => ?_
      · have hr := (chainF_iff hd ha (most := 2)).1 hc
        rw [hr, Bool.true_and] at h
        have next := ih (b + 1) true (by omega) (by simpa using h)
        simp [go_sem, eqWp_nil hv hvn, hz]
        exact next
      · have hr : reachR (bitL l) n a 2 b = false := by
          cases hr : reachR (bitL l) n a 2 b
          · rfl
          · exact absurd hc ((chainF_iff hd ha (most := 2)).2 hr)
        rw [hr, Bool.false_and] at h
        have next := ih (b + 1) false (by omega) (by simpa using h)
        simp [go_sem, eqWp_nil0, hz]
        exact next
theorem l21 {n : Nat} {q : AV} {l : List ZZ} (hq : isP q l) (hl : l.length < 1000) (hn : n ≤ 7) (hd : ∀ x y, bitL l x y = true → x < n ∧ y < n) (hbar : bar ≤ H.length) {R : PQ} :
    ∀ (k a : Nat) (ov : AV) (Hc : Heap), a + k = n → Grow 1 (nats ((List.range a).filter (kingB (bitL l) n))) (HI H n q) ov Hc →
    (∀ ov' Hc', Grow 1 (nats ((List.range n).filter (kingB (bitL l) n))) (HI H n q) ov' Hc' → R (.exit 0) [(1, .ptr H.length 0 0), (5, ov'), (6, .int .i64 (n : Nat)), (17, .bool false)] Hc') →
    Wp E H.length bar (.loop c21_l1) [(1, .ptr H.length 0 0), (5, ov), (6, .int .i64 (a : Nat))] Hc R := by
  intro k
  induction k with
  | zero =>
    intro a ov Hc ha hg h
    obtain rfl : a = n := by omega
    have ln : aload Hc ⟨false, 1⟩ (.ptr H.length 0 0) = some (.int .i64 (a : Nat)) := by rw [aload_ptr (hg.get HI_get)]; rfl
    rw [wp_round c21_l1.eq_1]
    simp [go_sem, ln]
    exact h ov Hc hg
  | succ k ih =>
    intro a ov Hc ha hg h
    have hlt : a < n := by omega
    have hgl := hg.len
    rw [HI_len] at hgl
    have hp : Pre H n q Hc := ⟨hgl, fun j hj => by
      have hj2 : j < (HI H (n : Int) q).length := by rw [HI_len]; exact hj
      rw [hg.get (List.getElem?_eq_getElem hj2), List.getElem?_eq_getElem hj2]⟩
    have hz := i64_suc (show a < 1000000 by omega)
    have hst : (List.range (a + 1)).filter (kingB (bitL l) n) = (List.range a).filter (kingB (bitL l) n) ++ if kingB (bitL l) n a = true then [a] else [] := by
      rw [List.range_succ, List.filter_append]
      cases hc : kingB (bitL l) n a <;> simp [hc]
    have hdef : (List.range' 0 n).all (reachR (bitL l) n a 2) = kingB (bitL l) n a := by unfold kingB; rw [List.range_eq_range']
    rw [wp_round c21_l1.eq_1]
    simp [go_sem, hp.n, hlt]
    refine l21a hq hl hn hd hlt hp hbar n 0 true (by omega) ?_
    rw [hdef, Bool.true_and]
    cases hc : kingB (bitL l) n a
    · rw [hc] at hst
      simp [go_sem, hz]
      refine ih (a + 1) ov Hc (by omega) ?_ h
      rw [hst]; simpa using hg
    · rw [hc] at hst
      simp [go_sem, aop, fillA, setCells, chunks]
      refine hg.nat (by rw [HI_len]; omega) (by rw [HI_len]; omega) (by have := List.length_filter_le (kingB (bitL l) n) (List.range a); simp at this; omega) fun v' H' tc g' => ?_
      simp [go_sem, hz]
      refine ih (a + 1) v' H' (by omega) ?_ h
      rw [hst]; simpa using g'
theorem k21 {n : Int} {q : AV} {l : List ZZ} (hq : isP q l) (hl : l.length < 1000) (hbar : bar ≤ H.length)
    (h1 : checkS n l ≠ 0 → Q (.tup [.nils, .int .i64 (checkS n l)]) H)
    (h2 : ∀ m : Nat, n = m → OkC m l → ∀ v, isL v (bestS m (boardF l fun _ => 0)) → Q (.tup [v, .int .i64 0]) H) :
    WpCall E pure base bar 21 [.agg [.int .i64 n, q]] H Q := by
  rw [call21]
  have hb' := bar_ok (pure := pure) hbar
  have e0 : H ++ [.row 0 [.int .i64 n, q] 0 true] = HI H n q := rfl
  simp [go_sem, WpFun, c21, hq.frz, e0, HI_h, k24 hq hl] at hb' ⊢
  generalize (if pure = true then H.length else bar) = bar' at hb' ⊢
  by_cases hc : checkS n l = 0
  · obtain ⟨m, rfl, hok⟩ := OkC.of hc
    have hbd := hok.board
    simp [go_sem, hc]
    refine l21 hq hl hok.le hok.dom hb' m 0 .nils _ (by omega) Grow.nil fun v' H' g => ?_
    obtain ⟨H2, f1, f2, f3, f4⟩ := g.frz (d := 5) (bar := bar') (by decide) (Nat.one_dvd _) nats_plain (by rw [HI_len]; omega)
    rw [show 5 + 3 = 8 from rfl] at f1
    have e5 : H2.take H.length = H := by
      have := congrArg (List.take H.length) f4
      rw [List.take_take, HI_len, Nat.min_eq_left (by omega), HI_take] at this
      exact this
    have hv := isL.out (l := (List.range m).filter (kingB (bitL l) m))
    have heq : (List.range m).filter (kingB (bitL l) m) = bestS m (boardF l fun _ => 0) := by
      unfold bestS
      apply List.filter_congr
      intro x hx
      exact (best_king hbd.1 hbd.2 (List.mem_range.1 hx)).symm
    simp [go_sem, f1, hv.top, e5]
    rw [heq] at hv ⊢
    exact h2 m rfl hok _ hv
  · simp [go_sem, hc, HI_take]
    exact h1 hc

/-! 17: the contest for the reference -/
def HG (H : Heap) (n : Int) (q v : AV) : Heap := H ++ [.row 0 [.int .i64 n, q] 0 true, .row 0 [.int .i64 0, .nils] 0 true, .row 0 [.int .i64 n, v] 0 true]
theorem HG_len {n : Int} {q v : AV} : (HG H n q v).length = H.length + 3 := by simp [HG]
theorem HG_0 {n : Int} {q v : AV} : (HG H n q v)[H.length]? = some (.row 0 [.int .i64 n, q] 0 true) := by simp [HG, own_get0]
theorem HG_1 {n : Int} {q v : AV} : (HG H n q v)[H.length + 1]? = some (.row 0 [.int .i64 0, .nils] 0 true) := by simp [HG, own_get]
theorem HG_2 {n : Int} {q v : AV} : (HG H n q v)[H.length + 2]? = some (.row 0 [.int .i64 n, v] 0 true) := by simp [HG, own_get]
theorem HG_set {n : Int} {q v v' : AV} : (HG H n q v).set (H.length + 2) (.row 0 [.int .i64 n, v'] 0 true) = HG H n q v' := by simp [HG, own_set]
theorem l17 {n : Int} {q : AV} {l : List ZZ} {H0 : Heap} (hq : isP q l) (hl : l.length < 1000) (hbar : bar ≤ H0.length) {R : PQ} :
    ∀ (k i : Nat) (v : AV) (Hc : Heap), i + k = l.length → Grow 2 (prs (l.take i)) (HG H0 n q v) v Hc →
    (∀ v' Hc', Grow 2 (prs l) (HG H0 n q v') v' Hc' → R (.exit 0) [(1, .ptr H0.length 0 0), (2, .ptr (H0.length + 1) 0 0), (3, .ptr (H0.length + 2) 0 0), (4, .int .i64 (l.length : Nat)), (12, .bool false)] Hc') →
    Wp E H0.length bar (.loop c17_l0) [(1, .ptr H0.length 0 0), (2, .ptr (H0.length + 1) 0 0), (3, .ptr (H0.length + 2) 0 0), (4, .int .i64 (i : Nat))] Hc R := by
  intro k
  induction k with
  | zero =>
    intro i v Hc hi g h
    obtain rfl : i = l.length := by omega
    rw [List.take_length] at g
    have lq : aload Hc ⟨false, 1⟩ (.ptr H0.length 0 1) = some q := by rw [aload_ptr (g.get HG_0)]; rfl
    rw [wp_round c17_l0.eq_1]
    simp [go_sem, lq, hq.len]
    exact h v Hc g
  | succ k ih =>
    intro i v Hc hi g h
    have hlt : i < l.length := by omega
    obtain ⟨⟨a, b⟩, hp⟩ : ∃ p, l[i] = p := ⟨_, rfl⟩
    have lq : aload Hc ⟨false, 1⟩ (.ptr H0.length 0 1) = some q := by rw [aload_ptr (g.get HG_0)]; rfl
    have lv : aload Hc ⟨false, 1⟩ (.ptr (H0.length + 2) 0 1) = some v := by rw [aload_ptr (g.get HG_2)]; rfl
    have lf : aload Hc ⟨true, 2⟩ (.fp (.agg [.int .i64 a, .int .i64 b])) = some (.agg [.int .i64 a, .int .i64 b]) := by simp [aload]
    rw [wp_round c17_l0.eq_1]
    simp [go_sem, lq, lv, lf, hq.len, hlt, hq.ix hlt, hp, zc, aop, fillA, setCells, chunks]
    refine g.pair (p := (a, b)) (by rw [HG_len]; omega) (by rw [HG_len]; omega) (by simp; omega) fun v' H' tc g' => ?_
    obtain ⟨s1, s2⟩ := grow_slot g'
    have hgl := g.len
    rw [HG_len] at hgl
    have g2 := g'.set (i := H0.length + 2) (b := .row 0 [.int .i64 n, v'] 0 true) (by rw [HG_len]; omega)
    rw [HG_set] at g2
    have next := ih (i + 1) v' _ (by omega) (by rw [List.take_succ_eq_append_getElem hlt, hp]; exact g2) h
    simp [go_sem]
    rw [storeWp_ptr (size := 1) (g'.get HG_2) s1 (by rw [s2]; rfl) (by omega) (by simp) (by omega) (.inl (by omega))]
    simp [go_sem, s2, setCells, i64_suc (show i < 1000000 by omega)]
    exact next
theorem k17 {n : Int} {q : AV} {l : List ZZ} (hq : isP q l) (hl : l.length < 1000) (hbar : bar ≤ H.length) (h : ∀ q', isP q' l → Q (.agg [.int .i64 n, q']) H) :
    WpCall E pure base bar 17 [.agg [.int .i64 n, q]] H Q := by
  rw [call17]
  have hb' := bar_ok (pure := pure) hbar
  have e0 : H ++ [Blk.row 0 [.int .i64 n, q] 0 true, .row 0 [.int .i64 0, .nils] 0 true, .row 0 [.int .i64 n, .nils] 0 true] = HG H n q .nils := rfl
  simp [go_sem, WpFun, c17, hq.frz, aload, own_get0, own_get, Ab.part, fillA, setCells, storeWp, astore, own_set] at hb' ⊢
  generalize (if pure = true then H.length else bar) = bar' at hb' ⊢
  rw [if_pos (by omega), e0]
  refine l17 hq hl hb' l.length 0 .nils _ (by omega) (by rw [List.take_zero]; exact .nil) fun v Hc g => ?_
  obtain ⟨s1, s2⟩ := grow_slot g
  have l2 : aload Hc ⟨true, 2⟩ (.ptr (H.length + 2) 0 0) = some (.agg [.int .i64 n, v]) := by rw [aload_ptr (g.get HG_2)]; rfl
  simp [go_sem, l2]
  rw [storeWp_ptr (size := 2) (g.get HG_1) rfl rfl (by omega) (by simp) (by omega) (.inl (by omega))]
  have g2 := g.set (i := H.length + 1) (b := .row 0 [.int .i64 n, v] 0 true) (by rw [HG_len]; omega)
  have e1 : ((HG H n q v).set (H.length + 1) (.row 0 [.int .i64 n, v] 0 true))[H.length + 1]? = some (.row 0 [.int .i64 n, v] 0 true) := by simp [HG, own_set, own_get]
  have e3 : ((HG H n q v).set (H.length + 1) (.row 0 [.int .i64 n, v] 0 true)).take H.length = H := by simp [HG, own_set]
  have hl3 : ((HG H n q v).set (H.length + 1) (.row 0 [.int .i64 n, v] 0 true)).length = H.length + 3 := by simp [HG_len]
  obtain ⟨H2, f1, f2, f3, f4⟩ := g2.frz (d := 4) (bar := bar') (by decide) ⟨_, prs_length⟩ prs_plain (by rw [hl3]; omega)
  have e5 : H2.take H.length = H := by
    have := congrArg (List.take H.length) f4
    rw [List.take_take, hl3, Nat.min_eq_left (by omega), e3] at this
    exact this
  rw [show 4 + 3 = 7 from rfl] at f1
  have l1 : aload (Hc.set (H.length + 1) (.row 0 [.int .i64 n, v] 0 true)) ⟨true, 2⟩ (.ptr (H.length + 1) 0 0) = some (.agg [.int .i64 n, v]) := by rw [aload_ptr (g2.get e1)]; rfl
  simp [go_sem, setCells, AV.cells, l1, f1, isP.out.top, e5]
  exact h _ isP.out
end Go.Proofs.Ytnlebofipoepfaa.Code
end

section
namespace Go.Ab
open Go.RowKit Go.ChangeShapes Go.WideShapes
variable {H : Type} {enc : TypeId × Value → H} {P : Program} {W W' : World} {base : Nat} {spare : Nat → Bool} {held : Bool}

/-- a struct of two numbers -/
theorem sh_pair2 {n : Nat} {e : TypeId} {k0 k1 : Field} {ys : List AV} (he : P.underlying e = some (.struct #[k0, k1])) (p0 : k0.offset = 0) (p1 : k1.offset = 1) (d0 : P.cellsOf k0.type = 1) (d1 : P.cellsOf k1.type = 1)
    (hk0 : P.underlying k0.type = some (.int .i64)) (hk1 : P.underlying k1.type = some (.int .i64)) (ce : P.cellsOf e = 2) (h : Sh P (n + 2) e ys) :
    ∃ a b : Int, ys = [.int .i64 a, .int .i64 b] := by
  unfold Sh at h
  rw [he] at h
  obtain ⟨hl, h⟩ := h
  have h0 := h k0 (by simp)
  have h1 := h k1 (by simp)
  rw [p0, d0] at h0
  rw [p1, d1] at h1
  unfold Sh at h0 h1
  rw [hk0] at h0
  rw [hk1] at h1
  obtain ⟨a, h0, _⟩ := h0
  obtain ⟨b, h1, _⟩ := h1
  rw [ce] at hl
  match ys, hl with
  | [x, y], _ =>
    simp at h0 h1
    exact ⟨a, b, by rw [h0, h1]⟩

theorem house2_vr {t e : TypeId} {f0 f1 k0 k1 : Field} {v : Value} {d : DataW H} {ps : List MemPlace} {r : Reach} {b0 : Nat}
    (ht : P.underlying t = some (.struct #[f0, f1])) (o0 : f0.offset = 0) (o1 : f1.offset = 1) (c0 : P.cellsOf f0.type = 1) (c1 : P.cellsOf f1.type = 1) (ct : P.cellsOf t = 2)
    (h0 : P.underlying f0.type = some (.int .i64)) (h1 : P.underlying f1.type = some (.slice e)) (he : P.underlying e = some (.struct #[k0, k1])) (p0 : k0.offset = 0) (p1 : k1.offset = 1) (d0 : P.cellsOf k0.type = 1) (d1 : P.cellsOf k1.type = 1) (hk0 : P.underlying k0.type = some (.int .i64)) (hk1 : P.underlying k1.type = some (.int .i64)) (ce : P.cellsOf e = 2)
    (hct : P.cellTypes P.depth t = some [f0.type, f1.type]) (hval : Value.okWide P W r b0 t v) (hd : DataW.Trod enc P W 0 spare held t v d ps) :
    ∃ n q l, VR (ctx0 W) (.agg [.int .i64 n, q]) v ∧ isP q l := by
  unfold Value.okWide at hval
  rw [ht] at hval
  obtain ⟨cs, rfl, hcs, ts, hts, _, hcell⟩ := hval
  rw [hct] at hts
  cases hts
  obtain ⟨fuel, hd⟩ := hd
  obtain ⟨xs, m, _, _, hl, hxl, hx⟩ := DataW.trod_struct ht hd
  have g0 := hx 0 f0 rfl
  have g1 := hx 1 f1 rfl
  have hxl2 : xs.length = 2 := hxl
  rw [List.getElem?_eq_getElem (by omega), o0, c0] at g0
  rw [List.getElem?_eq_getElem (by omega), o1, c1] at g1
  have hl2 : cs.toList.length = 2 := by simpa [ct] using hcs
  obtain ⟨u0, u1, hu⟩ : ∃ u0 u1, cs.toList = [u0, u1] := by
    match cs.toList, hl2 with
    | [a, b], _ => exact ⟨a, b, rfl⟩
  have hcl : (Value.agg cs).cells = cs := rfl
  rw [hcl, hu] at g0 g1
  simp at g0 g1
  obtain ⟨n, hn, _⟩ := DataW.trod_int h0 g0
  simp at hn
  subst hn
  have hcs1 : cs[1]? = some u1 := by
    have : cs.toList[1]? = some u1 := by rw [hu]; rfl
    simpa using this
  obtain ⟨u, hu1, hok⟩ := hcell 1 u1 hcs1
  simp at hu1
  subst hu1
  have hf : flatT P 2 e = true := by
    have g0 : flatT P 1 k0.type = true := by unfold flatT; rw [hk0]
    have g1 : flatT P 1 k1.type = true := by unfold flatT; rw [hk1]
    unfold flatT; rw [he]
    simp [rowed, p0, p1, d0, d1, ce, g0, g1]
  obtain ⟨q, q1, q2, q3⟩ := slice_vr (n := 2) h1 hf g1 hok
  have hP : ∃ l, isP q l := by
    rcases q3 with rfl | ⟨xs, rfl, hxs⟩
    · exact ⟨[], .nil⟩
    · obtain ⟨l, rfl⟩ := pairs_of (xs := xs) fun x hx => by
        obtain ⟨ys, rfl, hs⟩ := hxs x hx
        obtain ⟨a, b, rfl⟩ := sh_pair2 (n := 0) he p0 p1 d0 d1 hk0 hk1 ce hs
        exact ⟨a, b, by unfold wrapA; rw [he]⟩
      rw [ce]
      exact ⟨l, .lst⟩
  obtain ⟨l, hP⟩ := hP
  refine ⟨n, q, l, ?_, hP⟩
  have e : cs = #[.int .i64 n, u1] := by
    apply Array.toList_inj.1
    rw [hu]
  subst e
  refine .agg [.int .i64 n, q] #[.int .i64 n, u1] rfl (fun c hc => ?_) fun i c v hc hv => ?_
  · simp at hc
    rcases hc with rfl | rfl
    · rfl
    · exact q2
  · match i with
    | 0 => simp at hc hv; subst hc; subst hv; exact .int _ _
    | 1 => simp at hc hv; subst hc; subst hv; exact q1
    | i + 2 => simp at hc

end Go.Ab
end
