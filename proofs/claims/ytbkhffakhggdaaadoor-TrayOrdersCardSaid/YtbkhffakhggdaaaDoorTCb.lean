/-
  Part of the proofs about this chapter: contracts of functions, answers of calls, and plain laws.
-/
import Derived.Test.YtbkhffakhggdaaaDoorTCa
set_option linter.all false
section
namespace Go.Proofs.YtbkhffakhggdaaaDoor.Code
open Go Go.Ab
variable {pure : Bool} {base bar : Nat} {H : Heap} {Q : AV → Heap → Prop} {K : AV → Heap → List Nat → Prop}

/-! words -/
def cl6 (a b : Nat) : Nat := Nat.land a (Nat.xor 63 b)
def okJ (k : IntKind) (r : Option AV) (n : Nat) : Bool := match k, r with
  | .i64, some (.int .i64 v) => decide (v = (n : Int))
  | .u64, some (.int .u64 v) => decide (v = (n : Int))
  | _, _ => false
theorem okJ_i {r : Option AV} {n : Nat} (h : okJ .i64 r n = true) : r = some (.int .i64 (n : Int)) := by
  unfold okJ at h
  split at h
  · rw [of_decide_eq_true h]
  · rename_i h1; cases h1
  · cases h
theorem okJ_u {r : Option AV} {n : Nat} (h : okJ .u64 r n = true) : r = some (.int .u64 (n : Int)) := by
  unfold okJ at h
  split at h
  · rename_i h1; cases h1
  · rw [of_decide_eq_true h]
  · cases h
theorem cl6_ia : ((List.range 64).all fun x => (List.range 64).all fun z => okJ .i64 (abin .andNot (.int .i64 (x : Int)) (.int .i64 (z : Int))) (cl6 x z)) = true := by kernel_rfl
theorem cl6_ua : ((List.range 64).all fun x => (List.range 64).all fun z => okJ .u64 (abin .andNot (.int .u64 (x : Int)) (.int .u64 (z : Int))) (cl6 x z)) = true := by kernel_rfl
theorem cl6_i {x z : Nat} (hx : x < 64) (hz : z < 64) : abin .andNot (.int .i64 (x : Int)) (.int .i64 (z : Int)) = some (.int .i64 ((cl6 x z : Nat) : Int)) :=
  okJ_i (List.all_eq_true.1 (List.all_eq_true.1 cl6_ia x (List.mem_range.2 hx)) z (List.mem_range.2 hz))
theorem cl6_u {x z : Nat} (hx : x < 64) (hz : z < 64) : abin .andNot (.int .u64 (x : Int)) (.int .u64 (z : Int)) = some (.int .u64 ((cl6 x z : Nat) : Int)) :=
  okJ_u (List.all_eq_true.1 (List.all_eq_true.1 cl6_ua x (List.mem_range.2 hx)) z (List.mem_range.2 hz))
theorem cl6_a : ((List.range 64).all fun x => (List.range 64).all fun z => Nat.beq (cl6 x z) 0 == subB x z) = true := by decide +kernel
theorem cl6_zero {x z : Nat} (hx : x < 64) (hz : z < 64) : (cl6 x z = 0) ↔ subB x z = true := by
  have := eq_of_beq (List.all_eq_true.1 (List.all_eq_true.1 cl6_a x (List.mem_range.2 hx)) z (List.mem_range.2 hz))
  rw [← this]; simp

/-! 49: a list has a number -/
theorem l96 {v : AV} {l : List Nat} {x : Nat} (hv : isL v l) (hl : l.length < 1000000) {R : PQ} : ∀ (k i : Nat), i + k = l.length →
    ((l.drop i).contains x = false → R (.exit 0) [(0, v), (1, .int .i64 (x : Nat)), (7, .int .i64 (l.length : Nat)), (8, .int .i64 (l.length : Nat)), (9, .bool false)] H) →
    ((l.drop i).contains x = true → ∀ j : Nat, R .ret [(4, .int .i64 (j : Nat))] H) →
    Wp E base bar (.loop c96_l0) [(0, v), (1, .int .i64 (x : Nat)), (7, .int .i64 (l.length : Nat)), (8, .int .i64 (i : Nat))] H R := by
  intro k
  induction k with
  | zero =>
    intro i hi h1 h2
    obtain rfl : i = l.length := by omega
    rw [List.drop_length] at h1
    rw [wp_round c96_l0.eq_1]
    simp [go_sem]
    exact h1 rfl
  | succ k ih =>
    intro i hi h1 h2
    have hlt : i < l.length := by omega
    rw [List.drop_eq_getElem_cons hlt, List.contains_cons] at h1 h2
    have hix := fun (K : AV → Heap → List Nat → Prop) (k : IntKind) => hv.ix (H := H) (K := K) (k := k) hlt
    generalize l[i] = y at *
    rw [wp_round c96_l0.eq_1]
    by_cases hx : x = y
    · subst hx
      have := h2 (by simp) i
      simp [go_sem, hlt, hix]
      exact this
    · have hb : (x == y) = false := by simpa using hx
      rw [hb] at h1 h2
      simp only [Bool.false_or] at h1 h2
      have next := ih (i + 1) (by omega) h1 h2
      simp [go_sem, hlt, hix, hx, natEq, i64_suc (show i < 1000000 by omega)]
      exact next
theorem k49 {v : AV} {l : List Nat} {x : Nat} (hv : isL v l) (hl : l.length < 1000000) (h : Q (.bool (l.contains x)) H) : WpCall E pure base bar 49 [v, .int .i64 (x : Nat)] H Q := by
  rw [call49]
  simp [go_sem, WpFun, c49, hv.frz]
  rw [call96]
  simp [go_sem, WpFun, c96, hv.frz, hv.len]
  refine l96 hv hl l.length 0 (by omega) (fun hc => ?_) (fun hc j => ?_)
  all_goals
    rw [List.drop_zero] at hc
    rw [hc] at h
    simp [go_sem]
    exact h

/-! 53: no set is inside another one -/
def apR (a i : Nat) : List Nat → Nat → Bool
  | [], _ => true
  | b :: r, k => (i == k || !subB a b) && apR a i r (k + 1)
def apQ (S : List Nat) : List Nat → Nat → Bool
  | [], _ => true
  | a :: r, i => apR a i S 0 && apQ S r (i + 1)
def apS (S : List Nat) : Bool := apQ S S 0
theorem l53_0 {v : AV} {S : List Nat} {a i : Nat} (hv : isL v S) (hS : ∀ x ∈ S, x < 64) (ha : a < 64) (hl : S.length < 1000000) {R : PQ} : ∀ (c k : Nat), k + c = S.length →
    (apR a i (S.drop k) k = true → R (.exit 2) [(0, v), (7, v), (8, .int .i64 (S.length : Nat)), (9, .int .i64 (i : Nat)), (3, .int .i64 (i : Nat)), (4, .int .i64 (a : Nat)), (14, v), (15, .int .i64 (S.length : Nat)), (16, .int .i64 (S.length : Nat)), (17, .bool false)] H) →
    (apR a i (S.drop k) k = false → R .ret [(2, .bool false)] H) →
    Wp E base bar (.loop c53_l0) [(0, v), (7, v), (8, .int .i64 (S.length : Nat)), (9, .int .i64 (i : Nat)), (3, .int .i64 (i : Nat)), (4, .int .i64 (a : Nat)), (14, v), (15, .int .i64 (S.length : Nat)), (16, .int .i64 (k : Nat))] H R := by
  intro c
  induction c with
  | zero =>
    intro k hk h1 h2
    obtain rfl : k = S.length := by omega
    rw [List.drop_length] at h1
    rw [wp_round c53_l0.eq_1]
    simp [go_sem]
    exact h1 rfl
  | succ c ih =>
    intro k hk h1 h2
    have hlt : k < S.length := by omega
    rw [List.drop_eq_getElem_cons hlt] at h1 h2
    have hb := hS _ (List.getElem_mem hlt)
    have hix := fun (K : AV → Heap → List Nat → Prop) (q : IntKind) => hv.ix (H := H) (K := K) (k := q) hlt
    generalize S[k] = b at *
    simp only [apR] at h1 h2
    have hs := i64_suc (show k < 1000000 by omega)
    rw [wp_round c53_l0.eq_1]
    by_cases hik : i = k
    · subst hik
      simp only [beq_self_eq_true, Bool.true_or, Bool.true_and] at h1 h2
      have next := ih (i + 1) (by omega) h1 h2
      simp [go_sem, hlt, hix, hs]
      exact next
    · have hbe : (i == k) = false := by simpa using hik
      have hik' : ¬ ((i : Int) = (k : Int)) := by omega
      rw [hbe] at h1 h2
      simp only [Bool.false_or] at h1 h2
      have hz := cl6_zero ha hb
      cases hc : subB a b
      · rw [hc] at h1 h2
        simp only [Bool.not_false, Bool.true_and] at h1 h2
        have hz' : ¬ cl6 a b = 0 := fun e => by rw [hz.1 e] at hc; cases hc
        have next := ih (k + 1) (by omega) h1 h2
        simp [go_sem, hlt, hix, hik', cl6_i ha hb, hz', hs]
        exact next
      · rw [hc] at h2
        have hz' : cl6 a b = 0 := hz.2 hc
        have := h2 (by simp)
        simp [go_sem, hlt, hix, hik', cl6_i ha hb, hz']
        exact this
theorem l53_1 {v : AV} {S : List Nat} (hv : isL v S) (hS : ∀ x ∈ S, x < 64) (hl : S.length < 1000000) {R : PQ} : ∀ (c i : Nat), i + c = S.length →
    (apQ S (S.drop i) i = true → R (.exit 0) [(0, v), (7, v), (8, .int .i64 (S.length : Nat)), (9, .int .i64 (S.length : Nat)), (10, .bool false)] H) →
    (apQ S (S.drop i) i = false → R .ret [(2, .bool false)] H) →
    Wp E base bar (.loop c53_l1) [(0, v), (7, v), (8, .int .i64 (S.length : Nat)), (9, .int .i64 (i : Nat))] H R := by
  intro c
  induction c with
  | zero =>
    intro i hi h1 h2
    obtain rfl : i = S.length := by omega
    rw [List.drop_length] at h1
    rw [wp_round c53_l1.eq_1]
    simp [go_sem]
    exact h1 rfl
  | succ c ih =>
    intro i hi h1 h2
    have hlt : i < S.length := by omega
    rw [List.drop_eq_getElem_cons hlt] at h1 h2
    have ha := hS _ (List.getElem_mem hlt)
    have hix := fun (K : AV → Heap → List Nat → Prop) (q : IntKind) => hv.ix (H := H) (K := K) (k := q) hlt
    generalize S[i] = a at *
    simp only [apQ] at h1 h2
    have hs := i64_suc (show i < 1000000 by omega)
    rw [wp_round c53_l1.eq_1]
    simp [go_sem, hlt, hix, hv.len]
    refine l53_0 hv hS ha hl S.length 0 (by omega) (fun hc => ?_) (fun hc => ?_)
    · rw [List.drop_zero] at hc
      rw [hc] at h1 h2
      simp only [Bool.true_and] at h1 h2
      have next := ih (i + 1) (by omega) h1 h2
      simp [go_sem, hs]
      exact next
    · rw [List.drop_zero] at hc
      rw [hc] at h2
      simp [go_sem]
      exact h2 (by simp)
theorem k53 {v : AV} {S : List Nat} (hv : isL v S) (hS : ∀ x ∈ S, x < 64) (hl : S.length < 1000000) (h : Q (.bool (apS S)) H) : WpCall E pure base bar 53 [v] H Q := by
  unfold apS at h
  rw [call53]
  simp [go_sem, WpFun, c53, hv.frz, hv.len]
  refine l53_1 hv hS hl S.length 0 (by omega) (fun hc => ?_) (fun hc => ?_)
  all_goals
    rw [List.drop_zero] at hc
    rw [hc] at h
    simp [go_sem]
    exact h
end Go.Proofs.YtbkhffakhggdaaaDoor.Code
end

section
namespace Go.Proofs.YtbkhffakhggdaaaDoor.Code
open Go Go.Ab
variable {pure : Bool} {base bar : Nat} {H : Heap} {Q : AV → Heap → Prop} {K : AV → Heap → List Nat → Prop}

/-! sets as words -/
def us (L : List Nat) : List AV := L.map fun (x : Nat) => .int .u64 (x : Int)
theorem us_plain {l : List Nat} : ∀ c ∈ us l, Plain c := fun c hc => by
  obtain ⟨x, _, rfl⟩ := List.mem_map.1 hc
  exact Plain.int
theorem us_length {l : List Nat} : (us l).length = l.length := by simp [us]
theorem us_append {l r : List Nat} : us (l ++ r) = us l ++ us r := by simp [us]
theorem us_tops {l : List Nat} : AV.top.tops (us l) = 0 := tops_zero fun c hc => by
  obtain ⟨x, _, rfl⟩ := List.mem_map.1 hc
  rfl
def isU (v : AV) (L : List Nat) : Prop := (v = .nils ∧ L = []) ∨ ∃ ex, v = .lst 1 ex (us L)
theorem isU.len {v : AV} {l : List Nat} (h : isU v l) : lenWp (some v) H K = K (.int .i64 (l.length : Int)) H [] := by
  rcases h with ⟨rfl, rfl⟩ | ⟨ex, rfl⟩
  · rfl
  · rw [lenWp_lst, us_length]
theorem isU.frz {v : AV} {l : List Nat} (h : isU v l) {d : Nat} : frz (d + 1) bar H v = some (v, H) := by
  rcases h with ⟨rfl, rfl⟩ | ⟨ex, rfl⟩ <;> rfl
theorem isU.top {v : AV} {l : List Nat} (h : isU v l) : v.top = 0 := by
  rcases h with ⟨rfl, rfl⟩ | ⟨ex, rfl⟩
  · rfl
  · exact us_tops
theorem isU.isTup {v : AV} {l : List Nat} (h : isU v l) : v.isTup = false := by
  rcases h with ⟨rfl, rfl⟩ | ⟨ex, rfl⟩ <;> rfl
theorem isU.cells {v : AV} {l : List Nat} (h : isU v l) : v.cells = [v] := by
  rcases h with ⟨rfl, rfl⟩ | ⟨ex, rfl⟩ <;> rfl
theorem isU.noVec {v : AV} {l : List Nat} (h : isU v l) : v.noVec = true := by
  rcases h with ⟨rfl, rfl⟩ | ⟨ex, rfl⟩ <;> rfl
theorem isU.ix {v : AV} {l : List Nat} (h : isU v l) {k : IntKind} {i : Nat} (hi : i < l.length) : ixaSWp 1 (some v) (some (.int k (i : Int))) H K = K (.fp (.int .u64 ((l[i] : Nat) : Int))) H [] := by
  rcases h with ⟨rfl, rfl⟩ | ⟨ex, rfl⟩
  · simp at hi
  · rw [ixaSWp_lst]
    simp only [Int.toNat_natCast]
    rw [show (us l)[i]? = some (.int .u64 ((l[i] : Nat) : Int)) by simp [us, List.getElem?_eq_getElem hi]]
    simp [valWp_some]
theorem outL_us {l : List Nat} : outL 1 (us l) = if l = [] then .nils else .lst 1 false (us l) := by
  unfold outL
  by_cases h : l = []
  · subst h; rfl
  · rw [if_neg (by simpa [us] using h), if_neg h, Nat.div_one, chunks_one]
theorem isU.out {l : List Nat} : isU (outL 1 (us l)) l := by
  rw [outL_us]
  split
  · rename_i h; exact .inl ⟨rfl, h⟩
  · exact .inr ⟨_, rfl⟩
theorem gus {H : Heap} {base bar bytes : Nat} {S : List Nat} {H0 : Heap} {v : AV} {ex : Bool} {x : Nat} {K : AV → Heap → List Nat → Prop} (g : Grow 1 (us S) H0 v H) (hb : bar ≤ H0.length) (hbase : base ≤ H0.length)
    (hlen : (S.length + 1) * bytes ≤ 140737488355328)
    (h : ∀ v' H' tc, Grow 1 (us (S ++ [x])) H0 v' H' → K v' H' tc) : appWp base bar 1 bytes (some v) (some (.lst 1 ex [.int .u64 (x : Int)])) H K := by
  refine g.app (by omega) (Nat.one_dvd _) (fun c hc => ?_) (Nat.one_dvd _) hb hbase ?_ fun v' H' tc g' => h v' H' tc ?_
  · simp [AV.cells] at hc; subst hc; exact Plain.int
  · simpa [us_length, AV.cells] using hlen
  · simpa [us_append, us, AV.cells] using g'
theorem goutU {H : Heap} {base bar : Nat} {S : List Nat} {H0 : Heap} {v : AV} {K : AV → Heap → Prop} {vs : List AV} (hp : ∀ c ∈ vs, Plain c) (ht : AV.top.tops vs = 0) (g : Grow 1 (us S) H0 v H) (hb : bar ≤ H0.length) (hbase : base ≤ H0.length)
    (h : K (tupled (outL 1 (us S) :: vs)) (H0.take base)) : outWp (leave 0 base bar (v :: vs) H) K := by
  obtain ⟨H', h1, h2, h3, h4⟩ := g.frz (d := 5) (bar := bar) (by omega) (Nat.one_dvd _) us_plain hb
  have e : leave 0 base bar (v :: vs) H = some (tupled (outL 1 (us S) :: vs), H0.take base) := by
    refine (leave0_of (vs' := outL 1 (us S) :: vs) (H' := H') ?_ ?_).trans ?_
    · have h5 : frzsW (frz 8 bar) H' vs = some (vs, H') := frzsW_id fun x hx => hp x hx _ _ _
      simp only [frzAll, frz.frzs, frzsW, h1]
      rw [h5]
    · rw [tops_cons, ht, isU.top isU.out]; simp
    · rw [show H'.take base = (H'.take H0.length).take base by rw [List.take_take, Nat.min_eq_left hbase], h4]
  rw [e]; exact h
/-- freezing, with the slot as it was -/
theorem gfrz {sz : Nat} {cells : List AV} {H0 : Heap} {v : AV} (g : Grow sz cells H0 v H) (hsz : 0 < sz) (hc : sz ∣ cells.length) (hp : ∀ c ∈ cells, Plain c) (hb : bar ≤ H0.length) :
    ∃ H', frz 8 bar H v = some (outL sz cells, H') ∧ Grow sz cells H0 v H' ∧ H'.length = H.length := by
  obtain ⟨H', h1, h2, h3, h4⟩ := g.frz (d := 5) (bar := bar) hsz hc hp hb
  refine ⟨H', h1, ?_, h3⟩
  by_cases he : cells = []
  · rw [if_pos he] at h2
    rcases g with ⟨_, rfl, _⟩ | ⟨_, _, hne, _⟩
    · exact h2
    · exact (hne he).elim
  · rwa [if_neg he] at h2

/-! 93: a list of words has one -/
theorem l110 {v : AV} {l : List Nat} {x : Nat} (hv : isU v l) (hl : l.length < 1000000) {R : PQ} : ∀ (k i : Nat), i + k = l.length →
    ((l.drop i).contains x = false → R (.exit 0) [(0, v), (1, .int .u64 (x : Nat)), (7, .int .i64 (l.length : Nat)), (8, .int .i64 (l.length : Nat)), (9, .bool false)] H) →
    ((l.drop i).contains x = true → ∀ j : Nat, R .ret [(4, .int .i64 (j : Nat))] H) →
    Wp E base bar (.loop c110_l0) [(0, v), (1, .int .u64 (x : Nat)), (7, .int .i64 (l.length : Nat)), (8, .int .i64 (i : Nat))] H R := by
  intro k
  induction k with
  | zero =>
    intro i hi h1 h2
    obtain rfl : i = l.length := by omega
    rw [List.drop_length] at h1
    rw [wp_round c110_l0.eq_1]
    simp [go_sem]
    exact h1 rfl
  | succ k ih =>
    intro i hi h1 h2
    have hlt : i < l.length := by omega
    rw [List.drop_eq_getElem_cons hlt, List.contains_cons] at h1 h2
    have hix := fun (K : AV → Heap → List Nat → Prop) (k : IntKind) => hv.ix (H := H) (K := K) (k := k) hlt
    generalize l[i] = y at *
    rw [wp_round c110_l0.eq_1]
    by_cases hx : x = y
    · subst hx
      have := h2 (by simp) i
      simp [go_sem, hlt, hix]
      exact this
    · have hb : (x == y) = false := by simpa using hx
      rw [hb] at h1 h2
      simp only [Bool.false_or] at h1 h2
      have next := ih (i + 1) (by omega) h1 h2
      simp [go_sem, hlt, hix, hx, natEq, i64_suc (show i < 1000000 by omega)]
      exact next
theorem k110 {v : AV} {l : List Nat} {x : Nat} (hv : isU v l) (hl : l.length < 1000000) (h1 : l.contains x = false → Q (.int .i64 (-1)) H) (h2 : l.contains x = true → ∀ j : Nat, Q (.int .i64 (j : Nat)) H) : WpCall E pure base bar 110 [v, .int .u64 (x : Nat)] H Q := by
  rw [call110]
  simp [go_sem, WpFun, c110, hv.frz, hv.len]
  refine l110 hv hl l.length 0 (by omega) (fun hc => ?_) (fun hc j => ?_)
  · rw [List.drop_zero] at hc
    simp [go_sem]
    exact h1 hc
  · rw [List.drop_zero] at hc
    simp [go_sem]
    exact h2 hc j
theorem k93g {v : AV} {l : List Nat} {x : Nat} {H0 : Heap} (g : Grow 1 (us l) H0 v H) (hb : bar ≤ H0.length) (hl : l.length < 1000000) (h : ∀ H2, Grow 1 (us l) H0 v H2 → H2.length = H.length → Q (.bool (l.contains x)) H2) : WpCall E pure base bar 93 [v, .int .u64 (x : Nat)] H Q := by
  obtain ⟨H2, f1, f2, f3⟩ := gfrz (bar := bar) g (by decide) (Nat.one_dvd _) us_plain hb
  have hu : isU (outL 1 (us l)) l := isU.out
  have h := h H2 f2 f3
  rw [call93]
  simp [go_sem, WpFun, c93, f1]
  generalize outL 1 (us l) = w at *
  refine k110 hu hl (fun hc => ?_) (fun hc j => ?_)
  all_goals
    rw [hc] at h
    simp [go_sem]
    exact h
theorem k93 {v : AV} {l : List Nat} {x : Nat} (hu : isU v l) (hl : l.length < 1000000) (h : Q (.bool (l.contains x)) H) : WpCall E pure base bar 93 [v, .int .u64 (x : Nat)] H Q := by
  rw [call93]
  simp [go_sem, WpFun, c93, hu.frz]
  refine k110 hu hl (fun hc => ?_) (fun hc j => ?_)
  all_goals
    rw [hc] at h
    simp [go_sem]
    exact h
end Go.Proofs.YtbkhffakhggdaaaDoor.Code
end

section
namespace Go.Proofs.YtbkhffakhggdaaaDoor.Code
open Go Go.Ab
variable {pure : Bool} {base bar : Nat} {H : Heap} {Q : AV → Heap → Prop} {K : AV → Heap → List Nat → Prop}

/-! lists of lists -/
def allV : List AV → List (List Int) → Prop
  | [], [] => True
  | v :: vs, l :: ls => isV v l ∧ allV vs ls
  | _, _ => False
theorem allV.length : ∀ {vs : List AV} {ls : List (List Int)}, allV vs ls → vs.length = ls.length
  | [], [], _ => rfl
  | v :: vs, l :: ls, h => by simp [allV.length h.2]
  | [], _ :: _, h => h.elim
  | _ :: _, [], h => h.elim
theorem allV.get : ∀ {vs : List AV} {ls : List (List Int)}, allV vs ls → ∀ {i : Nat} (hi : i < ls.length), ∃ v, vs[i]? = some v ∧ isV v ls[i]
  | [], [], _, _, hi => by simp at hi
  | v :: vs, l :: ls, h, 0, _ => ⟨v, rfl, h.1⟩
  | v :: vs, l :: ls, h, i + 1, hi => by
    obtain ⟨u, h1, h2⟩ := allV.get h.2 (i := i) (by simpa using hi)
    exact ⟨u, by simpa using h1, h2⟩
  | [], _ :: _, h, _, _ => h.elim
  | _ :: _, [], h, _, _ => h.elim
theorem allV.tops : ∀ {vs : List AV} {ls : List (List Int)}, allV vs ls → AV.top.tops vs = 0
  | [], [], _ => rfl
  | v :: vs, l :: ls, h => by rw [tops_cons, h.1.top, allV.tops h.2]; rfl
  | [], _ :: _, h => h.elim
  | _ :: _, [], h => h.elim
def isVV (q : AV) (ls : List (List Int)) : Prop := (q = .nils ∧ ls = []) ∨ ∃ ex vs, q = .lst 1 ex vs ∧ allV vs ls
theorem isVV.len {v : AV} {l : List (List Int)} (h : isVV v l) : lenWp (some v) H K = K (.int .i64 (l.length : Int)) H [] := by
  rcases h with ⟨rfl, rfl⟩ | ⟨ex, vs, rfl, h⟩
  · rfl
  · rw [lenWp_lst, h.length]
theorem isVV.frz {v : AV} {l : List (List Int)} (h : isVV v l) {d : Nat} : frz (d + 1) bar H v = some (v, H) := by
  rcases h with ⟨rfl, rfl⟩ | ⟨ex, vs, rfl, h⟩ <;> rfl
theorem isVV.isTup {v : AV} {l : List (List Int)} (h : isVV v l) : v.isTup = false := by
  rcases h with ⟨rfl, rfl⟩ | ⟨ex, vs, rfl, h⟩ <;> rfl
theorem isVV.cells {v : AV} {l : List (List Int)} (h : isVV v l) : v.cells = [v] := by
  rcases h with ⟨rfl, rfl⟩ | ⟨ex, vs, rfl, h⟩ <;> rfl
theorem isVV.noVec {v : AV} {l : List (List Int)} (h : isVV v l) : v.noVec = true := by
  rcases h with ⟨rfl, rfl⟩ | ⟨ex, vs, rfl, h⟩ <;> rfl
theorem isVV.top {v : AV} {l : List (List Int)} (h : isVV v l) : v.top = 0 := by
  rcases h with ⟨rfl, rfl⟩ | ⟨ex, vs, rfl, h⟩
  · rfl
  · exact h.tops
theorem isVV.ix {q : AV} {ls : List (List Int)} (h : isVV q ls) {i : Nat} (hi : i < ls.length) : ∃ v, isV v ls[i] ∧ ∀ (H : Heap) (K : AV → Heap → List Nat → Prop) (k : IntKind), ixaSWp 1 (some q) (some (.int k (i : Int))) H K = K (.fp v) H [] := by
  rcases h with ⟨rfl, rfl⟩ | ⟨ex, vs, rfl, h⟩
  · simp at hi
  · obtain ⟨v, h1, h2⟩ := h.get hi
    refine ⟨v, h2, fun H K k => ?_⟩
    rw [ixaSWp_lst]
    simp only [Int.toNat_natCast]
    rw [h1]
    simp [valWp_some]
theorem allV_dys : ∀ {S : List Nat}, (∀ x ∈ S, x < 64) → allV (dys S) (S.map dyL)
  | [], _ => trivial
  | x :: r, h => ⟨isV_dyL (h x (List.mem_cons_self ..)), allV_dys fun y hy => h y (List.mem_cons_of_mem _ hy)⟩
theorem isS.vv {q : AV} {S : List Nat} (h : isS q S) (hS : ∀ x ∈ S, x < 64) : isVV q (S.map dyL) := by
  rcases h with ⟨rfl, rfl⟩ | ⟨ex, rfl⟩
  · exact .inl ⟨rfl, rfl⟩
  · exact .inr ⟨ex, _, rfl, allV_dys hS⟩

/-! 68: a shelf is opened -/
def opS (n : Int) : List Nat → List (List Int) → Int × List Nat
  | done, [] => (0, done)
  | done, l :: r => if errT n (-1) l ≠ 0 then (errT n (-1) l, []) else if done.contains (orT 0 l) then (6, []) else opS n (done ++ [orT 0 l]) r
theorem l68 {id ver fz : Nat} {ex : Bool} {n : Nat} {q w : AV} {ls : List (List Int)} {H0 : Heap} (h1 : 1 ≤ n) (hn : n ≤ 6) (hq : isVV q ls) (hl : ls.length < 1000) (hll : ∀ l ∈ ls, l.length < 1000) (hid : H0[id]? = some (.row ver [.int .i64 (n : Int), w] fz ex))
    (hb : bar ≤ H0.length) (hbase : base ≤ H0.length) {R : PQ} : ∀ (k i : Nat) (done : List Nat) (v4 : AV) (H : Heap), i + k = ls.length → done.length ≤ i → Grow 1 (us done) H0 v4 H →
    (∀ e H', (opS n done (ls.drop i)).1 = e → e ≠ 0 → H'.take H0.length = H0 → R .ret [(2, .nils), (3, .int .i64 e)] H') →
    (∀ v' H', (opS n done (ls.drop i)).1 = 0 → Grow 1 (us (opS n done (ls.drop i)).2) H0 v' H' → R (.exit 0) [(1, .ptr id ver 0), (4, v'), (14, q), (15, .int .i64 (ls.length : Nat)), (16, .int .i64 (ls.length : Nat)), (17, .bool false)] H') →
    Wp E base bar (.loop c68_l0) [(1, .ptr id ver 0), (4, v4), (14, q), (15, .int .i64 (ls.length : Nat)), (16, .int .i64 (i : Nat))] H R := by
  have htk : ∀ {cells : List AV} {v : AV} {H : Heap}, Grow 1 cells H0 v H → H.take H0.length = H0 := fun g => by
    rcases g with ⟨_, _, rfl⟩ | ⟨_, _, _, _, _, rfl⟩
    · exact List.take_length
    · simp
  intro k
  induction k with
  | zero =>
    intro i done v4 H hi hd g h1' h2'
    obtain rfl : i = ls.length := by omega
    rw [List.drop_length] at h2'
    rw [wp_round c68_l0.eq_1]
    simp [go_sem]
    exact h2' _ _ rfl g
  | succ k ih =>
    intro i done v4 H hi hd g h1' h2'
    have hlt : i < ls.length := by omega
    rw [List.drop_eq_getElem_cons hlt] at h1' h2'
    obtain ⟨v, hv, hix⟩ := hq.ix hlt
    have hvl := hll _ (List.getElem_mem hlt)
    generalize ls[i] = l at *
    have ld : aload H ⟨false, 1⟩ (.ptr id ver 0) = some (.int .i64 (n : Int)) := by rw [aload_ptr (g.get hid)]; rfl
    simp only [opS] at h1' h2'
    have hs := i64_suc (show i < 1000000 by omega)
    rw [wp_round c68_l0.eq_1]
    simp [go_sem, hlt, hix, hv.fp, ld]
    refine k102 hn hv hvl (fun he => ?_) (fun he => ?_)
    · rw [if_pos he] at h1'
      have := h1' _ _ rfl he (htk g)
      simp [go_sem, he]
      exact this
    · rw [if_neg (by simpa using he)] at h1' h2'
      simp [go_sem]
      refine k93g g hb (by omega) fun H2 g2 hl2 => ?_
      cases hc : done.contains (orT 0 l)
      · rw [hc] at h1' h2'
        simp only [Bool.false_eq_true, if_false] at h1' h2'
        simp [go_sem, aop, fillA, setCells, chunks, AV.noVec.noVecs, AV.noVec]
        rw [wpop_app]
        simp [Opd.ev, go_sem]
        refine gus g2 hb hbase (by omega) fun v' H' tc g' => ?_
        have next := ih (i + 1) (done ++ [orT 0 l]) v' H' (by omega) (by simp; omega) g' h1' h2'
        simp [go_sem, hs]
        exact next
      · rw [hc] at h1'
        have := h1' 6 H2 rfl (by decide) (htk g2)
        simp [go_sem]
        exact this
theorem k68 {n : Nat} {q : AV} {ls : List (List Int)} (h1 : 1 ≤ n) (hn : n ≤ 6) (hq : isVV q ls) (hl : ls.length < 1000) (hll : ∀ l ∈ ls, l.length < 1000) (hbar : bar ≤ H.length)
    (he : (opS n [] ls).1 ≠ 0 → Q (.tup [.nils, .int .i64 (opS n [] ls).1]) H)
    (h0 : (opS n [] ls).1 = 0 → Q (.tup [outL 1 (us (opS n [] ls).2), .int .i64 0]) H) : WpCall E pure base bar 68 [.agg [.int .i64 (n : Int), q]] H Q := by
  have hb : (decide (1 ≤ (n : Int)) && decide ((n : Int) ≤ 6)) = true := by
    rw [Bool.and_eq_true, decide_eq_true_eq, decide_eq_true_eq]; omega
  rw [call68]
  simp [go_sem, WpFun, c68, hq.frz, box0]
  refine k79 ?_
  rw [hb]
  simp [go_sem, box1, hq.len]
  refine l68 (H0 := H ++ [.row 0 [.int .i64 (n : Int), q] 0 true]) h1 hn hq hl hll (own_get0 (l := [.row 0 [.int .i64 (n : Int), q] 0 true]) |>.trans rfl) (by cases pure <;> simp <;> omega) (by simp) ls.length 0 [] .nils _ (by omega) (by simp) (by exact Grow.nil) (fun e H' he1 hne htk => ?_) (fun v' H' he1 g => ?_)
  · rw [List.drop_zero] at he1
    have hh : H'.take H.length = H := by
      have : H'.take H.length = (H'.take (H.length + 1)).take H.length := by rw [List.take_take, Nat.min_eq_left (by omega)]
      rw [this]
      rw [List.length_append, List.length_singleton] at htk
      rw [htk]; simp
    have := he (by rw [he1]; exact hne)
    rw [he1] at this
    simp [go_sem, hh]
    exact this
  · rw [List.drop_zero] at he1 g
    have := h0 he1
    simp [go_sem]
    refine goutU (vs := [.int .i64 0]) (fun c hc => by simp at hc; subst hc; exact Plain.int) rfl g (by cases pure <;> simp <;> omega) (by simp) ?_
    simp
    exact this
theorem k68o {n : Int} {q : AV} (hn : ¬ (1 ≤ n ∧ n ≤ 6)) (hq : ∀ (d bar : Nat) (H : Heap), frz (d + 1) bar H q = some (q, H)) (hc : q.cells = [q]) (h1 : Q (.tup [.nils, .int .i64 1]) H) : WpCall E pure base bar 68 [.agg [.int .i64 n, q]] H Q := by
  have hb : (decide (1 ≤ n) && decide (n ≤ 6)) = false := by
    rw [← Bool.not_eq_true, Bool.and_eq_true, decide_eq_true_eq, decide_eq_true_eq]; exact hn
  rw [call68]
  simp [go_sem, WpFun, c68, hq, hc, box0]
  refine k79 ?_
  rw [hb]
  simp [go_sem]
  exact h1
end Go.Proofs.YtbkhffakhggdaaaDoor.Code
end

section
namespace Go.Proofs.YtbkhffakhggdaaaDoor.Code
open Go Go.Ab
variable {pure : Bool} {base bar : Nat} {H : Heap} {Q : AV → Heap → Prop} {K : AV → Heap → List Nat → Prop}

/-! 91, 90: which set contains one -/
def ixP (a : Nat) : List Nat → Nat → Option Nat
  | [], _ => none
  | b :: r, k => if a ≠ b ∧ subB a b = true then some k else ixP a r (k + 1)
theorem k91 {id ver fz a b : Nat} {ex : Bool} (hid : H[id]? = some (.row ver [.int .u64 (a : Int)] fz ex)) (ha : a < 64) (hb : b < 64) (h : Q (.bool (decide (a ≠ b ∧ subB a b = true))) H) : WpCall E pure base bar 91 [.int .u64 (b : Int), .ptr id ver 0] H Q := by
  have hlt := (List.getElem?_eq_some_iff.1 hid).1
  have ld : aload H ⟨false, 1⟩ (.ptr id ver 0) = some (.int .u64 (a : Int)) := by rw [aload_ptr hid]; rfl
  have hz := cl6_zero ha hb
  rw [call91]
  by_cases hab : a = b
  · subst hab
    simp at h
    simp [go_sem, WpFun, c91, ld]
    exact h
  · have hab' : ¬ ((a : Int) = (b : Int)) := by omega
    cases hc : subB a b
    · rw [hc] at h hz
      simp at h
      have hz' : ¬ cl6 a b = 0 := fun e => by have := hz.1 e; cases this
      have hz2 : (((cl6 a b : Nat) : Int) == 0) = false := by simpa using hz'
      simp [go_sem, WpFun, c91, ld, hab', cl6_u ha hb, hz2]
      exact h
    · rw [hc] at h hz
      simp [hab] at h
      simp [go_sem, WpFun, c91, ld, hab', cl6_u ha hb, hz.2 rfl]
      exact h
theorem l90 {id ver fz a : Nat} {ex : Bool} {v : AV} {S : List Nat} (hv : isU v S) (hS : ∀ x ∈ S, x < 64) (hl : S.length < 1000000) (ha : a < 64) (hid : H[id]? = some (.row ver [.int .u64 (a : Int)] fz ex)) {R : PQ} : ∀ (c k : Nat), k + c = S.length →
    (ixP a (S.drop k) k = none → R (.exit 0) [(0, v), (1, .fn 91 [] [.ptr id ver 0]), (7, .int .i64 (S.length : Nat)), (8, .int .i64 (S.length : Nat)), (9, .bool false)] H) →
    (∀ j : Nat, ixP a (S.drop k) k = some j → R .ret [(4, .int .i64 (j : Nat))] H) →
    Wp E base bar (.loop c90_l0) [(0, v), (1, .fn 91 [] [.ptr id ver 0]), (7, .int .i64 (S.length : Nat)), (8, .int .i64 (k : Nat))] H R := by
  intro c
  induction c with
  | zero =>
    intro k hk h1 h2
    obtain rfl : k = S.length := by omega
    rw [List.drop_length] at h1
    rw [wp_round c90_l0.eq_1]
    simp [go_sem]
    exact h1 rfl
  | succ c ih =>
    intro k hk h1 h2
    have hlt : k < S.length := by omega
    rw [List.drop_eq_getElem_cons hlt] at h1 h2
    have hb := hS _ (List.getElem_mem hlt)
    have hix := fun (K : AV → Heap → List Nat → Prop) (q : IntKind) => hv.ix (H := H) (K := K) (k := q) hlt
    generalize S[k] = b at *
    simp only [ixP] at h1 h2
    rw [wp_round c90_l0.eq_1]
    simp [go_sem, hlt, hix]
    refine k91 hid ha hb ?_
    by_cases hc : a ≠ b ∧ subB a b = true
    · rw [if_pos hc] at h2
      have := h2 k rfl
      simp [go_sem, hc]
      exact this
    · rw [if_neg hc] at h1 h2
      have next := ih (k + 1) (by omega) h1 h2
      rw [decide_eq_false hc]
      simp [go_sem, i64_suc (show k < 1000000 by omega)]
      exact next
theorem k90 {id ver fz a : Nat} {ex : Bool} {v : AV} {S : List Nat} (hv : isU v S) (hS : ∀ x ∈ S, x < 64) (hl : S.length < 1000000) (ha : a < 64) (hid : H[id]? = some (.row ver [.int .u64 (a : Int)] fz ex))
    (h1 : ixP a S 0 = none → Q (.int .i64 (-1)) H) (h2 : ∀ j : Nat, ixP a S 0 = some j → Q (.int .i64 (j : Nat)) H) : WpCall E pure base bar 90 [v, .fn 91 [] [.ptr id ver 0]] H Q := by
  rw [call90]
  simp [go_sem, WpFun, c90, hv.frz, hv.len]
  refine l90 hv hS hl ha hid S.length 0 (by omega) (fun hc => ?_) (fun j hc => ?_)
  · rw [List.drop_zero] at hc
    simp [go_sem]
    exact h1 hc
  · rw [List.drop_zero] at hc
    simp [go_sem]
    exact h2 j hc

/-! 37: two trays, one inside the other -/
def conS (S : List Nat) : List Nat → Nat → Option (Nat × Nat)
  | [], _ => none
  | a :: r, i => match ixP a S 0 with
    | some k => some (i, k)
    | none => conS S r (i + 1)
theorem l37 {v : AV} {S : List Nat} (hv : isU v S) (hS : ∀ x ∈ S, x < 64) (hl : S.length < 1000000) (hb : bar ≤ H.length) {R : PQ} : ∀ (c i : Nat), i + c = S.length →
    (conS S (S.drop i) i = none → R (.exit 0) [(5, v), (17, v), (18, .int .i64 (S.length : Nat)), (19, .int .i64 (S.length : Nat)), (20, .bool false)] H) →
    (∀ p : Nat × Nat, conS S (S.drop i) i = some p → ∀ H', H'.take H.length = H → R .ret [(2, .int .i64 (p.1 : Nat)), (3, .int .i64 (p.2 : Nat)), (4, .int .i64 0)] H') →
    Wp E base bar (.loop c37_l0) [(5, v), (17, v), (18, .int .i64 (S.length : Nat)), (19, .int .i64 (i : Nat))] H R := by
  intro c
  induction c with
  | zero =>
    intro i hi h1 h2
    obtain rfl : i = S.length := by omega
    rw [List.drop_length] at h1
    rw [wp_round c37_l0.eq_1]
    simp [go_sem]
    exact h1 rfl
  | succ c ih =>
    intro i hi h1 h2
    have hlt : i < S.length := by omega
    rw [List.drop_eq_getElem_cons hlt] at h1 h2
    have ha := hS _ (List.getElem_mem hlt)
    have hix := fun (K : AV → Heap → List Nat → Prop) (q : IntKind) => hv.ix (H := H) (K := K) (k := q) hlt
    have hix' := fun (b : Blk) (K : AV → Heap → List Nat → Prop) (q : IntKind) => hv.ix (H := H ++ [b]) (K := K) (k := q) hlt
    generalize S[i] = a at *
    simp only [conS] at h1 h2
    rw [wp_round c37_l0.eq_1]
    simp [go_sem, hlt, hix, hix', storeWp_ptr, storeWp, astore, setCells, own_set0, hb]
    refine k90 (id := H.length) (ver := 0) (fz := 0) (ex := true) hv hS hl ha (own_get0 (l := [.row 0 [.int .u64 (a : Int)] 0 true]) |>.trans rfl) (fun hc => ?_) (fun j hc => ?_)
    · rw [hc] at h1 h2
      have next := ih (i + 1) (by omega) h1 h2
      simp [go_sem, i64_suc (show i < 1000000 by omega), hv.top]
      exact next
    · rw [hc] at h2
      have := h2 _ rfl
      simp [go_sem]
      exact this _ (by simp)
end Go.Proofs.YtbkhffakhggdaaaDoor.Code
end

section
namespace Go.Proofs.YtbkhffakhggdaaaDoor.Code
open Go Go.Ab
variable {pure : Bool} {base bar : Nat} {H : Heap} {Q : AV → Heap → Prop} {K : AV → Heap → List Nat → Prop}

theorem opS_lt {n : Nat} (h1 : 1 ≤ n) (hn : n ≤ 6) : ∀ {ls : List (List Int)} {done : List Nat}, (∀ x ∈ done, x < pw n) → (opS n done ls).1 = 0 → (∀ x ∈ (opS n done ls).2, x < pw n)
  | [], done, hd, _ => hd
  | l :: r, done, hd, h => by
    simp only [opS] at h ⊢
    by_cases he : errT n (-1) l = 0
    · rw [if_neg (by simpa using he)] at h ⊢
      cases hc : done.contains (orT 0 l)
      · rw [hc] at h
        simp only [Bool.false_eq_true, if_false] at h ⊢
        exact opS_lt h1 hn (fun x hx => by
          rcases List.mem_append.1 hx with hx | hx
          · exact hd x hx
          · simp at hx; subst hx; exact (dyL_of h1 hn he).1) h
      · rw [hc] at h; simp at h
    · rw [if_pos he] at h; exact (he h).elim
theorem pw6 {n x : Nat} (hn : n ≤ 6) (h : x < pw n) : x < 64 := Nat.lt_of_lt_of_le h (Nat.le_trans (Nat.pow_le_pow_right (by decide) hn) (by decide : 2 ^ 6 ≤ 64))
theorem opS_len {n : Int} : ∀ {ls : List (List Int)} {done : List Nat}, (opS n done ls).2.length ≤ done.length + ls.length
  | [], done => by simp [opS]
  | l :: r, done => by
    simp only [opS]
    split
    · simp
    · split
      · simp
      · have := opS_len (n := n) (ls := r) (done := done ++ [orT 0 l])
        simp at this ⊢; omega
theorem k37 {n : Nat} {q : AV} {ls : List (List Int)} (h1 : 1 ≤ n) (hn : n ≤ 6) (hq : isVV q ls) (hl : ls.length < 1000) (hll : ∀ l ∈ ls, l.length < 1000) (hbar : bar ≤ H.length)
    (he : (opS n [] ls).1 ≠ 0 → Q (.tup [.int .i64 0, .int .i64 0, .int .i64 (opS n [] ls).1]) H)
    (h0 : (opS n [] ls).1 = 0 → conS (opS n [] ls).2 (opS n [] ls).2 0 = none → Q (.tup [.int .i64 0, .int .i64 0, .int .i64 12]) H)
    (hp : ∀ p : Nat × Nat, (opS n [] ls).1 = 0 → conS (opS n [] ls).2 (opS n [] ls).2 0 = some p → Q (.tup [.int .i64 (p.1 : Nat), .int .i64 (p.2 : Nat), .int .i64 0]) H) : WpCall E pure base bar 37 [.agg [.int .i64 (n : Int), q]] H Q := by
  have hlt := fun h => opS_lt h1 hn (ls := ls) (done := []) (by simp) h
  have hlen := opS_len (n := n) (ls := ls) (done := [])
  have hbp : (if pure = true then H.length else bar) ≤ H.length := by cases pure <;> simp <;> omega
  rw [call37]
  simp [go_sem, WpFun, c37, hq.frz, box2]
  refine k68 h1 hn hq hl hll (by cases pure <;> simp <;> omega) (fun e => ?_) (fun e => ?_)
  · have := he e
    simp [go_sem, e]
    exact this
  · have hu : isU (outL 1 (us (opS n [] ls).2)) (opS n [] ls).2 := isU.out
    generalize outL 1 (us (opS n [] ls).2) = w at *
    generalize hS : (opS n [] ls).2 = S at *
    have h0 := h0 e
    have hp := fun p => hp p e
    simp [go_sem, hu.len]
    refine l37 hu (fun x hx => pw6 hn (hlt e x hx)) (by simp at hlen; omega) (by simp; omega) S.length 0 (by omega) (fun hc => ?_) (fun p hc H' ht => ?_)
    · rw [List.drop_zero] at hc
      simp [go_sem]
      exact h0 hc
    · rw [List.drop_zero] at hc
      have hh : H'.take H.length = H := by
        have : H'.take H.length = (H'.take (H.length + 1)).take H.length := by rw [List.take_take, Nat.min_eq_left (by omega)]
        rw [this]
        rw [List.length_append, List.length_singleton] at ht
        rw [ht]; simp
      simp [go_sem, hh]
      exact hp p hc

/-! 51: the shelf of sets -/
theorem gslot {sz : Nat} {cells : List AV} {H0 : Heap} {v : AV} (g : Grow sz cells H0 v H) : v.isTup = false ∧ v.cells = [v] := by
  rcases g with ⟨_, rfl, _⟩ | ⟨_, _, _, _, rfl, _⟩ <;> exact ⟨rfl, rfl⟩
theorem l51 {n : Nat} {q : AV} {S : List Nat} (hq : isL q S) (hS : ∀ x ∈ S, x < 64) (hl : S.length < 1000000) {H0 : Heap} {b4 : Blk} (hb : bar ≤ H0.length) (hbase : base ≤ H0.length) {R : PQ} : ∀ (c i : Nat) (v : AV) (H : Heap), i + c = S.length →
    Grow 1 (dys (S.take i)) (H0 ++ [b4, .row 0 [.int .i64 (n : Int), v] 0 true]) v H →
    (∀ v' H', Grow 1 (dys S) (H0 ++ [b4, .row 0 [.int .i64 (n : Int), v'] 0 true]) v' H' → R (.exit 0) [(4, .ptr H0.length 0 0), (5, .ptr (H0.length + 1) 0 0), (10, q), (11, .int .i64 (S.length : Nat)), (12, .int .i64 (S.length : Nat)), (13, .bool false)] H') →
    Wp E base bar (.loop c51_l0) [(4, .ptr H0.length 0 0), (5, .ptr (H0.length + 1) 0 0), (10, q), (11, .int .i64 (S.length : Nat)), (12, .int .i64 (i : Nat))] H R := by
  intro c
  induction c with
  | zero =>
    intro i v H hi g h
    obtain rfl : i = S.length := by omega
    rw [List.take_length] at g
    rw [wp_round c51_l0.eq_1]
    simp [go_sem]
    exact h _ _ g
  | succ c ih =>
    intro i v H hi g h
    have hlt : i < S.length := by omega
    have hx := hS _ (List.getElem_mem hlt)
    have hix := fun (K : AV → Heap → List Nat → Prop) (k : IntKind) => hq.ix (H := H) (K := K) (k := k) hlt
    have htk : S.take (i + 1) = S.take i ++ [S[i]] := by rw [List.take_succ, List.getElem?_eq_getElem hlt]; rfl
    generalize S[i] = x at *
    have hid : H[H0.length + 1]? = some (.row 0 [.int .i64 (n : Int), v] 0 true) := g.get (own_get (H := H0) (l := [b4, .row 0 [.int .i64 (n : Int), v] 0 true]) (k := 1) |>.trans rfl)
    have ld : aload H ⟨false, 1⟩ (.ptr (H0.length + 1) 0 1) = some v := by rw [aload_ptr hid]; rfl
    have hgl := g.len
    have ld' : aload H ⟨false, 1⟩ (.fp (.int .i64 (x : Int))) = some (.int .i64 (x : Int)) := rfl
    rw [wp_round c51_l0.eq_1]
    simp [go_sem, hlt, hix, ld, ld']
    refine (call47 hx).2 ?_
    simp [go_sem, dy_isTup, dy_cells, dy_frz, aop, fillA, setCells, chunks, AV.noVec.noVecs, dy_noVec, AV.noVec]
    rw [wpop_app]
    simp [Opd.ev, go_sem]
    refine gdys g (by simp; omega) (by simp; omega) (by simp; omega) fun v' H' tc g' => ?_
    have hid' : H'[H0.length + 1]? = some (.row 0 [.int .i64 (n : Int), v] 0 true) := g'.get (own_get (H := H0) (l := [b4, .row 0 [.int .i64 (n : Int), v] 0 true]) (k := 1) |>.trans rfl)
    have hst := fun (K : AV → Heap → List Nat → Prop) => storeWp_ptr (base := base) (bar := bar) (size := 1) (K := K) (off := 1) (v := v') hid' (gslot g').1 (by rw [(gslot g').2]; rfl) (by omega) (by simp) (by omega) (.inl (by omega))
    have g2 := g'.set (i := H0.length + 1) (b := .row 0 [.int .i64 (n : Int), v'] 0 true) (by simp)
    rw [own_set] at g2
    have next := ih (i + 1) v' _ (by omega) (by rw [htk]; exact g2) h
    simp [go_sem, hst]
    simp [(gslot g').2, setCells, i64_suc (show i < 1000000 by omega)]
    exact next
theorem k51 {n : Nat} {q : AV} {S : List Nat} (hq : isL q S) (hS : ∀ x ∈ S, x < 64) (hl : S.length < 1000000) (hbar : bar ≤ H.length) (h : Q (.agg [.int .i64 (n : Int), outL 1 (dys S)]) H) :
    WpCall E pure base bar 51 [.int .i64 (n : Int), q] H Q := by
  rw [call51]
  have hbp : (if pure = true then H.length else bar) ≤ H.length := by cases pure <;> simp <;> omega
  have hb1 : (if pure = true then H.length else bar) ≤ H.length + 1 := by omega
  simp [go_sem, WpFun, c51, hq.frz, hq.len]
  generalize (if pure = true then H.length else bar) = bar' at *
  simp [go_sem, storeWp, astore, own_get, own_set, setCells, hb1, AV.top.tops, AV.top, hq.len]
  refine l51 (n := n) (H0 := H) (b4 := .row 0 [.int .i64 0, .nils] 0 true) hq hS hl hbp (Nat.le_refl _) S.length 0 .nils _ (by omega) (by exact Grow.nil) fun v' H' g => ?_
  have hid : H'[H.length + 1]? = some (.row 0 [.int .i64 (n : Int), v'] 0 true) := g.get (own_get (H := H) (l := [.row 0 [.int .i64 0, .nils] 0 true, .row 0 [.int .i64 (n : Int), v'] 0 true]) (k := 1) |>.trans rfl)
  have hid4 : H'[H.length]? = some (.row 0 [.int .i64 0, .nils] 0 true) := g.get (own_get0 (H := H) (l := [.row 0 [.int .i64 0, .nils] 0 true, .row 0 [.int .i64 (n : Int), v'] 0 true]) |>.trans rfl)
  have ld : aload H' ⟨true, 2⟩ (.ptr (H.length + 1) 0 0) = some (.agg [.int .i64 (n : Int), v']) := by rw [aload_ptr hid]; rfl
  have hst := fun (K : AV → Heap → List Nat → Prop) => storeWp_ptr (base := H.length) (bar := bar') (size := 2) (K := K) (off := 0) (v := .agg [.int .i64 (n : Int), v']) hid4 rfl rfl (by omega) (by simp) hbp (.inl (by omega))
  simp [go_sem, ld, hst]
  have g2 := g.set (i := H.length) (b := .row 0 [.int .i64 (n : Int), v'] 0 true) (by simp)
  rw [own_set0] at g2
  have hid5 : (H'.set H.length (.row 0 [.int .i64 (n : Int), v'] 0 true))[H.length]? = some (.row 0 [.int .i64 (n : Int), v'] 0 true) := set_get hid4
  generalize H'.set H.length (.row 0 [.int .i64 (n : Int), v'] 0 true) = H2 at *
  have ld2 : aload H2 ⟨true, 2⟩ (.ptr H.length 0 0) = some (.agg [.int .i64 (n : Int), v']) := by rw [aload_ptr hid5]; rfl
  obtain ⟨H3, f1, f2, f3, f4⟩ := g2.frz (d := 4) (bar := bar') (by decide) (Nat.one_dvd _) dys_plain (by simp; omega)
  have hl : leave 0 H.length bar' [.agg [.int .i64 (n : Int), v']] H2 = some (.agg [.int .i64 (n : Int), outL 1 (dys S)], H) := by
    refine (leave0_of (vs' := [.agg [.int .i64 (n : Int), outL 1 (dys S)]]) (H' := H3) ?_ ?_).trans ?_
    · simp only [frzAll, frz.frzs, frzsW]
      rw [show frz 8 bar' H2 (.agg [.int .i64 (n : Int), v']) = some (.agg [.int .i64 (n : Int), outL 1 (dys S)], H3) by
        rw [frz_agg]
        simp only [frzsW, frz_int, f1]]
    · have := isS.top (S := S) isS.out
      simp [AV.top.tops, AV.top, this]
    · have : H3.take H.length = H := by
        have e : H3.take H.length = (H3.take (H.length + 2)).take H.length := by rw [List.take_take, Nat.min_eq_left (by omega)]
        rw [e, show H.length + 2 = (H ++ [Blk.row 0 [.int .i64 (n : Int), v'] 0 true, Blk.row 0 [.int .i64 (n : Int), v'] 0 true]).length by simp]
        have f4' : List.take (H ++ [Blk.row 0 [.int .i64 (n : Int), v'] 0 true, Blk.row 0 [.int .i64 (n : Int), v'] 0 true]).length H3 = H ++ [Blk.row 0 [.int .i64 (n : Int), v'] 0 true, Blk.row 0 [.int .i64 (n : Int), v'] 0 true] := f4
        rw [f4']; simp
      rw [this]; rfl
  rw [ld2]
  simp [go_sem, hl]
  exact h
end Go.Proofs.YtbkhffakhggdaaaDoor.Code
end

section
namespace Go.Proofs.YtbkhffakhggdaaaDoor.Code
open Go Go.Ab
variable {pure : Bool} {base bar : Nat} {H : Heap} {Q : AV → Heap → Prop} {K : AV → Heap → List Nat → Prop}

/-! 52: a drawer's sets -/
def isB (v : AV) (l : List Nat) : Prop := ((v = .nils ∧ l = []) ∨ ∃ ex, v = .lst 1 ex (l.map fun (x : Nat) => .int .u8 (x : Int))) ∧ ∀ x ∈ l, x < 256
theorem isB.len {v : AV} {l : List Nat} (h : isB v l) : lenWp (some v) H K = K (.int .i64 (l.length : Int)) H [] := by
  rcases h.1 with ⟨rfl, rfl⟩ | ⟨ex, rfl⟩
  · rfl
  · rw [lenWp_lst]; simp
theorem isB.frz {v : AV} {l : List Nat} (h : isB v l) {d : Nat} : frz (d + 1) bar H v = some (v, H) := by
  rcases h.1 with ⟨rfl, rfl⟩ | ⟨ex, rfl⟩ <;> rfl
theorem isB.cells {v : AV} {l : List Nat} (h : isB v l) : v.cells = [v] := by
  rcases h.1 with ⟨rfl, rfl⟩ | ⟨ex, rfl⟩ <;> rfl
theorem isB.ix {v : AV} {l : List Nat} (h : isB v l) {k : IntKind} {i : Nat} (hi : i < l.length) : ixaSWp 1 (some v) (some (.int k (i : Int))) H K = K (.fp (.int .u8 ((l[i] : Nat) : Int))) H [] := by
  rcases h.1 with ⟨rfl, rfl⟩ | ⟨ex, rfl⟩
  · simp at hi
  · rw [ixaSWp_lst]
    simp only [Int.toNat_natCast]
    rw [show (l.map fun (x : Nat) => AV.int .u8 (x : Int))[i]? = some (.int .u8 ((l[i] : Nat) : Int)) by simp [List.getElem?_eq_getElem hi]]
    simp [valWp_some]
/-- the sets of bytes, those that come again left out -/
def madeS (p : Nat) : List Nat → List Nat → List Nat
  | acc, [] => acc
  | acc, t :: r => madeS p (if acc.contains (t % p) then acc else acc ++ [t % p]) r
theorem madeS_mem {p : Nat} (hp : 0 < p) : ∀ {l acc : List Nat}, (∀ x ∈ acc, x < p) → ∀ x ∈ madeS p acc l, x < p
  | [], acc, h => h
  | t :: r, acc, h => by
    refine madeS_mem hp (l := r) ?_
    split
    · exact h
    · intro x hx
      rcases List.mem_append.1 hx with hx | hx
      · exact h x hx
      · simp at hx; subst hx; exact Nat.mod_lt _ hp
theorem madeS_nodup {p : Nat} : ∀ {l acc : List Nat}, acc.Nodup → (madeS p acc l).Nodup
  | [], acc, h => h
  | t :: r, acc, h => by
    refine madeS_nodup (l := r) ?_
    split
    · exact h
    · rename_i hc
      rw [List.nodup_append]
      refine ⟨h, by simp, fun a ha b hb => ?_⟩
      simp at hb; subst hb
      intro e; subst e
      exact hc (by simpa using ha)
theorem nodup_len {p : Nat} {l : List Nat} (h : l.Nodup) (hp : ∀ x ∈ l, x < p) : l.length ≤ p := by
  have key : ∀ (m : List Nat) (l : List Nat), l.Nodup → (∀ x ∈ l, x ∈ m) → l.length ≤ m.length := by
    intro m
    induction m with
    | nil =>
      intro l _ h
      cases l with
      | nil => simp
      | cons a r => exact (List.not_mem_nil (h a (List.mem_cons_self ..))).elim
    | cons b m ih =>
      intro l hd h
      have h1 := ih (l.erase b) (hd.erase b) (fun x hx => by
        have hne : x ≠ b := fun e => by subst e; exact hd.not_mem_erase hx
        rcases List.mem_cons.1 (h x (List.mem_of_mem_erase hx)) with e | e
        · exact (hne e).elim
        · exact e)
      have h2 : l.length ≤ (l.erase b).length + 1 := by rw [List.length_erase]; split <;> omega
      simp; omega
  have := key (List.range p) l h fun x hx => List.mem_range.2 (hp x hx)
  simpa using this
theorem k49g {v : AV} {l : List Nat} {x : Nat} {H0 : Heap} (g : Grow 1 (nats l) H0 v H) (hb : bar ≤ H0.length) (hl : l.length < 1000000) (h : ∀ H2, Grow 1 (nats l) H0 v H2 → H2.length = H.length → Q (.bool (l.contains x)) H2) : WpCall E pure base bar 49 [v, .int .i64 (x : Nat)] H Q := by
  obtain ⟨H2, f1, f2, f3⟩ := gfrz (bar := bar) g (by decide) (Nat.one_dvd _) nats_plain hb
  have hu : isL (outL 1 (nats l)) l := isL.out
  have h := h H2 f2 f3
  rw [call49]
  simp [go_sem, WpFun, c49, f1]
  generalize outL 1 (nats l) = w at *
  rw [call96]
  simp [go_sem, WpFun, c96, hu.frz, hu.len]
  refine l96 hu hl l.length 0 (by omega) (fun hc => ?_) (fun hc j => ?_)
  all_goals
    rw [List.drop_zero] at hc
    rw [hc] at h
    simp [go_sem]
    exact h
theorem l52 {n : Nat} {q : AV} {bs : List Nat} (hn : n ≤ 6) (hq : isB q bs) (hl : bs.length < 9223372036854775808) {H0 : Heap} (hb : bar ≤ H0.length) (hbase : base ≤ H0.length) {R : PQ} : ∀ (c i : Nat) (acc : List Nat) (v : AV) (H : Heap), i + c = bs.length →
    acc.Nodup → (∀ x ∈ acc, x < pw n) → Grow 1 (nats acc) H0 v H →
    (∀ v' H', Grow 1 (nats (madeS (pw n) acc (bs.drop i))) H0 v' H' → R (.exit 0) [(6, .int .i64 (n : Int)), (7, v'), (18, q), (19, .int .i64 (bs.length : Nat)), (20, .int .i64 (bs.length : Nat)), (21, .bool false)] H') →
    Wp E base bar (.loop c52_l0) [(6, .int .i64 (n : Int)), (7, v), (18, q), (19, .int .i64 (bs.length : Nat)), (20, .int .i64 (i : Nat))] H R := by
  have hp : pw n ≤ 64 := Nat.le_trans (Nat.pow_le_pow_right (by decide) hn) (by decide : 2 ^ 6 ≤ 64)
  have hpp : 0 < pw n := pw_pos
  have hsh := shl_i64 (n := n) (by omega)
  have hpn : ((pw n : Nat) : Int) ≠ 0 := by omega
  intro c
  induction c with
  | zero =>
    intro i acc v H hi hnd hacc g h
    obtain rfl : i = bs.length := by omega
    rw [List.drop_length] at h
    rw [wp_round c52_l0.eq_1]
    simp [go_sem]
    exact h _ _ g
  | succ c ih =>
    intro i acc v H hi hnd hacc g h
    have hlt : i < bs.length := by omega
    rw [List.drop_eq_getElem_cons hlt] at h
    have hx := hq.2 _ (List.getElem_mem hlt)
    have hix := fun (K : AV → Heap → List Nat → Prop) (k : IntKind) => hq.ix (H := H) (K := K) (k := k) hlt
    generalize bs[i] = t at *
    simp only [madeS] at h
    have hw : IntKind.i64.wrap ((i : Int) + 1) = ((i + 1 : Nat) : Int) := by rw [show (i : Int) + 1 = ((i + 1 : Nat) : Int) by omega, i64_nat (by omega)]
    have r3 : (t : Int).tmod ((pw n : Nat) : Int) = ((t % pw n : Nat) : Int) := (rest_mod (a := t) (k := pw n) hpp).tmod
    have hal := nodup_len hnd hacc
    have hm : t % pw n < pw n := Nat.mod_lt _ hpp
    generalize t % pw n = m at *
    generalize pw n = pm at *
    rw [wp_round c52_l0.eq_1]
    simp [go_sem, hlt, hix, i64_nat (show t < 9223372036854775808 by omega), hsh, abin_rem hpn, r3]
    refine k49g g hb (by omega) fun H2 g2 hl2 => ?_
    cases hc : acc.contains m
    · rw [hc] at h
      simp only [Bool.false_eq_true, if_false] at h
      simp [go_sem, aop, fillA, setCells, chunks, AV.noVec.noVecs, AV.noVec]
      rw [wpop_app]
      simp [Opd.ev, go_sem]
      refine g2.nat hb hbase (by omega) fun v' H' tc g' => ?_
      have next := ih (i + 1) (acc ++ [m]) v' H' (by omega) (by
        rw [List.nodup_append]
        refine ⟨hnd, by simp, fun a ha b hb => ?_⟩
        simp at hb; subst hb
        intro e; subst e
        rw [show acc.contains a = true by simpa using ha] at hc; cases hc) (fun x hx => by
        rcases List.mem_append.1 hx with hx | hx
        · exact hacc x hx
        · simp at hx; subst hx; exact hm) g' h
      simp [go_sem, hw]
      exact next
    · rw [hc] at h
      simp only [if_true] at h
      have next := ih (i + 1) acc v H2 (by omega) hnd hacc g2 h
      simp [go_sem, hw]
      exact next
theorem k52 {d m : Nat} {q : AV} {bs : List Nat} (hd : d < 256) (hm : 1 ≤ m) (hm6 : m ≤ 6) (hq : isB q bs) (hl : bs.length < 9223372036854775808) (hbar : bar ≤ H.length)
    (h : Q (.tup [.int .i64 ((d % m + 1 : Nat) : Int), outL 1 (nats (madeS (pw (d % m + 1)) [] bs))]) H) : WpCall E pure base bar 52 [.agg [.int .u8 (d : Nat), q], .int .i64 (m : Int)] H Q := by
  have hbp : (if pure = true then H.length else bar) ≤ H.length := by cases pure <;> simp <;> omega
  have r3 : (d : Int).tmod (m : Int) = ((d % m : Nat) : Int) := (rest_mod (a := d) (k := m) (by omega)).tmod
  have hmn : (m : Int) ≠ 0 := by omega
  have hlt : d % m < m := Nat.mod_lt _ (by omega)
  have hw : IntKind.i64.wrap (1 + ((d % m : Nat) : Int)) = ((d % m + 1 : Nat) : Int) := by rw [show 1 + ((d % m : Nat) : Int) = ((d % m + 1 : Nat) : Int) by omega, i64_nat (by omega)]
  rw [call52]
  generalize hn : d % m + 1 = n at *
  generalize d % m = e at *
  simp [go_sem, WpFun, c52, hq.frz, hq.cells, box0, box1, i64_nat (show d < 9223372036854775808 by omega), abin_rem hmn, r3, hw, hq.len]
  generalize (if pure = true then H.length else bar) = bar' at *
  refine l52 (n := n) (H0 := H ++ [.row 0 [.int .u8 (d : Int), q] 0 true]) (by omega) hq hl (by simp; omega) (by simp) bs.length 0 [] .nils _ (by omega) (by simp) (by simp) (by exact Grow.nil) fun v' H' g => ?_
  rw [List.drop_zero] at g
  obtain ⟨H2, f1, f2, f3, f4⟩ := g.frz (d := 5) (bar := bar') (by decide) (Nat.one_dvd _) nats_plain (by simp; omega)
  have ht : (outL 1 (nats (madeS (pw n) [] bs))).top = 0 := isL.out.top
  have hh : H2.take H.length = H := by
    have e : H2.take H.length = (H2.take (H.length + 1)).take H.length := by rw [List.take_take, Nat.min_eq_left (by omega)]
    rw [e, show H.length + 1 = (H ++ [Blk.row 0 [.int .u8 (d : Int), q] 0 true]).length by simp]
    rw [f4]; simp
  simp [go_sem, f1, ht, hh]
  exact h
end Go.Proofs.YtbkhffakhggdaaaDoor.Code
end

section
namespace Go.Proofs.YtbkhffakhggdaaaDoor.Code
open Go Go.Ab
variable {pure : Bool} {base bar : Nat} {H : Heap} {Q : AV → Heap → Prop} {K : AV → Heap → List Nat → Prop}

def clipV (l : List Nat) : AV := if l = [] then .nils else .lst 1 true (nats l)
theorem clip_noTup {l : List Nat} : (clipV l).isTup = false := by unfold clipV; split <;> rfl
theorem clip_frz {l : List Nat} {d : Nat} : frz (d + 1) bar H (clipV l) = some (clipV l, H) := by unfold clipV; split <;> rfl
theorem clip_top {l : List Nat} : (clipV l).top = 0 := by unfold clipV; split; rfl; exact tops_nats
theorem k55o {k : Nat} {v : AV} {l : List Nat} (g : Own k 1 (nats l) v H) (hb : bar ≤ k) (hl : l.length < 1000000) (h : ∀ H', Own k 1 (nats l) v H' → H'.length = H.length → (∀ j, idOf v ≠ some j → H'[j]? = H[j]?) → Q (clipV l) H') : WpCall E pure base bar 55 [v] H Q := by
  obtain ⟨H2, f1, f2, f3, f4⟩ := g.frz (d := 5) (bar := bar) (by decide) (Nat.one_dvd _) nats_plain hb
  have h := h H2 f2 f3 f4
  rw [show 5 + 3 = 8 from rfl] at f1
  have hsl : ∀ H : Heap, aslice H (.slc 1) (outL 1 (nats l)) none (some (.int .i64 (l.length : Int))) (some (.int .i64 (l.length : Int))) = some (clipV l) := fun H => by
    rw [outL_nats]
    unfold clipV
    split
    · rename_i he; subst he; simp [aslice, optBound, bound1, AV.asNat]
    · simp [aslice, optBound, bound1, AV.asNat, nats_length]
      rw [List.take_of_length_le (by rw [nats_length]; exact Nat.le_refl _)]
  have hu : isL (outL 1 (nats l)) l := isL.out
  rw [call55]
  simp [go_sem, WpFun, c55, f1]
  generalize outL 1 (nats l) = w at *
  simp [go_sem, hu.len, aop, Opd.evo, hsl, clip_frz, clip_top]
  exact h
theorem app_clip {bytes x : Nat} {l : List Nat} {ex : Bool} (hlen : (l.length + 1) * bytes ≤ 140737488355328)
    (h : K (.vec H.length 0 0 (l.length + 1) 1) (H ++ [.row 0 (nats (l ++ [x])) 0 false]) []) : appWp base bar 1 bytes (some (clipV l)) (some (.lst 1 ex [.int .i64 (x : Int)])) H K := by
  have hfl : ∀ b : List Nat, (nats b).flatMap AV.cells = nats b := fun b => by
    induction b with
    | nil => rfl
    | cons x r ih => simp only [nats, List.map_cons, List.flatMap_cons, AV.cells] at ih ⊢; rw [ih]; rfl
  have e : asrc H 1 (.lst 1 ex [.int .i64 (x : Int)]) = some [.int .i64 (x : Int)] := by rw [asrc_lst]; rfl
  by_cases he : l = []
  · subst he
    simp at hlen
    simp [appWp, clipV, e, go_sem, aappend, AV.noVec.noVecs, AV.noVec, hlen]
    simpa [nats] using h
  · have h2 : clipV l = .lst 1 true (nats l) := by unfold clipV; rw [if_neg he]
    rw [h2]
    simp [appWp, e, go_sem, aappend, AV.noVec.noVecs, AV.noVec, hlen, nats_length, hfl]
    simpa [nats_append, nats_one] using h
theorem k53o {k : Nat} {v : AV} {S : List Nat} (g : Own k 1 (nats S) v H) (hb : bar ≤ k) (hS : ∀ x ∈ S, x < 64) (hl : S.length < 1000000) (h : ∀ H', Own k 1 (nats S) v H' → H'.length = H.length → (∀ j, idOf v ≠ some j → H'[j]? = H[j]?) → Q (.bool (apS S)) H') : WpCall E pure base bar 53 [v] H Q := by
  obtain ⟨H2, f1, f2, f3, f4⟩ := g.frz (d := 5) (bar := bar) (by decide) (Nat.one_dvd _) nats_plain hb
  have h := h H2 f2 f3 f4
  rw [show 5 + 3 = 8 from rfl] at f1
  have hu : isL (outL 1 (nats S)) S := isL.out
  unfold apS at h
  rw [call53]
  simp [go_sem, WpFun, c53, f1]
  generalize outL 1 (nats S) = w at *
  simp [go_sem, hu.len]
  refine l53_1 hu hS hl S.length 0 (by omega) (fun hc => ?_) (fun hc => ?_)
  all_goals
    rw [List.drop_zero] at hc
    rw [hc] at h
    simp [go_sem]
    exact h
end Go.Proofs.YtbkhffakhggdaaaDoor.Code
end

section
namespace Go.Proofs.YtbkhffakhggdaaaDoor.Code
open Go Go.Ab
variable {pure : Bool} {base bar : Nat} {H : Heap} {Q : AV → Heap → Prop} {K : AV → Heap → List Nat → Prop}

/-- the largest shelf without containing that is found -/
def spL (P : Nat) : Nat → Nat → List Nat → Nat → Nat
  | 0, _, _, m => m
  | f + 1, x, l, m => if x < P then spL P f (x + 1) l (if apS (l ++ [x]) then spL P f (x + 1) (l ++ [x]) (max m (l.length + 1)) else m) else m
def fn54 : AV := .fn 54 [] [.ptr 3 0 0, .ptr 1 0 0, .ptr 4 0 0]
/-- the five blocks of the search -/
def H5 (n : Nat) (B0 B2 : Blk) (m : Nat) : Heap := [B0, .row 0 [.int .i64 (n : Int)] 0 true, B2, .row 0 [.int .i64 (m : Int)] 0 true, .row 0 [fn54] 0 true]
theorem H5_get {n m : Nat} {B0 B2 : Blk} (hH : H.take 5 = H5 n B0 B2 m) : H[1]? = some (.row 0 [.int .i64 (n : Int)] 0 true) ∧ H[3]? = some (.row 0 [.int .i64 (m : Int)] 0 true) ∧ H[4]? = some (.row 0 [fn54] 0 true) := by
  have e : ∀ i, i < 5 → H[i]? = (H5 n B0 B2 m)[i]? := fun i hi => by rw [← hH, List.getElem?_take, if_pos hi]
  exact ⟨e 1 (by omega), e 3 (by omega), e 4 (by omega)⟩
theorem H5_set {n m x : Nat} {B0 B2 : Blk} (hH : H.take 5 = H5 n B0 B2 m) : (H.set 3 (.row 0 [.int .i64 (x : Int)] 0 true)).take 5 = H5 n B0 B2 x := by
  have e : (H.set 3 (.row 0 [.int .i64 (x : Int)] 0 true)).take 5 = (H.take 5).set 3 (.row 0 [.int .i64 (x : Int)] 0 true) := by
    apply List.ext_getElem?
    intro j
    rw [List.getElem?_take, List.getElem?_set, List.getElem?_set, List.getElem?_take]
    by_cases hj : j < 5
    · rw [if_pos hj, if_pos hj]
      by_cases h3 : 3 = j
      · subst h3
        have h1 : H[3]? = some (.row 0 [.int .i64 (m : Int)] 0 true) := by
          have : (H.take 5)[3]? = (H5 n B0 B2 m)[3]? := by rw [hH]
          rw [List.getElem?_take, if_pos (by omega)] at this
          exact this
        have h2 := (List.getElem?_eq_some_iff.1 h1).1
        simp [h2]
        omega
      · simp [h3]
    · rw [if_neg hj, if_neg hj]
      simp
      omega
  rw [e, hH]; rfl
/-- what the search leaves -/
structure Left (n : Nat) (B0 B2 : Blk) (v : AV) (l : List Nat) (m : Nat) (H H' : Heap) : Prop where
  len : H'.length = H.length
  five : H'.take 5 = H5 n B0 B2 m
  same : ∀ j, 5 ≤ j → idOf v ≠ some j → H'[j]? = H[j]?
  own : Own 5 1 (nats l) v H'
theorem take_same {k : Nat} {H H' : Heap} (h : ∀ j, j < k → H'[j]? = H[j]?) : H'.take k = H.take k := by
  apply List.ext_getElem?
  intro j
  rw [List.getElem?_take, List.getElem?_take]
  split
  · rename_i hj; exact h j hj
  · rfl
theorem c54_call {n x m f : Nat} {B0 B2 : Blk} {l : List Nat} {v : AV} (g : Own 5 1 (nats l) v H) (hH : H.take 5 = H5 n B0 B2 m)
    (hloop : ∀ R : PQ, (∀ y H', Left n B0 B2 v l (spL (pw n) f x l (max m l.length)) (H.set 3 (.row 0 [.int .i64 ((max m l.length : Nat) : Int)] 0 true)) H' → R (.exit 0) [(1, v), (3, .ptr 1 0 0), (4, .ptr 4 0 0), (7, .int .i64 y), (16, .bool false)] H') →
      Wp E base 0 (.loop c54_l0) [(1, v), (3, .ptr 1 0 0), (4, .ptr 4 0 0), (7, .int .i64 (x : Int))] (H.set 3 (.row 0 [.int .i64 ((max m l.length : Nat) : Int)] 0 true)) R)
    (h : ∀ H', Left n B0 B2 v l (spL (pw n) f x l (max m l.length)) (H.set 3 (.row 0 [.int .i64 ((max m l.length : Nat) : Int)] 0 true)) H' → Q (.tup []) H') :
    WpCall E false base 0 54 [.int .i64 (x : Int), v, .ptr 3 0 0, .ptr 1 0 0, .ptr 4 0 0] H Q := by
  obtain ⟨q1, q3, q4⟩ := H5_get hH
  have lq3 : aload H ⟨false, 1⟩ (.ptr 3 0 0) = some (.int .i64 (m : Int)) := by rw [aload_ptr q3]; rfl
  have hlb : lenWp (some v) H = fun K => K (.int .i64 (l.length : Int)) H [] := by
    rcases g with ⟨h1, rfl⟩ | ⟨id, ver, fz, _, _, _, rfl, _⟩
    · have : l = [] := by cases l with | nil => rfl | cons a b => simp [nats] at h1
      subst this; rfl
    · funext K; simp [lenWp, nats_length]
  have hst := fun (y : Int) (K : AV → Heap → List Nat → Prop) => storeWp_ptr (base := base) (bar := 0) (size := 1) (K := K) (off := 0) (v := .int .i64 y) q3 rfl rfl (by omega) (by simp) (by omega) (.inr (by simp [AV.cells, AV.top.tops, AV.top]))
  have hmx : (if m < l.length then (l.length : Int) else (m : Int)) = ((max m l.length : Nat) : Int) := by split <;> omega
  rw [call54]
  simp [go_sem, WpFun, c54, lq3, hlb, aop]
  rw [hmx]
  simp [go_sem, hst, AV.cells, setCells]
  refine hloop _ fun y H' lf => ?_
  simp [go_sem]
  exact h H' lf
theorem L54 {n : Nat} {B0 B2 : Blk} (hn : n ≤ 4) : ∀ (f x : Nat) (l : List Nat) (v : AV) (m : Nat) (H : Heap) (base : Nat) (R : PQ), pw n - x ≤ f → x ≤ pw n → l.length ≤ x → (∀ y ∈ l, y < x) → Own 5 1 (nats l) v H → H.take 5 = H5 n B0 B2 m → 5 ≤ H.length →
    (∀ y H', Left n B0 B2 v l (spL (pw n) f x l m) H H' → R (.exit 0) [(1, v), (3, .ptr 1 0 0), (4, .ptr 4 0 0), (7, .int .i64 y), (16, .bool false)] H') →
    Wp E base 0 (.loop c54_l0) [(1, v), (3, .ptr 1 0 0), (4, .ptr 4 0 0), (7, .int .i64 (x : Int))] H R := by
  have hp : pw n ≤ 16 := Nat.le_trans (Nat.pow_le_pow_right (by decide) hn) (by decide : 2 ^ 4 ≤ 16)
  have hsh := shl_i64 (n := n) (by omega)
  intro f
  induction f with
  | zero =>
    intro x l v m H base R hf hx hll hlx g hH hl5 h
    obtain rfl : x = pw n := by omega
    obtain ⟨g1, g3, g4⟩ := H5_get hH
    have ld1 : aload H ⟨false, 1⟩ (.ptr 1 0 0) = some (.int .i64 (n : Int)) := by rw [aload_ptr g1]; rfl
    rw [wp_round c54_l0.eq_1]
    simp [go_sem, ld1, hsh]
    exact h _ H ⟨rfl, hH, fun _ _ _ => rfl, g⟩
  | succ f ih =>
    intro x l v m H base R hf hx hll hlx g hH hl5 h
    obtain ⟨g1, g3, g4⟩ := H5_get hH
    have ld1 : aload H ⟨false, 1⟩ (.ptr 1 0 0) = some (.int .i64 (n : Int)) := by rw [aload_ptr g1]; rfl
    by_cases hlt : x < pw n
    · simp only [spL, if_pos hlt] at h
      rw [wp_round c54_l0.eq_1]
      simp [go_sem, ld1, hsh, hlt]
      refine k55o g (by omega) (by omega) fun H2 o2 hl2 hs2 => ?_
      simp [go_sem, aop, fillA, setCells, chunks, AV.noVec.noVecs, AV.noVec]
      rw [wpop_app]
      simp [Opd.ev, go_sem]
      refine app_clip (by omega) ?_
      have ov : Own 5 1 (nats (l ++ [x])) (.vec H2.length 0 0 (l.length + 1) 1) (H2 ++ [.row 0 (nats (l ++ [x])) 0 false]) := by
        refine .inr ⟨H2.length, 0, 0, by simp [nats], by omega, by omega, by simp [nats], by simp⟩
      have hsl : ∀ y ∈ l ++ [x], y < 64 := fun y hy => by
        rcases List.mem_append.1 hy with hy | hy
        · have := hlx y hy; omega
        · simp at hy; omega
      simp [go_sem]
      refine k53o ov (by omega) hsl (by simp; omega) fun H4 o4 hl4 hs4 => ?_
      have hl4' : H4.length = H.length + 1 := by rw [hl4]; simp [hl2]
      have hs4' : ∀ j, j < H.length → H4[j]? = H2[j]? := fun j hj => by
        rw [hs4 j (by simp [idOf]; omega), List.getElem?_append_left (by omega)]
      have hvlt : ∀ j, idOf v = some j → 5 ≤ j ∧ j < H.length := fun j hj => g.lt hj
      have hvt : v.top ≤ H.length := by
        rcases g with ⟨_, rfl⟩ | ⟨id, ver, fz, _, _, _, rfl, h5⟩
        · simp [AV.top]
        · have := (List.getElem?_eq_some_iff.1 h5).1
          simp [AV.top]; omega
      have ov4 : Own 5 1 (nats l) v H4 := o2.mono fun j hj => hs4' j (hvlt j hj).2
      have go : ∀ (m' : Nat) (Hn : Heap), Hn.length = H.length → Hn.take 5 = H5 n B0 B2 m' → (∀ j, 5 ≤ j → idOf v ≠ some j → Hn[j]? = H[j]?) → Own 5 1 (nats l) v Hn →
          (∀ y H', Left n B0 B2 v l (spL (pw n) f (x + 1) l m') H H' → R (.exit 0) [(1, v), (3, .ptr 1 0 0), (4, .ptr 4 0 0), (7, .int .i64 y), (16, .bool false)] H') →
          Wp E base 0 (.loop c54_l0) [(1, v), (3, .ptr 1 0 0), (4, .ptr 4 0 0), (7, .int .i64 ((x + 1 : Nat) : Int))] Hn R := fun m' Hn e1 e2 e3 e4 h =>
        ih (x + 1) l v m' Hn base R (by omega) (by omega) (by omega) (fun y hy => by have := hlx y hy; omega) e4 e2 (by omega) fun y H' lf =>
          h y H' ⟨by rw [lf.len, e1], lf.five, fun j h5 hj => by rw [lf.same j h5 hj, e3 j h5 hj], lf.own⟩
      have hw : IntKind.i64.wrap ((x : Int) + 1) = ((x + 1 : Nat) : Int) := i64_suc (by omega)
      cases hap : apS (l ++ [x])
      · rw [hap] at h
        simp only [Bool.false_eq_true, if_false] at h
        have hn1 : (H4.take H.length).length = H.length := by rw [List.length_take]; omega
        have hg : ∀ j, j < H.length → (H4.take H.length)[j]? = H2[j]? := fun j hj => by rw [List.getElem?_take, if_pos hj, hs4' j hj]
        have next := go m (H4.take H.length) hn1 (by
          rw [← hH]
          exact take_same fun j hj => by rw [hg j (by omega), hs2 j (fun e => by have := hvlt j e; omega)]) (fun j h5 hj => by
          by_cases hjl : j < H.length
          · rw [hg j hjl, hs2 j hj]
          · rw [List.getElem?_eq_none (by omega), List.getElem?_eq_none (by omega)]) (o2.mono fun j hj => hg j (hvlt j hj).2) h
        simp [go_sem, ftop, hvt, hw, AV.top]
        refine ⟨by omega, ?_⟩
        exact next
      · rw [hap] at h
        simp only [if_true] at h
        have ld4 : aload H4 ⟨false, 1⟩ (.ptr 4 0 0) = some fn54 := by
          rw [aload_ptr (id := 4) (ver := 0) (cs := [fn54]) (fz := 0) (ex := true) (by rw [hs4' 4 (by omega), hs2 4 (fun e => by have := hvlt 4 e; omega)]; exact g4)]; rfl
        simp [go_sem, ld4, hw]
        refine k55o ov4 (by omega) (by omega) fun H6 o6 hl6 hs6 => ?_
        have htc : ∃ tcv, touchA H4 [v] = tcv ∧ tcv.contains 4 = false := by
          rcases ov4 with ⟨_, rfl⟩ | ⟨id, ver, fz, _, h5, _, rfl, hrow⟩
          · exact ⟨[], rfl, rfl⟩
          · have hnv : AV.noVec.noVecs (nats l) = true := noVecs_iff.2 fun y hy => by
              obtain ⟨z, _, rfl⟩ := List.mem_map.1 hy
              rfl
            refine ⟨[id], ?_, by simp; omega⟩
            simp [touchA, AV.noVec.noVecs, AV.noVec, flatV, hrow, hnv, idsV]
        obtain ⟨tcv, htc, htc4⟩ := htc
        simp [go_sem, ↓htc, aop, fillA, setCells, chunks, AV.noVec.noVecs, AV.noVec]
        rw [wpop_app]
        simp [Opd.ev, go_sem]
        refine app_clip (by omega) ?_
        have hs6' : ∀ j, j < H.length → idOf v ≠ some j → H6[j]? = H[j]? := fun j hj hne => by rw [hs6 j hne, hs4' j hj, hs2 j hne]
        have h3v : idOf v ≠ some 3 := fun e => by have := hvlt 3 e; omega
        have hl6' : H6.length = H.length + 1 := by rw [hl6, hl4']
        have ovb : Own 5 1 (nats (l ++ [x])) (.vec H6.length 0 0 (l.length + 1) 1) (H6 ++ [.row 0 (nats (l ++ [x])) 0 false]) := by
          refine .inr ⟨H6.length, 0, 0, by simp [nats], by omega, by omega, by simp [nats], by simp⟩
        have h7five : (H6 ++ [Blk.row 0 (nats (l ++ [x])) 0 false]).take 5 = H5 n B0 B2 m := by
          rw [← hH]
          exact take_same fun j hj => by rw [List.getElem?_append_left (by omega), hs6' j (by omega) (fun e => by have := hvlt j e; omega)]
        have h7same : ∀ j, j < H.length → idOf v ≠ some j → (H6 ++ [Blk.row 0 (nats (l ++ [x])) 0 false])[j]? = H[j]? := fun j hj hne => by rw [List.getElem?_append_left (by omega), hs6' j hj hne]
        have h7own : Own 5 1 (nats l) v (H6 ++ [.row 0 (nats (l ++ [x])) 0 false]) := o6.mono fun j hj => by
          rw [List.getElem?_append_left (by have := hvlt j hj; omega)]
        have h7len : (H6 ++ [Blk.row 0 (nats (l ++ [x])) 0 false]).length = H.length + 2 := by simp; omega
        have hvb : idOf (.vec H6.length 0 0 (l.length + 1) 1) = some (H.length + 1) := by simp [idOf]; omega
        generalize (H6 ++ [Blk.row 0 (nats (l ++ [x])) 0 false]) = H7 at *
        generalize hvbe : AV.vec H6.length 0 0 (l.length + 1) 1 = vb at *
        have hlb : lenWp (some vb) H7 = fun K => K (.int .i64 ((l.length + 1 : Nat) : Int)) H7 [] := by rw [← hvbe]; rfl
        simp [go_sem, fn54]
        have hll2 : (l ++ [x]).length = l.length + 1 := by simp
        refine c54_call (n := n) (x := x + 1) (m := m) (f := f) (B0 := B0) (B2 := B2) (l := l ++ [x]) ovb h7five (fun R hR => ?_) (fun H8 lf => ?_)
        · refine ih (x + 1) (l ++ [x]) vb _ _ _ R (by omega) (by omega) (by omega) (fun y hy => ?_) ?_ (H5_set h7five) (by simp; omega) hR
          · rcases List.mem_append.1 hy with hy | hy
            · have := hlx y hy; omega
            · simp at hy; omega
          · exact ovb.mono fun j hj => by
              rw [List.getElem?_set_ne (by rw [hvb] at hj; injection hj; omega)]
        · have h8len : H8.length = H.length + 2 := by rw [lf.len]; simp; omega
          have h8same : ∀ j, 5 ≤ j → j < H.length → H8[j]? = H7[j]? := fun j h5 hj => by
            rw [lf.same j h5 (by rw [hvb]; simp; omega), List.getElem?_set_ne (by omega)]
          have hg : ∀ j, 5 ≤ j → j < H.length → (H8.take H.length)[j]? = H7[j]? := fun j h5 hj => by rw [List.getElem?_take, if_pos hj, h8same j h5 hj]
          rw [hll2] at lf
          have next := go _ (H8.take H.length) (by rw [List.length_take]; omega) (by
            have := lf.five
            rw [List.take_take, Nat.min_eq_left hl5]; exact this) (fun j h5 hj => by
            by_cases hjl : j < H.length
            · rw [hg j h5 hjl, h7same j hjl hj]
            · rw [List.getElem?_eq_none (by rw [List.length_take]; omega), List.getElem?_eq_none (by omega)]) (h7own.mono fun j hj => hg j (hvlt j hj).1 (hvlt j hj).2) h
          have hcl : clearOf 4 [tcv, []] = true := by simp [clearOf]; simpa using htc4
          simp [go_sem, ftop, hvt, hw, AV.top, hcl]
          exact ⟨by omega, next⟩
    · obtain rfl : x = pw n := by omega
      simp only [spL, if_neg hlt] at h
      rw [wp_round c54_l0.eq_1]
      simp [go_sem, ld1, hsh]
      exact h _ H ⟨rfl, hH, fun _ _ _ => rfl, g⟩
end Go.Proofs.YtbkhffakhggdaaaDoor.Code
end

