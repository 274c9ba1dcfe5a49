/-
  Parts of the proofs about this chapter, joined: contracts of functions and plain laws.
-/
import Derived.Test.YtbkhffakhggdaaaDoorCall
import Derived.Test.YtbkhffakhggdaaaDoorKit
import Derived.KernelRfl
import Derived.IntWalk
set_option linter.all false
section
set_option linter.all false
namespace Go.Ab
end Go.Ab
namespace Go.Proofs.YtbkhffakhggdaaaDoor.Code
open Go Go.Ab
theorem i64_suc {i : Nat} (h : i < 1000000) : IntKind.i64.wrap ((i : Int) + 1) = ((i + 1 : Nat) : Int) := by
  rw [show (i : Int) + 1 = ((i + 1 : Nat) : Int) by omega, i64_nat (by omega)]
theorem natEq {a b : Nat} : ((a : Int) = (b : Int)) ↔ a = b := by omega
end Go.Proofs.YtbkhffakhggdaaaDoor.Code
end
section
set_option linter.all false
section
namespace Go.Proofs.YtbkhffakhggdaaaDoor.Code
open Go Go.Ab
variable {pure : Bool} {base bar : Nat} {H : Heap} {Q : AV → Heap → Prop} {K : AV → Heap → List Nat → Prop}
/-! lists of numbers with a sign -/
def ints (l : List Int) : List AV := l.map (.int .i64)
def isV (v : AV) (l : List Int) : Prop := (v = .nils ∧ l = []) ∨ v = .lst 1 false (ints l)
theorem isV.len {v : AV} {l : List Int} (h : isV v l) : lenWp (some v) H K = K (.int .i64 (l.length : Int)) H [] := by
  rcases h with ⟨rfl, rfl⟩ | rfl
  · rfl
  · rw [lenWp_lst]; simp [ints]
theorem isV.frz {v : AV} {l : List Int} (h : isV v l) {d : Nat} : Go.Ab.frz (d + 1) bar H v = some (v, H) := by
  rcases h with ⟨rfl, rfl⟩ | rfl <;> rfl
theorem isV.top {v : AV} {l : List Int} (h : isV v l) : v.top = 0 := by
  rcases h with ⟨rfl, rfl⟩ | rfl
  · rfl
  · exact tops_zero fun x hx => by
      obtain ⟨z, _, rfl⟩ := List.mem_map.1 hx
      rfl
theorem isV.isTup {v : AV} {l : List Int} (h : isV v l) : v.isTup = false := by
  rcases h with ⟨rfl, rfl⟩ | rfl <;> rfl
theorem isV.cells {v : AV} {l : List Int} (h : isV v l) : v.cells = [v] := by
  rcases h with ⟨rfl, rfl⟩ | rfl <;> rfl
theorem isV.noVec {v : AV} {l : List Int} (h : isV v l) : v.noVec = true := by
  rcases h with ⟨rfl, rfl⟩ | rfl <;> rfl
theorem isV.ix {v : AV} {l : List Int} (h : isV v l) {k : IntKind} {i : Nat} (hi : i < l.length) : ixaSWp 1 (some v) (some (.int k (i : Int))) H K = K (.fp (.int .i64 l[i])) H [] := by
  rcases h with ⟨rfl, rfl⟩ | rfl
  · simp at hi
  · rw [ixaSWp_lst]
    simp only [Int.toNat_natCast]
    rw [show (ints l)[i]? = some (.int .i64 l[i]) by simp [ints, List.getElem?_eq_getElem hi]]
    simp [valWp_some]
/-! trays: the first error of a list, and its set -/
def errT (n : Int) : Int → List Int → Int
  | _, [] => 0
  | last, x :: r => if x < 0 ∨ n ≤ x then 2 else if x ≤ last then 7 else errT n x r
def orT : Nat → List Int → Nat
  | s, [] => s
  | s, x :: r => orT (bor s (pw x.toNat)) r
def subsF : Nat → Nat → List (List Int)
  | 0, _ => [[]]
  | k + 1, f => subsF k (f + 1) ++ (subsF k (f + 1)).map (((f : Nat) : Int) :: ·)
/-- the dyes of a set -/
def dyL (x : Nat) : List Int := ((List.range 6).filter fun i => x.testBit i).map fun (i : Nat) => (i : Int)
theorem subsF_of {n : Nat} : ∀ {k f : Nat} {l : List Int} {last : Int}, f + k = n → last + 1 = (f : Int) → errT n last l = 0 → l ∈ subsF k f
  | 0, f, [], _, _, _, _ => by simp [subsF]
  | k + 1, f, [], _, _, _, _ => by
    have := subsF_of (k := k) (f := f + 1) (l := []) (n := f + 1 + k) (last := f) rfl (by omega) rfl
    exact List.mem_append_left _ this
  | 0, f, x :: r, last, hn, hl, h => by
    unfold errT at h
    split at h
    · cases h
    · split at h
      · cases h
      · omega
  | k + 1, f, x :: r, last, hn, hl, h => by
    have h' := h
    unfold errT at h
    split at h
    · cases h
    · split at h
      · cases h
      · by_cases hx : x = (f : Int)
        · subst hx
          exact List.mem_append_right _ (List.mem_map.2 ⟨r, subsF_of (k := k) (f := f + 1) (by omega) (by omega) h, rfl⟩)
        · refine List.mem_append_left _ (subsF_of (k := k) (f := f + 1) (last := f) (n := n) (by omega) (by omega) ?_)
          unfold errT
          rw [if_neg (by assumption), if_neg (by omega)]
          exact h
theorem dyL_some : ((List.range' 1 6).all fun n => (subsF n 0).all fun l => (List.range (2 ^ n)).any fun x => (l == dyL x) && Nat.beq (orT 0 l) x) = true := by decide +kernel
theorem dyL_of {n : Nat} {l : List Int} (h1 : 1 ≤ n) (h6 : n ≤ 6) (h : errT n (-1) l = 0) : orT 0 l < pw n ∧ l = dyL (orT 0 l) := by
  have hm := subsF_of (n := n) (k := n) (f := 0) (by omega) (by decide) h
  have := List.all_eq_true.1 (List.all_eq_true.1 dyL_some n (List.mem_range'_1.2 ⟨h1, by omega⟩)) l hm
  obtain ⟨x, hx, hb⟩ := List.any_eq_true.1 this
  rw [Bool.and_eq_true] at hb
  obtain ⟨e1, e2⟩ := hb
  have e2 := Nat.eq_of_beq_eq_true e2
  have e1 := eq_of_beq e1
  rw [e2]
  exact ⟨List.mem_range.1 hx, e1⟩
theorem u64n {a : Nat} (h : a < 9223372036854775808) : IntKind.u64.wrap (a : Int) = a := Go.IntWalk.u64_in _ (by omega)
theorem or_u64 {a b : Nat} (ha : a < 64) (hb : b < 64) : abin .or (.int .u64 a) (.int .u64 b) = some (.int .u64 ((bor a b : Nat) : Int)) := by
  have hl : bor a b < 64 := Nat.or_lt_two_pow (n := 6) ha hb
  have e : (BitVec.ofInt 64 (a : Int) ||| BitVec.ofInt 64 (b : Int)).toNat = bor a b := by
    rw [BitVec.toNat_or, ofInt_toNat (w := 64) (by omega), ofInt_toNat (w := 64) (by omega)]; rfl
  simp only [abin, binInt, if_true]
  rw [show IntKind.u64.bits = 64 from rfl, e, u64n (by omega)]
theorem shl_u64 {b : Nat} (hb : b < 6) : abin .shl (.int .u64 1) (.int .i64 (b : Int)) = some (.int .u64 ((pw b : Nat) : Int)) := by
  have h2 : (2 : Nat) ^ b < 64 := Nat.pow_lt_pow_right (by decide) hb
  simp only [abin]
  rw [if_neg (by omega), Int.toNat_natCast, show min b IntKind.u64.bits = b from Nat.min_eq_left (by simp [IntKind.bits]; omega)]
  rw [show (1 : Int) * 2 ^ b = ((2 ^ b : Nat) : Int) by simp, u64n (by omega)]; rfl
theorem pw64 {b : Nat} (hb : b < 6) : pw b < 64 := Nat.pow_lt_pow_right (by decide) hb
theorem bor64 {a b : Nat} (ha : a < 64) (hb : b < 64) : bor a b < 64 := Nat.or_lt_two_pow (n := 6) ha hb
/-! 102, 72: a tray as a set -/
theorem k79 {n : Int} (h : Q (.bool (decide (1 ≤ n) && decide (n ≤ 6))) H) : WpCall E pure base bar 79 [.int .i64 n] H Q := by
  rw [call79]
  by_cases h1 : 1 ≤ n <;> by_cases h2 : n ≤ 6 <;> simp [h1, h2] at h <;> simp [go_sem, WpFun, c79, h1, h2] <;> exact h
theorem l102 {n : Nat} {v : AV} {l : List Int} (hn : n ≤ 6) (hv : isV v l) (hl : l.length < 1000) {R : PQ} : ∀ (k i s : Nat) (last : Int) (fr : List (Nat × AV)), i + k = l.length → s < 64 →
    (fr = [(0, .int .i64 (n : Int)), (6, .int .u64 (s : Nat)), (7, .int .i64 last), (10, v), (11, .int .i64 (l.length : Nat)), (12, .int .i64 (i : Nat))] ∨ fr = [(0, .int .i64 (n : Int)), (6, .int .u64 (s : Nat)), (10, v), (11, .int .i64 (l.length : Nat)), (12, .int .i64 (i : Nat)), (7, .int .i64 last)]) →
    (errT n last (l.drop i) ≠ 0 → R .ret [(4, .int .u64 0), (5, .int .i64 (errT n last (l.drop i)))] H) →
    (errT n last (l.drop i) = 0 → ∀ l', R (.exit 0) [(0, .int .i64 (n : Int)), (6, .int .u64 (orT s (l.drop i) : Nat)), (7, .int .i64 l'), (10, v), (11, .int .i64 (l.length : Nat)), (12, .int .i64 (l.length : Nat)), (13, .bool false)] H) →
    (errT n last (l.drop i) = 0 → ∀ l', R (.exit 0) [(0, .int .i64 (n : Int)), (6, .int .u64 (orT s (l.drop i) : Nat)), (10, v), (11, .int .i64 (l.length : Nat)), (12, .int .i64 (l.length : Nat)), (7, .int .i64 l'), (13, .bool false)] H) →
    Wp E base bar (.loop c102_l0) fr H R := by
  intro k
  induction k with
  | zero =>
    intro i s last fr hi hs hfr h1 h2 h3
    obtain rfl : i = l.length := by omega
    rw [List.drop_length] at h2 h3
    rw [wp_round c102_l0.eq_1]
    rcases hfr with rfl | rfl <;> simp [go_sem]
    · exact h2 rfl _
    · exact h3 rfl _
  | succ k ih =>
    intro i s last fr hi hs hfr h1 h2 h3
    have hlt : i < l.length := by omega
    rw [List.drop_eq_getElem_cons hlt] at h1 h2 h3
    have hix := fun (K : AV → Heap → List Nat → Prop) (k : IntKind) => hv.ix (H := H) (K := K) (k := k) hlt
    generalize l[i] = x at *
    rw [wp_round c102_l0.eq_1]
    unfold errT at h1 h2 h3
    have hw := i64_suc (show i < 1000000 by omega)
    by_cases hx0 : x < 0
    · rw [if_pos (.inl hx0)] at h1
      have := h1 (by decide)
      rcases hfr with rfl | rfl <;> simp [go_sem, hlt, hix, hx0]
      all_goals exact this
    by_cases hxn : (n : Int) ≤ x
    · rw [if_pos (.inr hxn)] at h1
      have := h1 (by decide)
      rcases hfr with rfl | rfl <;> simp [go_sem, hlt, hix, hx0, hxn]
      all_goals exact this
    rw [if_neg (by omega)] at h1 h2 h3
    obtain ⟨y, rfl⟩ := Int.eq_ofNat_of_zero_le (show 0 ≤ x by omega)
    have hy : y < 6 := by omega
    by_cases hle : (y : Int) ≤ last
    · rw [if_pos hle] at h1
      have := h1 (by decide)
      rcases hfr with rfl | rfl <;> simp [go_sem, hlt, hix, hx0, hxn, hle]
      all_goals exact this
    · rw [if_neg hle] at h1 h2 h3
      have next := ih (i + 1) (bor s (pw y)) (y : Int) _ (by omega) (bor64 hs (pw64 hy)) (.inr rfl) h1 (by simpa only [orT, Int.toNat_natCast] using h2) (by simpa only [orT, Int.toNat_natCast] using h3)
      have hny : ¬ n ≤ y := by omega
      rcases hfr with rfl | rfl <;> simp [go_sem, hlt, hix, hx0, hxn, hle, hny, shl_u64 hy, or_u64 hs (pw64 hy), hw]
      all_goals exact next
theorem k102 {n : Nat} {v : AV} {l : List Int} (hn : n ≤ 6) (hv : isV v l) (hl : l.length < 1000)
    (h1 : errT n (-1) l ≠ 0 → Q (.tup [.int .u64 0, .int .i64 (errT n (-1) l)]) H)
    (h2 : errT n (-1) l = 0 → Q (.tup [.int .u64 (orT 0 l : Nat), .int .i64 0]) H) : WpCall E pure base bar 102 [.int .i64 (n : Int), v] H Q := by
  rw [call102]
  simp [go_sem, WpFun, c102, hv.frz, hv.len]
  refine l102 hn hv hl l.length 0 0 (-1) _ (by omega) (by decide) (.inl rfl) (fun h => ?_) (fun h l' => ?_) (fun h l' => ?_)
  · rw [List.drop_zero] at h
    have := h1 h
    simp [go_sem]
    exact this
  all_goals
    rw [List.drop_zero] at h
    have := h2 h
    simp [go_sem]
    exact this
theorem k84 {a b c : Int} (h : Q (.bool (decide (b ≤ a) && decide (a ≤ c))) H) : WpCall E pure base bar 84 [.int .i64 a, .int .i64 b, .int .i64 c] H Q := by
  rw [call84]
  by_cases h1 : b ≤ a <;> by_cases h2 : a ≤ c <;> simp [h1, h2] at h <;> simp [go_sem, WpFun, c84, h1, h2] <;> exact h
end Go.Proofs.YtbkhffakhggdaaaDoor.Code
end
section
namespace Go.Proofs.YtbkhffakhggdaaaDoor.Code
open Go Go.Ab
variable {pure : Bool} {base bar : Nat} {H : Heap} {Q : AV → Heap → Prop} {K : AV → Heap → List Nat → Prop}
theorem isV.fp {v : AV} {l : List Int} (h : isV v l) : aload H ⟨false, 1⟩ (.fp v) = some v := by
  rcases h with ⟨rfl, rfl⟩ | rfl <;> rfl
theorem box0 {a b : AV} : aload (H ++ [.row 0 [a, b] 0 true]) ⟨false, 1⟩ (.ptr H.length 0 0) = some a := by
  rw [aload_ptr (own_get0 (l := [.row 0 [a, b] 0 true]) |>.trans rfl)]; rfl
theorem box1 {a b : AV} : aload (H ++ [.row 0 [a, b] 0 true]) ⟨false, 1⟩ (.ptr H.length 0 1) = some b := by
  rw [aload_ptr (own_get0 (l := [.row 0 [a, b] 0 true]) |>.trans rfl)]; rfl
theorem box2 {a b : AV} : aload (H ++ [.row 0 [a, b] 0 true]) ⟨true, 2⟩ (.ptr H.length 0 0) = some (.agg [a, b]) := by
  rw [aload_ptr (own_get0 (l := [.row 0 [a, b] 0 true]) |>.trans rfl)]; rfl
/-! 42: the reference's check, tray by tray -/
theorem l42_0 {id ver fz : Nat} {ex : Bool} {n : Nat} {q v : AV} {l : List Int} {j : Int} (hn1 : 1 ≤ n) (hn : n ≤ 6) (hv : isV v l) (hl : l.length < 1000) (hid : H[id]? = some (.row ver [.int .i64 (n : Int), q] fz ex)) {R : PQ} :
    ∀ (k i : Nat) (last : Int), i + k = l.length → (i = 0 ∧ last = -1 ∨ 0 < i ∧ l[i - 1]? = some last) →
    (errT n last (l.drop i) ≠ 0 → R .ret [(2, .int .i64 (errT n last (l.drop i)))] H) →
    (errT n last (l.drop i) = 0 → R (.exit 2) [(1, .ptr id ver 0), (3, .int .i64 j), (4, v), (5, .int .i64 (l.length : Nat)), (26, .bool false)] H) →
    Wp E base bar (.loop c42_l0) [(1, .ptr id ver 0), (3, .int .i64 j), (4, v), (5, .int .i64 (i : Nat))] H R := by
  have ld : aload H ⟨false, 1⟩ (.ptr id ver 0) = some (.int .i64 (n : Int)) := by rw [aload_ptr hid]; rfl
  have hlt' := (List.getElem?_eq_some_iff.1 hid).1
  intro k
  induction k with
  | zero =>
    intro i last hi hla h1 h2
    obtain rfl : i = l.length := by omega
    rw [List.drop_length] at h2
    rw [wp_round c42_l0.eq_1]
    simp [go_sem, hv.len]
    exact h2 rfl
  | succ k ih =>
    intro i last hi hla h1 h2
    have hlt : i < l.length := by omega
    have hgi : l[i + 1 - 1]? = some l[i] := by rw [Nat.add_sub_cancel, List.getElem?_eq_getElem hlt]
    rw [List.drop_eq_getElem_cons hlt] at h1 h2
    have hix := fun (K : AV → Heap → List Nat → Prop) (k : IntKind) => hv.ix (H := H) (K := K) (k := k) hlt
    have hix' := fun (j : Nat) (hj : j < l.length) (K : AV → Heap → List Nat → Prop) (k : IntKind) => hv.ix (H := H) (K := K) (k := k) hj
    generalize l[i] = x at *
    rw [wp_round c42_l0.eq_1]
    unfold errT at h1 h2
    have hw := i64_suc (show i < 1000000 by omega)
    have hn1' : IntKind.i64.wrap ((n : Int) - 1) = (n : Int) - 1 := by rw [show (n : Int) - 1 = ((n - 1 : Nat) : Int) by omega, i64_nat (by omega)]
    by_cases hx : x < 0 ∨ (n : Int) ≤ x
    · rw [if_pos hx] at h1
      have := h1 (by decide)
      have hb : (decide (0 ≤ x) && decide (x ≤ (n : Int) - 1)) = false := by
        rw [← Bool.not_eq_true, Bool.and_eq_true, decide_eq_true_eq, decide_eq_true_eq]; omega
      simp [go_sem, hv.len, hlt, hix, ld, hn1']
      refine k84 ?_
      rw [hb]
      simp [go_sem]
      exact this
    · rw [if_neg hx] at h1 h2
      have hb : (decide (0 ≤ x) && decide (x ≤ (n : Int) - 1)) = true := by
        rw [Bool.and_eq_true, decide_eq_true_eq, decide_eq_true_eq]; omega
      simp [go_sem, hv.len, hlt, hix, ld, hn1']
      refine k84 ?_
      rw [hb]
      rcases hla with ⟨rfl, rfl⟩ | ⟨hi0, hla⟩
      · rw [if_neg (by omega)] at h1 h2
        have next := ih (0 + 1) x (by omega) (.inr ⟨by omega, hgi⟩) h1 h2
        simp [go_sem]
        exact next
      · obtain ⟨hj, rfl⟩ := List.getElem?_eq_some_iff.1 hla
        have hix1 := hix' (i - 1) hj
        have hwi : IntKind.i64.wrap ((i : Int) - 1) = ((i - 1 : Nat) : Int) := by rw [show (i : Int) - 1 = ((i - 1 : Nat) : Int) by omega, i64_nat (by omega)]
        generalize l[i - 1] = y at *
        by_cases hle : x ≤ y
        · rw [if_pos hle] at h1
          have := h1 (by decide)
          simp [go_sem, hi0, hix, hix1, hwi, hle]
          exact this
        · rw [if_neg hle] at h1 h2
          have next := ih (i + 1) x (by omega) (.inr ⟨by omega, hgi⟩) h1 h2
          simp [go_sem, hi0, hix, hix1, hwi, hle, hw]
          exact next
theorem k42o {n : Int} {q : AV} (hn : ¬ (1 ≤ n ∧ n ≤ 6)) (hq : ∀ (d bar : Nat) (H : Heap), frz (d + 1) bar H q = some (q, H)) (hc : q.cells = [q]) (h1 : Q (.int .i64 1) H) : WpCall E pure base bar 42 [.agg [.int .i64 n, q]] H Q := by
  have hb : (decide (1 ≤ n) && decide (n ≤ 6)) = false := by
    rw [← Bool.not_eq_true, Bool.and_eq_true, decide_eq_true_eq, decide_eq_true_eq]; exact hn
  rw [call42]
  simp [go_sem, WpFun, c42, hq, hc, box0, box1]
  refine k84 ?_
  rw [hb]
  simp [go_sem]
  exact h1
end Go.Proofs.YtbkhffakhggdaaaDoor.Code
end
section
namespace Go.Proofs.YtbkhffakhggdaaaDoor.Code
open Go Go.Ab
variable {pure : Bool} {base bar : Nat} {H : Heap} {Q : AV → Heap → Prop} {K : AV → Heap → List Nat → Prop}
/-! 105, 92: has, inside -/
theorem l105 {v : AV} {l : List Int} {z : Int} (hv : isV v l) (hl : l.length < 1000) {R : PQ} : ∀ (k i : Nat), i + k = l.length →
    ((l.drop i).contains z = false → R (.exit 0) [(0, v), (1, .int .i64 z), (5, .int .i64 (l.length : Nat)), (9, .bool false)] H) →
    ((l.drop i).contains z = true → R .ret [(4, .bool true)] H) →
    Wp E base bar (.loop c105_l0) [(0, v), (1, .int .i64 z), (5, .int .i64 (i : Nat))] H R := by
  intro k
  induction k with
  | zero =>
    intro i hi h1 h2
    obtain rfl : i = l.length := by omega
    rw [List.drop_length] at h1
    rw [wp_round c105_l0.eq_1]
    simp [go_sem, hv.len]
    exact h1 rfl
  | succ k ih =>
    intro i hi h1 h2
    have hlt : i < l.length := by omega
    rw [List.drop_eq_getElem_cons hlt, List.contains_cons] at h1 h2
    have hix := fun (K : AV → Heap → List Nat → Prop) (k : IntKind) => hv.ix (H := H) (K := K) (k := k) hlt
    generalize l[i] = x at *
    have hw := i64_suc (show i < 1000000 by omega)
    rw [wp_round c105_l0.eq_1]
    by_cases hx : x = z
    · subst hx
      have := h2 (by simp)
      simp [go_sem, hv.len, hlt, hix]
      exact this
    · have hb : (z == x) = false := by simpa using fun h => hx h.symm
      rw [hb] at h1 h2
      simp only [Bool.false_or] at h1 h2
      have next := ih (i + 1) (by omega) h1 h2
      simp [go_sem, hv.len, hlt, hix, hx, hw]
      exact next
theorem k105 {v : AV} {l : List Int} {z : Int} (hv : isV v l) (hl : l.length < 1000) (h : Q (.bool (l.contains z)) H) : WpCall E pure base bar 105 [v, .int .i64 z] H Q := by
  rw [call105]
  simp [go_sem, WpFun, c105, hv.frz]
  refine l105 hv hl l.length 0 (by omega) (fun hc => ?_) (fun hc => ?_)
  all_goals
    rw [List.drop_zero] at hc
    rw [hc] at h
    simp [go_sem]
    exact h
theorem l92 {v w : AV} {l m : List Int} (hv : isV v l) (hw : isV w m) (hl : l.length < 1000) (hm : m.length < 1000) {R : PQ} : ∀ (k i : Nat), i + k = l.length →
    ((l.drop i).all m.contains = true → R (.exit 0) [(0, v), (1, w), (5, .int .i64 (l.length : Nat)), (9, .bool false)] H) →
    ((l.drop i).all m.contains = false → R .ret [(4, .bool false)] H) →
    Wp E base bar (.loop c92_l0) [(0, v), (1, w), (5, .int .i64 (i : Nat))] H R := by
  intro k
  induction k with
  | zero =>
    intro i hi h1 h2
    obtain rfl : i = l.length := by omega
    rw [List.drop_length] at h1
    rw [wp_round c92_l0.eq_1]
    simp [go_sem, hv.len]
    exact h1 rfl
  | succ k ih =>
    intro i hi h1 h2
    have hlt : i < l.length := by omega
    rw [List.drop_eq_getElem_cons hlt, List.all_cons] at h1 h2
    have hix := fun (K : AV → Heap → List Nat → Prop) (k : IntKind) => hv.ix (H := H) (K := K) (k := k) hlt
    generalize l[i] = x at *
    have hs := i64_suc (show i < 1000000 by omega)
    rw [wp_round c92_l0.eq_1]
    simp [go_sem, hv.len, hlt, hix]
    refine k105 hw hm ?_
    cases hc : m.contains x
    · rw [hc] at h2
      have := h2 (by simp)
      simp [go_sem]
      exact this
    · rw [hc] at h1 h2
      simp only [Bool.true_and] at h1 h2
      have next := ih (i + 1) (by omega) h1 h2
      simp [go_sem, hs]
      exact next
theorem k92 {v w : AV} {l m : List Int} (hv : isV v l) (hw : isV w m) (hl : l.length < 1000) (hm : m.length < 1000) (h : Q (.bool (l.all m.contains)) H) : WpCall E pure base bar 92 [v, w] H Q := by
  rw [call92]
  simp [go_sem, WpFun, c92, hv.frz, hw.frz]
  refine l92 hv hw hl hm l.length 0 (by omega) (fun hc => ?_) (fun hc => ?_)
  all_goals
    rw [List.drop_zero] at hc
    rw [hc] at h
    simp [go_sem]
    exact h
/-! sets as lists -/
theorem isV_dyL {x : Nat} (hx : x < 64) : isV (dy x) (dyL x) := by
  by_cases h0 : x = 0
  · subst h0; exact .inl ⟨rfl, rfl⟩
  · refine .inr ?_
    unfold dy
    rw [if_neg h0]
    simp [ints, dyL]
theorem dyL_len {x : Nat} (hx : x < 64) : (dyL x).length = pc x := by
  have : ∀ x, x < 64 → (dyL x).length = pc x := by decide +kernel
  exact this x hx
theorem pc_le {x : Nat} : pc x ≤ 6 := Nat.le_trans (List.length_filter_le _ _) (by simp)
/-- one set is inside another -/
def subB (a b : Nat) : Bool := Nat.beq (Nat.land a b) a
theorem subB_all : ((List.range 64).all fun a => (List.range 64).all fun b => (dyL a).all (dyL b).contains == subB a b) = true := by decide +kernel
theorem dyL_sub {a b : Nat} (ha : a < 64) (hb : b < 64) : (dyL a).all (dyL b).contains = subB a b :=
  eq_of_beq (List.all_eq_true.1 (List.all_eq_true.1 subB_all a (List.mem_range.2 ha)) b (List.mem_range.2 hb))
theorem dy_len {x : Nat} (hx : x < 64) : lenWp (some (dy x)) H K = K (.int .i64 (pc x : Nat)) H [] := by
  rw [(isV_dyL hx).len, dyL_len hx]
theorem dy_plain {x : Nat} : Plain (dy x) := by
  unfold dy; split
  · exact Plain.nils
  · exact Plain.lst
theorem dy_isTup {x : Nat} : (dy x).isTup = false := by unfold dy; split <;> rfl
theorem dy_cells {x : Nat} : (dy x).cells = [dy x] := by unfold dy; split <;> rfl
theorem dy_noVec {x : Nat} : (dy x).noVec = true := by unfold dy; split <;> rfl
theorem dy_top {x : Nat} : (dy x).top = 0 := by
  unfold dy; split
  · rfl
  · exact tops_zero fun y hy => by
      obtain ⟨z, _, rfl⟩ := List.mem_map.1 hy
      rfl
theorem dy_fp {x : Nat} : aload H ⟨false, 1⟩ (.fp (dy x)) = some (dy x) := by unfold dy; split <;> rfl
theorem dy_frz {x d : Nat} : frz (d + 1) bar H (dy x) = some (dy x, H) := by unfold dy; split <;> rfl
/-- trays as lists -/
def dys (S : List Nat) : List AV := S.map dy
theorem dys_plain {S : List Nat} : ∀ c ∈ dys S, Plain c := fun c hc => by
  obtain ⟨x, _, rfl⟩ := List.mem_map.1 hc
  exact dy_plain
theorem dys_tops {S : List Nat} : AV.top.tops (dys S) = 0 := tops_zero fun c hc => by
  obtain ⟨x, _, rfl⟩ := List.mem_map.1 hc
  exact dy_top
theorem dys_length {S : List Nat} : (dys S).length = S.length := by simp [dys]
theorem dys_append {S T : List Nat} : dys (S ++ T) = dys S ++ dys T := by simp [dys]
theorem dys_get {S : List Nat} {i : Nat} (hi : i < S.length) : (dys S)[i]? = some (dy S[i]) := by simp [dys, List.getElem?_eq_getElem hi]
/-- a value is a list of trays -/
def isS (v : AV) (S : List Nat) : Prop := (v = .nils ∧ S = []) ∨ ∃ ex, v = .lst 1 ex (dys S)
theorem isS.len {v : AV} {S : List Nat} (h : isS v S) : lenWp (some v) H K = K (.int .i64 (S.length : Int)) H [] := by
  rcases h with ⟨rfl, rfl⟩ | ⟨ex, rfl⟩
  · rfl
  · rw [lenWp_lst, dys_length]
theorem isS.frz {v : AV} {S : List Nat} (h : isS v S) {d : Nat} : frz (d + 1) bar H v = some (v, H) := by
  rcases h with ⟨rfl, rfl⟩ | ⟨ex, rfl⟩ <;> rfl
theorem isS.isTup {v : AV} {S : List Nat} (h : isS v S) : v.isTup = false := by
  rcases h with ⟨rfl, rfl⟩ | ⟨ex, rfl⟩ <;> rfl
theorem isS.cells {v : AV} {S : List Nat} (h : isS v S) : v.cells = [v] := by
  rcases h with ⟨rfl, rfl⟩ | ⟨ex, rfl⟩ <;> rfl
theorem isS.noVec {v : AV} {S : List Nat} (h : isS v S) : v.noVec = true := by
  rcases h with ⟨rfl, rfl⟩ | ⟨ex, rfl⟩ <;> rfl
theorem isS.top {v : AV} {S : List Nat} (h : isS v S) : v.top = 0 := by
  rcases h with ⟨rfl, rfl⟩ | ⟨ex, rfl⟩
  · rfl
  · exact dys_tops
theorem isS.ix {v : AV} {S : List Nat} (h : isS v S) {k : IntKind} {i : Nat} (hi : i < S.length) : ixaSWp 1 (some v) (some (.int k (i : Int))) H K = K (.fp (dy S[i])) H [] := by
  rcases h with ⟨rfl, rfl⟩ | ⟨ex, rfl⟩
  · simp at hi
  · rw [ixaSWp_lst]
    simp only [Int.toNat_natCast]
    rw [dys_get hi]
    simp [valWp_some]
theorem outL_dys {S : List Nat} : outL 1 (dys S) = if S = [] then .nils else .lst 1 false (dys S) := by
  unfold outL
  by_cases h : S = []
  · subst h; rfl
  · rw [if_neg (by simpa [dys] using h), if_neg h, Nat.div_one, chunks_one]
theorem isS.out {S : List Nat} : isS (outL 1 (dys S)) S := by
  rw [outL_dys]
  split
  · rename_i h; exact .inl ⟨rfl, h⟩
  · exact .inr ⟨_, rfl⟩
theorem gdys {H : Heap} {base bar bytes : Nat} {S : List Nat} {H0 : Heap} {v : AV} {ex : Bool} {x : Nat} {K : AV → Heap → List Nat → Prop} (g : Grow 1 (dys S) H0 v H) (hb : bar ≤ H0.length) (hbase : base ≤ H0.length)
    (hlen : (S.length + 1) * bytes ≤ 140737488355328)
    (h : ∀ v' H' tc, Grow 1 (dys (S ++ [x])) H0 v' H' → K v' H' tc) : appWp base bar 1 bytes (some v) (some (.lst 1 ex [dy x])) H K := by
  refine g.app (by omega) (Nat.one_dvd _) (fun c hc => ?_) (Nat.one_dvd _) hb hbase ?_ fun v' H' tc g' => h v' H' tc ?_
  · simp [dy_cells] at hc; subst hc; exact dy_plain
  · simpa [dys_length, dy_cells] using hlen
  · simpa [dys_append, dys, dy_cells] using g'
theorem goutD {H : Heap} {base bar : Nat} {S : List Nat} {H0 : Heap} {v : AV} {K : AV → Heap → Prop} (g : Grow 1 (dys S) H0 v H) (hb : bar ≤ H0.length) (hbase : base ≤ H0.length)
    (h : K (outL 1 (dys S)) (H0.take base)) : outWp (leave 0 base bar [v] H) K := by
  obtain ⟨H', h1, h2, h3, h4⟩ := g.frz (d := 5) (bar := bar) (by omega) (Nat.one_dvd _) dys_plain hb
  have e : leave 0 base bar [v] H = some (outL 1 (dys S), H0.take base) := by
    rw [leave_0]
    simp only [frzAll, frz.frzs, frzsW, h1, leave0_some, tupled_one]
    rw [if_pos]
    · rw [show H'.take base = (H'.take H0.length).take base by rw [List.take_take, Nat.min_eq_left hbase], h4]
    · rw [outL_dys]; split <;> simp [tops_cons, tops_nil, top_nils, top_lst, dys_tops]
  rw [e]; exact h
end Go.Proofs.YtbkhffakhggdaaaDoor.Code
end
section
namespace Go.Proofs.YtbkhffakhggdaaaDoor.Code
open Go Go.Ab
variable {pure : Bool} {base bar : Nat} {H : Heap} {Q : AV → Heap → Prop} {K : AV → Heap → List Nat → Prop}
/-! 71: all trays near to those of a shelf -/
def relB (m : Int) (u t : Nat) : Bool := decide ((pc u : Int) = (pc t : Int) + m) && (subB u t || subB t u)
def nearS (n : Nat) (S : List Nat) (m : Int) : List Nat := (allS n).filter fun u => S.any (relB m u)
theorem allS_lt {n : Nat} (h1 : 1 ≤ n) (h6 : n ≤ 6) : ∀ u ∈ allS n, u < 64 := by
  have : ∀ n, n ≤ 6 → ∀ u ∈ allS n, u < 64 := by decide +kernel
  exact this n h6
theorem allS_len {n : Nat} (h6 : n ≤ 6) : (allS n).length ≤ 64 := by
  have : ∀ n, n ≤ 6 → (allS n).length ≤ 64 := by decide +kernel
  exact this n h6
theorem isS_al {n : Nat} : isS (al n) (allS n) := .inr ⟨_, rfl⟩
theorem wrap_pc {t : Nat} {m : Int} (hm : m = 1 ∨ m = -1) : IntKind.i64.wrap ((pc t : Int) + m) = (pc t : Int) + m := by
  have := pc_le (x := t)
  exact Go.IntWalk.i64_in _ (by omega)
end Go.Proofs.YtbkhffakhggdaaaDoor.Code
end
section
namespace Go.Proofs.YtbkhffakhggdaaaDoor.Code
open Go Go.Ab
variable {pure : Bool} {base bar : Nat} {H : Heap} {Q : AV → Heap → Prop} {K : AV → Heap → List Nat → Prop}
/-! 109, 86: smaller, same -/
def smL : List Int → List Int → Bool
  | [], m => decide (0 < m.length)
  | _ :: _, [] => false
  | x :: r, y :: s => if x = y then smL r s else decide (x < y)
theorem smL_irr : ∀ {l : List Int}, smL l l = false
  | [] => rfl
  | x :: r => by simp [smL, smL_irr (l := r)]
theorem smL_eq : ∀ {l m : List Int}, smL l m = false → smL m l = false → l = m
  | [], [], _, _ => rfl
  | [], _ :: _, h, _ => by simp [smL] at h
  | _ :: _, [], _, h => by simp [smL] at h
  | x :: r, y :: s, h, h' => by
    by_cases hx : x = y
    · subst hx
      simp only [smL, if_true] at h h'
      rw [smL_eq h h']
    · simp only [smL, if_neg hx, if_neg (fun e : y = x => hx e.symm), decide_eq_false_iff_not] at h h'
      omega
theorem smL_same {l m : List Int} : (!smL l m && !smL m l) = decide (l = m) := by
  by_cases h : l = m
  · subst h; simp [smL_irr]
  · have : ¬ (smL l m = false ∧ smL m l = false) := fun ⟨a, b⟩ => h (smL_eq a b)
    cases h1 : smL l m <;> cases h2 : smL m l <;> simp_all
theorem smL_len : ∀ {l m : List Int}, l = [] ∨ m = [] → smL l m = decide (l.length < m.length)
  | [], m, _ => rfl
  | x :: r, [], _ => by simp [smL]
  | x :: r, y :: s, h => by simp at h
theorem l109 {v w : AV} {l m : List Int} (hv : isV v l) (hw : isV w m) (hl : l.length < 1000) (hm : m.length < 1000) {R : PQ} : ∀ (k i : Nat), i + k = l.length → i ≤ m.length →
    (∀ j : Nat, smL (l.drop i) (m.drop i) = decide (l.length < m.length) → R (.exit 0) [(0, v), (1, w), (5, .int .i64 (j : Nat)), (15, .bool false)] H) →
    (R .ret [(4, .bool (smL (l.drop i) (m.drop i)))] H) →
    Wp E base bar (.loop c109_l0) [(0, v), (1, w), (5, .int .i64 (i : Nat))] H R := by
  intro k
  induction k with
  | zero =>
    intro i hi him h1 h2
    obtain rfl : i = l.length := by omega
    have := h1 l.length (by
      rw [List.drop_length, smL_len (.inl rfl), List.length_drop]
      by_cases h : l.length < m.length <;> simp [h] <;> omega)
    rw [wp_round c109_l0.eq_1]
    simp [go_sem, hv.len]
    exact this
  | succ k ih =>
    intro i hi him h1 h2
    have hlt : i < l.length := by omega
    by_cases hlm : i < m.length
    · rw [List.drop_eq_getElem_cons hlt, List.drop_eq_getElem_cons hlm] at h1 h2
      have hix := fun (K : AV → Heap → List Nat → Prop) (k : IntKind) => hv.ix (H := H) (K := K) (k := k) hlt
      have hiy := fun (K : AV → Heap → List Nat → Prop) (k : IntKind) => hw.ix (H := H) (K := K) (k := k) hlm
      generalize l[i] = x at *
      generalize m[i] = y at *
      have hs := i64_suc (show i < 1000000 by omega)
      rw [wp_round c109_l0.eq_1]
      by_cases hxy : x = y
      · subst hxy
        simp only [smL, if_true] at h1 h2
        have next := ih (i + 1) (by omega) (by omega) h1 h2
        simp [go_sem, hv.len, hw.len, hlt, hlm, hix, hiy, hs]
        exact next
      · simp only [smL, if_neg hxy] at h2
        simp [go_sem, hv.len, hw.len, hlt, hlm, hix, hiy, hxy]
        exact h2
    · obtain rfl : i = m.length := by omega
      have := h1 m.length (by
        rw [smL_len (.inr List.drop_length), List.length_drop, List.length_drop]
        by_cases h : l.length < m.length <;> simp [h] <;> omega)
      rw [wp_round c109_l0.eq_1]
      simp [go_sem, hv.len, hw.len, hlt]
      exact this
theorem k109 {v w : AV} {l m : List Int} (hv : isV v l) (hw : isV w m) (hl : l.length < 1000) (hm : m.length < 1000) (h : Q (.bool (smL l m)) H) : WpCall E pure base bar 109 [v, w] H Q := by
  rw [call109]
  simp [go_sem, WpFun, c109, hv.frz, hw.frz]
  refine l109 hv hw hl hm l.length 0 (by omega) (by omega) (fun j he => ?_) ?_
  · rw [List.drop_zero, List.drop_zero] at he
    rw [he] at h
    simp [go_sem, hv.len, hw.len]
    exact h
  · rw [List.drop_zero, List.drop_zero]
    simp [go_sem]
    exact h
theorem k86 {v w : AV} {l m : List Int} (hv : isV v l) (hw : isV w m) (hl : l.length < 1000) (hm : m.length < 1000) (h : Q (.bool (decide (l = m))) H) : WpCall E pure base bar 86 [v, w] H Q := by
  rw [← smL_same] at h
  rw [call86]
  simp [go_sem, WpFun, c86, hv.frz, hw.frz]
  refine k109 hv hw hl hm ?_
  cases h1 : smL l m
  · rw [h1] at h
    simp [go_sem]
    refine k109 hw hv hm hl ?_
    simp [go_sem]
    simpa using h
  · rw [h1] at h
    simp [go_sem]
    simpa using h
/-! 29: two lists are the same, for the law -/
theorem l29 {v w : AV} {l m : List Int} (hv : isV v l) (hw : isV w m) (hl : l.length < 1000) (he : l.length = m.length) {R : PQ} : ∀ (k i : Nat), i + k = l.length →
    (l.drop i = m.drop i → R (.exit 0) [(0, v), (1, w), (5, .int .i64 (l.length : Nat)), (14, .bool false)] H) →
    (l.drop i ≠ m.drop i → R .ret [(4, .bool false)] H) →
    Wp E base bar (.loop c29_l0) [(0, v), (1, w), (5, .int .i64 (i : Nat))] H R := by
  intro k
  induction k with
  | zero =>
    intro i hi h1 h2
    obtain rfl : i = l.length := by omega
    have := h1 (by rw [List.drop_length, he, List.drop_length])
    rw [wp_round c29_l0.eq_1]
    simp [go_sem, hv.len]
    exact this
  | succ k ih =>
    intro i hi h1 h2
    have hlt : i < l.length := by omega
    have hlm : i < m.length := by omega
    rw [List.drop_eq_getElem_cons hlt, List.drop_eq_getElem_cons hlm] at h1 h2
    have hix := fun (K : AV → Heap → List Nat → Prop) (k : IntKind) => hv.ix (H := H) (K := K) (k := k) hlt
    have hiy := fun (K : AV → Heap → List Nat → Prop) (k : IntKind) => hw.ix (H := H) (K := K) (k := k) hlm
    generalize l[i] = x at *
    generalize m[i] = y at *
    have hs := i64_suc (show i < 1000000 by omega)
    rw [wp_round c29_l0.eq_1]
    by_cases hxy : x = y
    · subst hxy
      have next := ih (i + 1) (by omega) (fun h => h1 (by rw [h])) (fun h => h2 (by simpa using h))
      simp [go_sem, hv.len, hlt, hix, hiy, hs]
      exact next
    · have := h2 (by simp [hxy])
      simp [go_sem, hv.len, hlt, hix, hiy, hxy]
      exact this
theorem k29 {v w : AV} {l m : List Int} (hv : isV v l) (hw : isV w m) (hl : l.length < 1000) (h : Q (.bool (decide (l = m))) H) : WpCall E pure base bar 29 [v, w] H Q := by
  rw [call29]
  by_cases he : l.length = m.length
  · simp [go_sem, WpFun, c29, hv.frz, hw.frz, hv.len, hw.len, he]
    refine l29 hv hw hl he l.length 0 (by omega) (fun hc => ?_) (fun hc => ?_)
    · rw [List.drop_zero, List.drop_zero] at hc
      rw [decide_eq_true hc] at h
      simp [go_sem]
      exact h
    · rw [List.drop_zero, List.drop_zero] at hc
      rw [decide_eq_false hc] at h
      simp [go_sem]
      exact h
  · have hne : l ≠ m := fun h => he (by rw [h])
    rw [decide_eq_false hne] at h
    have he' : ¬ ((l.length : Int) = (m.length : Int)) := by omega
    simp [go_sem, WpFun, c29, hv.frz, hw.frz, hv.len, hw.len, he']
    exact h
theorem dyL_inj {a b : Nat} (ha : a < 64) (hb : b < 64) (h : dyL a = dyL b) : a = b := by
  have key : ((List.range 64).all fun a => Nat.beq (orT 0 (dyL a)) a) = true := by decide +kernel
  have e1 := Nat.eq_of_beq_eq_true (List.all_eq_true.1 key a (List.mem_range.2 ha))
  have e2 := Nat.eq_of_beq_eq_true (List.all_eq_true.1 key b (List.mem_range.2 hb))
  rw [← e1, ← e2, h]
theorem dyL_lt {x : Nat} (hx : x < 64) : (dyL x).length < 1000 := by rw [dyL_len hx]; have := pc_le (x := x); omega
theorem k29s {a b : Nat} (ha : a < 64) (hb : b < 64) (h : Q (.bool (decide (a = b))) H) : WpCall E pure base bar 29 [dy a, dy b] H Q := by
  refine k29 (isV_dyL ha) (isV_dyL hb) (dyL_lt ha) ?_
  rw [show decide (dyL a = dyL b) = decide (a = b) by
    by_cases e : a = b
    · subst e; simp
    · rw [decide_eq_false e, decide_eq_false fun h => e (dyL_inj ha hb h)]]
  exact h
end Go.Proofs.YtbkhffakhggdaaaDoor.Code
end
section
namespace Go.Proofs.YtbkhffakhggdaaaDoor.Code
open Go Go.Ab Go.RowKit Go.ChangeShapes Go.WideShapes
end Go.Proofs.YtbkhffakhggdaaaDoor.Code
end
end
section
set_option linter.all false
section
namespace Go.Proofs.YtbkhffakhggdaaaDoor.Code
open Go Go.Ab
variable {pure : Bool} {base bar : Nat} {H : Heap} {Q : AV → Heap → Prop} {K : AV → Heap → List Nat → Prop}
def okJ (k : IntKind) (r : Option AV) (n : Nat) : Bool := match k, r with
  | .i64, some (.int .i64 v) => decide (v = (n : Int))
  | .u64, some (.int .u64 v) => decide (v = (n : Int))
  | _, _ => false
theorem okJ_u {r : Option AV} {n : Nat} (h : okJ .u64 r n = true) : r = some (.int .u64 (n : Int)) := by
  unfold okJ at h
  split at h
  · rename_i h1; cases h1
  · rw [of_decide_eq_true h]
  · cases h
end Go.Proofs.YtbkhffakhggdaaaDoor.Code
end
section
namespace Go.Proofs.YtbkhffakhggdaaaDoor.Code
open Go Go.Ab
variable {pure : Bool} {base bar : Nat} {H : Heap} {Q : AV → Heap → Prop} {K : AV → Heap → List Nat → Prop}
/-! sets as words -/
def us (L : List Nat) : List AV := L.map fun (x : Nat) => .int .u64 (x : Int)
theorem us_plain {l : List Nat} : ∀ c ∈ us l, Plain c := fun c hc => by
  obtain ⟨x, _, rfl⟩ := List.mem_map.1 hc
  exact Plain.int
theorem us_length {l : List Nat} : (us l).length = l.length := by simp [us]
theorem us_append {l r : List Nat} : us (l ++ r) = us l ++ us r := by simp [us]
theorem us_tops {l : List Nat} : AV.top.tops (us l) = 0 := tops_zero fun c hc => by
  obtain ⟨x, _, rfl⟩ := List.mem_map.1 hc
  rfl
def isU (v : AV) (L : List Nat) : Prop := (v = .nils ∧ L = []) ∨ ∃ ex, v = .lst 1 ex (us L)
theorem isU.len {v : AV} {l : List Nat} (h : isU v l) : lenWp (some v) H K = K (.int .i64 (l.length : Int)) H [] := by
  rcases h with ⟨rfl, rfl⟩ | ⟨ex, rfl⟩
  · rfl
  · rw [lenWp_lst, us_length]
theorem isU.frz {v : AV} {l : List Nat} (h : isU v l) {d : Nat} : frz (d + 1) bar H v = some (v, H) := by
  rcases h with ⟨rfl, rfl⟩ | ⟨ex, rfl⟩ <;> rfl
theorem isU.top {v : AV} {l : List Nat} (h : isU v l) : v.top = 0 := by
  rcases h with ⟨rfl, rfl⟩ | ⟨ex, rfl⟩
  · rfl
  · exact us_tops
theorem isU.isTup {v : AV} {l : List Nat} (h : isU v l) : v.isTup = false := by
  rcases h with ⟨rfl, rfl⟩ | ⟨ex, rfl⟩ <;> rfl
theorem isU.cells {v : AV} {l : List Nat} (h : isU v l) : v.cells = [v] := by
  rcases h with ⟨rfl, rfl⟩ | ⟨ex, rfl⟩ <;> rfl
theorem isU.noVec {v : AV} {l : List Nat} (h : isU v l) : v.noVec = true := by
  rcases h with ⟨rfl, rfl⟩ | ⟨ex, rfl⟩ <;> rfl
theorem isU.ix {v : AV} {l : List Nat} (h : isU v l) {k : IntKind} {i : Nat} (hi : i < l.length) : ixaSWp 1 (some v) (some (.int k (i : Int))) H K = K (.fp (.int .u64 ((l[i] : Nat) : Int))) H [] := by
  rcases h with ⟨rfl, rfl⟩ | ⟨ex, rfl⟩
  · simp at hi
  · rw [ixaSWp_lst]
    simp only [Int.toNat_natCast]
    rw [show (us l)[i]? = some (.int .u64 ((l[i] : Nat) : Int)) by simp [us, List.getElem?_eq_getElem hi]]
    simp [valWp_some]
theorem outL_us {l : List Nat} : outL 1 (us l) = if l = [] then .nils else .lst 1 false (us l) := by
  unfold outL
  by_cases h : l = []
  · subst h; rfl
  · rw [if_neg (by simpa [us] using h), if_neg h, Nat.div_one, chunks_one]
theorem isU.out {l : List Nat} : isU (outL 1 (us l)) l := by
  rw [outL_us]
  split
  · rename_i h; exact .inl ⟨rfl, h⟩
  · exact .inr ⟨_, rfl⟩
theorem gus {H : Heap} {base bar bytes : Nat} {S : List Nat} {H0 : Heap} {v : AV} {ex : Bool} {x : Nat} {K : AV → Heap → List Nat → Prop} (g : Grow 1 (us S) H0 v H) (hb : bar ≤ H0.length) (hbase : base ≤ H0.length)
    (hlen : (S.length + 1) * bytes ≤ 140737488355328)
    (h : ∀ v' H' tc, Grow 1 (us (S ++ [x])) H0 v' H' → K v' H' tc) : appWp base bar 1 bytes (some v) (some (.lst 1 ex [.int .u64 (x : Int)])) H K := by
  refine g.app (by omega) (Nat.one_dvd _) (fun c hc => ?_) (Nat.one_dvd _) hb hbase ?_ fun v' H' tc g' => h v' H' tc ?_
  · simp [AV.cells] at hc; subst hc; exact Plain.int
  · simpa [us_length, AV.cells] using hlen
  · simpa [us_append, us, AV.cells] using g'
theorem goutU {H : Heap} {base bar : Nat} {S : List Nat} {H0 : Heap} {v : AV} {K : AV → Heap → Prop} {vs : List AV} (hp : ∀ c ∈ vs, Plain c) (ht : AV.top.tops vs = 0) (g : Grow 1 (us S) H0 v H) (hb : bar ≤ H0.length) (hbase : base ≤ H0.length)
    (h : K (tupled (outL 1 (us S) :: vs)) (H0.take base)) : outWp (leave 0 base bar (v :: vs) H) K := by
  obtain ⟨H', h1, h2, h3, h4⟩ := g.frz (d := 5) (bar := bar) (by omega) (Nat.one_dvd _) us_plain hb
  have e : leave 0 base bar (v :: vs) H = some (tupled (outL 1 (us S) :: vs), H0.take base) := by
    refine (leave0_of (vs' := outL 1 (us S) :: vs) (H' := H') ?_ ?_).trans ?_
    · have h5 : frzsW (frz 8 bar) H' vs = some (vs, H') := frzsW_id fun x hx => hp x hx _ _ _
      simp only [frzAll, frz.frzs, frzsW, h1]
      rw [h5]
    · rw [tops_cons, ht, isU.top isU.out]; simp
    · rw [show H'.take base = (H'.take H0.length).take base by rw [List.take_take, Nat.min_eq_left hbase], h4]
  rw [e]; exact h
/-- freezing, with the slot as it was -/
theorem gfrz {sz : Nat} {cells : List AV} {H0 : Heap} {v : AV} (g : Grow sz cells H0 v H) (hsz : 0 < sz) (hc : sz ∣ cells.length) (hp : ∀ c ∈ cells, Plain c) (hb : bar ≤ H0.length) :
    ∃ H', frz 8 bar H v = some (outL sz cells, H') ∧ Grow sz cells H0 v H' ∧ H'.length = H.length := by
  obtain ⟨H', h1, h2, h3, h4⟩ := g.frz (d := 5) (bar := bar) hsz hc hp hb
  refine ⟨H', h1, ?_, h3⟩
  by_cases he : cells = []
  · rw [if_pos he] at h2
    rcases g with ⟨_, rfl, _⟩ | ⟨_, _, hne, _⟩
    · exact h2
    · exact (hne he).elim
  · rwa [if_neg he] at h2
/-! 93: a list of words has one -/
theorem l110 {v : AV} {l : List Nat} {x : Nat} (hv : isU v l) (hl : l.length < 1000000) {R : PQ} : ∀ (k i : Nat), i + k = l.length →
    ((l.drop i).contains x = false → R (.exit 0) [(0, v), (1, .int .u64 (x : Nat)), (7, .int .i64 (l.length : Nat)), (8, .int .i64 (l.length : Nat)), (9, .bool false)] H) →
    ((l.drop i).contains x = true → ∀ j : Nat, R .ret [(4, .int .i64 (j : Nat))] H) →
    Wp E base bar (.loop c110_l0) [(0, v), (1, .int .u64 (x : Nat)), (7, .int .i64 (l.length : Nat)), (8, .int .i64 (i : Nat))] H R := by
  intro k
  induction k with
  | zero =>
    intro i hi h1 h2
    obtain rfl : i = l.length := by omega
    rw [List.drop_length] at h1
    rw [wp_round c110_l0.eq_1]
    simp [go_sem]
    exact h1 rfl
  | succ k ih =>
    intro i hi h1 h2
    have hlt : i < l.length := by omega
    rw [List.drop_eq_getElem_cons hlt, List.contains_cons] at h1 h2
    have hix := fun (K : AV → Heap → List Nat → Prop) (k : IntKind) => hv.ix (H := H) (K := K) (k := k) hlt
    generalize l[i] = y at *
    rw [wp_round c110_l0.eq_1]
    by_cases hx : x = y
    · subst hx
      have := h2 (by simp) i
      simp [go_sem, hlt, hix]
      exact this
    · have hb : (x == y) = false := by simpa using hx
      rw [hb] at h1 h2
      simp only [Bool.false_or] at h1 h2
      have next := ih (i + 1) (by omega) h1 h2
      simp [go_sem, hlt, hix, hx, natEq, i64_suc (show i < 1000000 by omega)]
      exact next
theorem k110 {v : AV} {l : List Nat} {x : Nat} (hv : isU v l) (hl : l.length < 1000000) (h1 : l.contains x = false → Q (.int .i64 (-1)) H) (h2 : l.contains x = true → ∀ j : Nat, Q (.int .i64 (j : Nat)) H) : WpCall E pure base bar 110 [v, .int .u64 (x : Nat)] H Q := by
  rw [call110]
  simp [go_sem, WpFun, c110, hv.frz, hv.len]
  refine l110 hv hl l.length 0 (by omega) (fun hc => ?_) (fun hc j => ?_)
  · rw [List.drop_zero] at hc
    simp [go_sem]
    exact h1 hc
  · rw [List.drop_zero] at hc
    simp [go_sem]
    exact h2 hc j
theorem k93g {v : AV} {l : List Nat} {x : Nat} {H0 : Heap} (g : Grow 1 (us l) H0 v H) (hb : bar ≤ H0.length) (hl : l.length < 1000000) (h : ∀ H2, Grow 1 (us l) H0 v H2 → H2.length = H.length → Q (.bool (l.contains x)) H2) : WpCall E pure base bar 93 [v, .int .u64 (x : Nat)] H Q := by
  obtain ⟨H2, f1, f2, f3⟩ := gfrz (bar := bar) g (by decide) (Nat.one_dvd _) us_plain hb
  have hu : isU (outL 1 (us l)) l := isU.out
  have h := h H2 f2 f3
  rw [call93]
  simp [go_sem, WpFun, c93, f1]
  generalize outL 1 (us l) = w at *
  refine k110 hu hl (fun hc => ?_) (fun hc j => ?_)
  all_goals
    rw [hc] at h
    simp [go_sem]
    exact h
end Go.Proofs.YtbkhffakhggdaaaDoor.Code
end
section
namespace Go.Proofs.YtbkhffakhggdaaaDoor.Code
open Go Go.Ab
variable {pure : Bool} {base bar : Nat} {H : Heap} {Q : AV → Heap → Prop} {K : AV → Heap → List Nat → Prop}
/-! lists of lists -/
def allV : List AV → List (List Int) → Prop
  | [], [] => True
  | v :: vs, l :: ls => isV v l ∧ allV vs ls
  | _, _ => False
theorem allV.length : ∀ {vs : List AV} {ls : List (List Int)}, allV vs ls → vs.length = ls.length
  | [], [], _ => rfl
  | v :: vs, l :: ls, h => by simp [allV.length h.2]
  | [], _ :: _, h => h.elim
  | _ :: _, [], h => h.elim
theorem allV.get : ∀ {vs : List AV} {ls : List (List Int)}, allV vs ls → ∀ {i : Nat} (hi : i < ls.length), ∃ v, vs[i]? = some v ∧ isV v ls[i]
  | [], [], _, _, hi => by simp at hi
  | v :: vs, l :: ls, h, 0, _ => ⟨v, rfl, h.1⟩
  | v :: vs, l :: ls, h, i + 1, hi => by
    obtain ⟨u, h1, h2⟩ := allV.get h.2 (i := i) (by simpa using hi)
    exact ⟨u, by simpa using h1, h2⟩
  | [], _ :: _, h, _, _ => h.elim
  | _ :: _, [], h, _, _ => h.elim
theorem allV.tops : ∀ {vs : List AV} {ls : List (List Int)}, allV vs ls → AV.top.tops vs = 0
  | [], [], _ => rfl
  | v :: vs, l :: ls, h => by rw [tops_cons, h.1.top, allV.tops h.2]; rfl
  | [], _ :: _, h => h.elim
  | _ :: _, [], h => h.elim
def isVV (q : AV) (ls : List (List Int)) : Prop := (q = .nils ∧ ls = []) ∨ ∃ ex vs, q = .lst 1 ex vs ∧ allV vs ls
theorem isVV.len {v : AV} {l : List (List Int)} (h : isVV v l) : lenWp (some v) H K = K (.int .i64 (l.length : Int)) H [] := by
  rcases h with ⟨rfl, rfl⟩ | ⟨ex, vs, rfl, h⟩
  · rfl
  · rw [lenWp_lst, h.length]
theorem isVV.frz {v : AV} {l : List (List Int)} (h : isVV v l) {d : Nat} : frz (d + 1) bar H v = some (v, H) := by
  rcases h with ⟨rfl, rfl⟩ | ⟨ex, vs, rfl, h⟩ <;> rfl
theorem isVV.isTup {v : AV} {l : List (List Int)} (h : isVV v l) : v.isTup = false := by
  rcases h with ⟨rfl, rfl⟩ | ⟨ex, vs, rfl, h⟩ <;> rfl
theorem isVV.cells {v : AV} {l : List (List Int)} (h : isVV v l) : v.cells = [v] := by
  rcases h with ⟨rfl, rfl⟩ | ⟨ex, vs, rfl, h⟩ <;> rfl
theorem isVV.noVec {v : AV} {l : List (List Int)} (h : isVV v l) : v.noVec = true := by
  rcases h with ⟨rfl, rfl⟩ | ⟨ex, vs, rfl, h⟩ <;> rfl
theorem isVV.top {v : AV} {l : List (List Int)} (h : isVV v l) : v.top = 0 := by
  rcases h with ⟨rfl, rfl⟩ | ⟨ex, vs, rfl, h⟩
  · rfl
  · exact h.tops
theorem isVV.ix {q : AV} {ls : List (List Int)} (h : isVV q ls) {i : Nat} (hi : i < ls.length) : ∃ v, isV v ls[i] ∧ ∀ (H : Heap) (K : AV → Heap → List Nat → Prop) (k : IntKind), ixaSWp 1 (some q) (some (.int k (i : Int))) H K = K (.fp v) H [] := by
  rcases h with ⟨rfl, rfl⟩ | ⟨ex, vs, rfl, h⟩
  · simp at hi
  · obtain ⟨v, h1, h2⟩ := h.get hi
    refine ⟨v, h2, fun H K k => ?_⟩
    rw [ixaSWp_lst]
    simp only [Int.toNat_natCast]
    rw [h1]
    simp [valWp_some]
/-! 68: a shelf is opened -/
def opS (n : Int) : List Nat → List (List Int) → Int × List Nat
  | done, [] => (0, done)
  | done, l :: r => if errT n (-1) l ≠ 0 then (errT n (-1) l, []) else if done.contains (orT 0 l) then (6, []) else opS n (done ++ [orT 0 l]) r
theorem l68 {id ver fz : Nat} {ex : Bool} {n : Nat} {q w : AV} {ls : List (List Int)} {H0 : Heap} (h1 : 1 ≤ n) (hn : n ≤ 6) (hq : isVV q ls) (hl : ls.length < 1000) (hll : ∀ l ∈ ls, l.length < 1000) (hid : H0[id]? = some (.row ver [.int .i64 (n : Int), w] fz ex))
    (hb : bar ≤ H0.length) (hbase : base ≤ H0.length) {R : PQ} : ∀ (k i : Nat) (done : List Nat) (v4 : AV) (H : Heap), i + k = ls.length → done.length ≤ i → Grow 1 (us done) H0 v4 H →
    (∀ e H', (opS n done (ls.drop i)).1 = e → e ≠ 0 → H'.take H0.length = H0 → R .ret [(2, .nils), (3, .int .i64 e)] H') →
    (∀ v' H', (opS n done (ls.drop i)).1 = 0 → Grow 1 (us (opS n done (ls.drop i)).2) H0 v' H' → R (.exit 0) [(1, .ptr id ver 0), (4, v'), (14, q), (15, .int .i64 (ls.length : Nat)), (16, .int .i64 (ls.length : Nat)), (17, .bool false)] H') →
    Wp E base bar (.loop c68_l0) [(1, .ptr id ver 0), (4, v4), (14, q), (15, .int .i64 (ls.length : Nat)), (16, .int .i64 (i : Nat))] H R := by
  have htk : ∀ {cells : List AV} {v : AV} {H : Heap}, Grow 1 cells H0 v H → H.take H0.length = H0 := fun g => by
    rcases g with ⟨_, _, rfl⟩ | ⟨_, _, _, _, _, rfl⟩
    · exact List.take_length
    · simp
  intro k
  induction k with
  | zero =>
    intro i done v4 H hi hd g h1' h2'
    obtain rfl : i = ls.length := by omega
    rw [List.drop_length] at h2'
    rw [wp_round c68_l0.eq_1]
    simp [go_sem]
    exact h2' _ _ rfl g
  | succ k ih =>
    intro i done v4 H hi hd g h1' h2'
    have hlt : i < ls.length := by omega
    rw [List.drop_eq_getElem_cons hlt] at h1' h2'
    obtain ⟨v, hv, hix⟩ := hq.ix hlt
    have hvl := hll _ (List.getElem_mem hlt)
    generalize ls[i] = l at *
    have ld : aload H ⟨false, 1⟩ (.ptr id ver 0) = some (.int .i64 (n : Int)) := by rw [aload_ptr (g.get hid)]; rfl
    simp only [opS] at h1' h2'
    have hs := i64_suc (show i < 1000000 by omega)
    rw [wp_round c68_l0.eq_1]
    simp [go_sem, hlt, hix, hv.fp, ld]
    refine k102 hn hv hvl (fun he => ?_) (fun he => ?_)
    · rw [if_pos he] at h1'
      have := h1' _ _ rfl he (htk g)
      simp [go_sem, he]
      exact this
    · rw [if_neg (by simpa using he)] at h1' h2'
      simp [go_sem]
      refine k93g g hb (by omega) fun H2 g2 hl2 => ?_
      cases hc : done.contains (orT 0 l)
      · rw [hc] at h1' h2'
        simp only [Bool.false_eq_true, if_false] at h1' h2'
        simp [go_sem, aop, fillA, setCells, chunks, AV.noVec.noVecs, AV.noVec]
        rw [wpop_app]
        simp [Opd.ev, go_sem]
        refine gus g2 hb hbase (by omega) fun v' H' tc g' => ?_
        have next := ih (i + 1) (done ++ [orT 0 l]) v' H' (by omega) (by simp; omega) g' h1' h2'
        simp [go_sem, hs]
        exact next
      · rw [hc] at h1'
        have := h1' 6 H2 rfl (by decide) (htk g2)
        simp [go_sem]
        exact this
theorem k68 {n : Nat} {q : AV} {ls : List (List Int)} (h1 : 1 ≤ n) (hn : n ≤ 6) (hq : isVV q ls) (hl : ls.length < 1000) (hll : ∀ l ∈ ls, l.length < 1000) (hbar : bar ≤ H.length)
    (he : (opS n [] ls).1 ≠ 0 → Q (.tup [.nils, .int .i64 (opS n [] ls).1]) H)
    (h0 : (opS n [] ls).1 = 0 → Q (.tup [outL 1 (us (opS n [] ls).2), .int .i64 0]) H) : WpCall E pure base bar 68 [.agg [.int .i64 (n : Int), q]] H Q := by
  have hb : (decide (1 ≤ (n : Int)) && decide ((n : Int) ≤ 6)) = true := by
    rw [Bool.and_eq_true, decide_eq_true_eq, decide_eq_true_eq]; omega
  rw [call68]
  simp [go_sem, WpFun, c68, hq.frz, box0]
  refine k79 ?_
  rw [hb]
  simp [go_sem, box1, hq.len]
  refine l68 (H0 := H ++ [.row 0 [.int .i64 (n : Int), q] 0 true]) h1 hn hq hl hll (own_get0 (l := [.row 0 [.int .i64 (n : Int), q] 0 true]) |>.trans rfl) (by cases pure <;> simp <;> omega) (by simp) ls.length 0 [] .nils _ (by omega) (by simp) (by exact Grow.nil) (fun e H' he1 hne htk => ?_) (fun v' H' he1 g => ?_)
  · rw [List.drop_zero] at he1
    have hh : H'.take H.length = H := by
      have : H'.take H.length = (H'.take (H.length + 1)).take H.length := by rw [List.take_take, Nat.min_eq_left (by omega)]
      rw [this]
      rw [List.length_append, List.length_singleton] at htk
      rw [htk]; simp
    have := he (by rw [he1]; exact hne)
    rw [he1] at this
    simp [go_sem, hh]
    exact this
  · rw [List.drop_zero] at he1 g
    have := h0 he1
    simp [go_sem]
    refine goutU (vs := [.int .i64 0]) (fun c hc => by simp at hc; subst hc; exact Plain.int) rfl g (by cases pure <;> simp <;> omega) (by simp) ?_
    simp
    exact this
theorem k68o {n : Int} {q : AV} (hn : ¬ (1 ≤ n ∧ n ≤ 6)) (hq : ∀ (d bar : Nat) (H : Heap), frz (d + 1) bar H q = some (q, H)) (hc : q.cells = [q]) (h1 : Q (.tup [.nils, .int .i64 1]) H) : WpCall E pure base bar 68 [.agg [.int .i64 n, q]] H Q := by
  have hb : (decide (1 ≤ n) && decide (n ≤ 6)) = false := by
    rw [← Bool.not_eq_true, Bool.and_eq_true, decide_eq_true_eq, decide_eq_true_eq]; exact hn
  rw [call68]
  simp [go_sem, WpFun, c68, hq, hc, box0]
  refine k79 ?_
  rw [hb]
  simp [go_sem]
  exact h1
end Go.Proofs.YtbkhffakhggdaaaDoor.Code
end
section
namespace Go.Proofs.YtbkhffakhggdaaaDoor.Code
open Go Go.Ab
variable {pure : Bool} {base bar : Nat} {H : Heap} {Q : AV → Heap → Prop} {K : AV → Heap → List Nat → Prop}
end Go.Proofs.YtbkhffakhggdaaaDoor.Code
end
section
namespace Go.Proofs.YtbkhffakhggdaaaDoor.Code
open Go Go.Ab
variable {pure : Bool} {base bar : Nat} {H : Heap} {Q : AV → Heap → Prop} {K : AV → Heap → List Nat → Prop}
theorem opS_lt {n : Nat} (h1 : 1 ≤ n) (hn : n ≤ 6) : ∀ {ls : List (List Int)} {done : List Nat}, (∀ x ∈ done, x < pw n) → (opS n done ls).1 = 0 → (∀ x ∈ (opS n done ls).2, x < pw n)
  | [], done, hd, _ => hd
  | l :: r, done, hd, h => by
    simp only [opS] at h ⊢
    by_cases he : errT n (-1) l = 0
    · rw [if_neg (by simpa using he)] at h ⊢
      cases hc : done.contains (orT 0 l)
      · rw [hc] at h
        simp only [Bool.false_eq_true, if_false] at h ⊢
        exact opS_lt h1 hn (fun x hx => by
          rcases List.mem_append.1 hx with hx | hx
          · exact hd x hx
          · simp at hx; subst hx; exact (dyL_of h1 hn he).1) h
      · rw [hc] at h; simp at h
    · rw [if_pos he] at h; exact (he h).elim
end Go.Proofs.YtbkhffakhggdaaaDoor.Code
end
section
namespace Go.Proofs.YtbkhffakhggdaaaDoor.Code
open Go Go.Ab
variable {pure : Bool} {base bar : Nat} {H : Heap} {Q : AV → Heap → Prop} {K : AV → Heap → List Nat → Prop}
/-! 52: a drawer's sets -/
def isB (v : AV) (l : List Nat) : Prop := ((v = .nils ∧ l = []) ∨ ∃ ex, v = .lst 1 ex (l.map fun (x : Nat) => .int .u8 (x : Int))) ∧ ∀ x ∈ l, x < 256
theorem isB.len {v : AV} {l : List Nat} (h : isB v l) : lenWp (some v) H K = K (.int .i64 (l.length : Int)) H [] := by
  rcases h.1 with ⟨rfl, rfl⟩ | ⟨ex, rfl⟩
  · rfl
  · rw [lenWp_lst]; simp
theorem isB.frz {v : AV} {l : List Nat} (h : isB v l) {d : Nat} : frz (d + 1) bar H v = some (v, H) := by
  rcases h.1 with ⟨rfl, rfl⟩ | ⟨ex, rfl⟩ <;> rfl
theorem isB.cells {v : AV} {l : List Nat} (h : isB v l) : v.cells = [v] := by
  rcases h.1 with ⟨rfl, rfl⟩ | ⟨ex, rfl⟩ <;> rfl
theorem isB.ix {v : AV} {l : List Nat} (h : isB v l) {k : IntKind} {i : Nat} (hi : i < l.length) : ixaSWp 1 (some v) (some (.int k (i : Int))) H K = K (.fp (.int .u8 ((l[i] : Nat) : Int))) H [] := by
  rcases h.1 with ⟨rfl, rfl⟩ | ⟨ex, rfl⟩
  · simp at hi
  · rw [ixaSWp_lst]
    simp only [Int.toNat_natCast]
    rw [show (l.map fun (x : Nat) => AV.int .u8 (x : Int))[i]? = some (.int .u8 ((l[i] : Nat) : Int)) by simp [List.getElem?_eq_getElem hi]]
    simp [valWp_some]
end Go.Proofs.YtbkhffakhggdaaaDoor.Code
end
section
namespace Go.Proofs.YtbkhffakhggdaaaDoor.Code
open Go Go.Ab
variable {pure : Bool} {base bar : Nat} {H : Heap} {Q : AV → Heap → Prop} {K : AV → Heap → List Nat → Prop}
end Go.Proofs.YtbkhffakhggdaaaDoor.Code
end
section
namespace Go.Proofs.YtbkhffakhggdaaaDoor.Code
open Go Go.Ab
variable {pure : Bool} {base bar : Nat} {H : Heap} {Q : AV → Heap → Prop} {K : AV → Heap → List Nat → Prop}
end Go.Proofs.YtbkhffakhggdaaaDoor.Code
end
end
section
set_option linter.all false
section
namespace Go.Proofs.YtbkhffakhggdaaaDoor.Code
open Go Go.Ab
variable {pure : Bool} {base bar : Nat} {H : Heap} {Q : AV → Heap → Prop} {K : AV → Heap → List Nat → Prop}
end Go.Proofs.YtbkhffakhggdaaaDoor.Code
end
section
namespace Go.Proofs.YtbkhffakhggdaaaDoor.Code
open Go Go.Ab
variable {pure : Bool} {base bar : Nat} {H : Heap} {Q : AV → Heap → Prop} {K : AV → Heap → List Nat → Prop}
end Go.Proofs.YtbkhffakhggdaaaDoor.Code
end
section
namespace Go.Proofs.YtbkhffakhggdaaaDoor.Code
open Go Go.Ab Go.RowKit Go.ChangeShapes Go.WideShapes
variable {H : Type} {enc : TypeId × Value → H} {P : Program} {W : World} {spare : Nat → Bool} {held : Bool}
end Go.Proofs.YtbkhffakhggdaaaDoor.Code
end
end
section
set_option linter.all false
section
namespace Go.Proofs.YtbkhffakhggdaaaDoor.Code
open Go Go.Ab
variable {pure : Bool} {base bar : Nat} {H : Heap} {Q : AV → Heap → Prop} {K : AV → Heap → List Nat → Prop}
/-! 116, 106, 77: the dyes of a set, by the lowest bit -/
def dyN (s : Nat) : List Nat := (List.range 6).filter fun i => s.testBit i
def tzS (s : Nat) : Nat := (dyN s).headD 0
def t64l : List AV := [(.int .u8 0), (.int .u8 1), (.int .u8 56), (.int .u8 2), (.int .u8 57), (.int .u8 49), (.int .u8 28), (.int .u8 3), (.int .u8 61), (.int .u8 58), (.int .u8 42), (.int .u8 50), (.int .u8 38), (.int .u8 29), (.int .u8 17), (.int .u8 4), (.int .u8 62), (.int .u8 47), (.int .u8 59), (.int .u8 36), (.int .u8 45), (.int .u8 43), (.int .u8 51), (.int .u8 22), (.int .u8 53), (.int .u8 39), (.int .u8 33), (.int .u8 30), (.int .u8 24), (.int .u8 18), (.int .u8 12), (.int .u8 5), (.int .u8 63), (.int .u8 55), (.int .u8 48), (.int .u8 27), (.int .u8 60), (.int .u8 41), (.int .u8 37), (.int .u8 16), (.int .u8 46), (.int .u8 35), (.int .u8 44), (.int .u8 21), (.int .u8 52), (.int .u8 32), (.int .u8 23), (.int .u8 11), (.int .u8 54), (.int .u8 26), (.int .u8 40), (.int .u8 15), (.int .u8 34), (.int .u8 20), (.int .u8 31), (.int .u8 10), (.int .u8 25), (.int .u8 14), (.int .u8 19), (.int .u8 9), (.int .u8 13), (.int .u8 8), (.int .u8 7), (.int .u8 6)]
def t64 : AV := .agg t64l
def q116 (s : Nat) : Option AV := (aun .neg (.int .u64 (s : Int))).bind fun a => (abin .and (.int .u64 (s : Int)) a).bind fun b => (abin .mul b (.int .u64 285870213051353865)).bind fun c => abin .shr c (.int .u64 58)
def w116 (z : Nat) : Nat := (2 ^ z * 285870213051353865 % 18446744073709551616) / 288230376151711744
def kk116 (s : Nat) : Bool := okJ .u64 (q116 s) (w116 (tzS s)) && Nat.blt (tzS s) 6 && Nat.blt (w116 (tzS s)) 64
theorem kk116_all : (List.range' 1 63).all kk116 = true := by kernel_rfl
theorem t64_get {z : Nat} (hz : z < 6) : t64l[w116 z]? = some (.int .u8 (z : Int)) := by
  have : z = 0 ∨ z = 1 ∨ z = 2 ∨ z = 3 ∨ z = 4 ∨ z = 5 := by omega
  rcases this with rfl | rfl | rfl | rfl | rfl | rfl <;> rfl
theorem c116_eq : c116 = (AFun.mk 14 [(.tmp 2)] 0 false (.seq (.reg [o 2 (.mv (.c (.int .i64 0)))] [0]) (.seq (.seq (.reg [o 3 (.mv (.t 0)), o 4 (.eq false .int (.t 3) (.c (.int .u64 0)))] [0, 4]) (.cond (.t 4) (.seq (.reg [o 2 (.mv (.c (.int .i64 64)))] [2]) .ret) .skip)) (.seq (.reg [o 5 (.mv (.t 0)), o 6 (.mv (.t 0)), o 7 (.un .neg (.t 6)), o 8 (.bin .and (.t 5) (.t 7)), o 9 (.bin .mul (.t 8) (.c (.int .u64 285870213051353865))), o 10 (.bin .shr (.t 9) (.c (.int .u64 58))), o 11 (.ixaA 64 (TI.mk false 1) (.c (.fp t64)) (.t 10)), o 12 (.load (TI.mk false 1) (.t 11)), o 13 (.conv .i64 (.t 12)), o 2 (.mv (.t 13))] [2]) .ret)))) := rfl
theorem ixa_t64 {k : IntKind} {i : Int} : ixaAWp 64 ⟨false, 1⟩ (some (.fp t64)) (some (.int k i)) H K = (0 ≤ i ∧ i.toNat < 64 ∧ valWp ((t64l[i.toNat * 1]?).map .fp) H K) := (rfl)
theorem ixa_get {k : IntKind} {w : Nat} {v : AV} (hw : w < 64) (hz : t64l[w]? = some v) : ixaAWp 64 ⟨false, 1⟩ (some (.fp t64)) (some (.int k (w : Int))) H K = K (.fp v) H [] := by
  rw [ixa_t64]
  have e : (t64l[(w : Int).toNat * 1]?).map AV.fp = some (.fp v) := by
    rw [Int.toNat_natCast, Nat.mul_one, hz]; rfl
  rw [e, valWp_some]
  have h1 : (0 : Int) ≤ (w : Int) := Int.natCast_nonneg _
  have h2 : (w : Int).toNat < 64 := by rw [Int.toNat_natCast]; exact hw
  exact propext ⟨fun h => h.2.2, fun h => ⟨h1, h2, h⟩⟩
theorem k116 {s : Nat} (h1 : 1 ≤ s) (h6 : s < 64) (h : Q (.int .i64 (tzS s : Nat)) H) : WpCall E pure base bar 116 [.int .u64 (s : Int)] H Q := by
  have hk : kk116 s = true := List.all_eq_true.1 kk116_all s (List.mem_range'_1.2 ⟨h1, by omega⟩)
  simp only [kk116, Bool.and_eq_true, Nat.blt_eq] at hk
  obtain ⟨⟨hq, htz⟩, hw64⟩ := hk
  have hq := okJ_u hq
  have hz := t64_get htz
  generalize w116 (tzS s) = w at *
  generalize tzS s = z at *
  simp only [q116, Option.bind_eq_some_iff] at hq
  obtain ⟨a, e1, b, e2, c, e3, e4⟩ := hq
  have hs0 : ¬ (s = 0) := by omega
  have ea : a = .int .u64 (IntKind.u64.wrap (-(s : Int))) := by
    rw [aun_neg] at e1
    simp at e1
    exact e1.symm
  subst ea
  rw [call116, c116_eq]
  simp [go_sem, WpFun, hs0, e2, e3, e4]
  rw [ixa_get hw64 hz]
  have ld : aload H ⟨false, 1⟩ (.fp (.int .u8 (z : Int))) = some (.int .u8 (z : Int)) := rfl
  simp [go_sem, ld]
  rw [i64_nat (by omega)]
  exact h
theorem k106 {s : Nat} (h1 : 1 ≤ s) (h6 : s < 64) (h : Q (.int .i64 (tzS s : Nat)) H) : WpCall E pure base bar 106 [.int .u64 (s : Int)] H Q := by
  rw [call106]
  simp [go_sem, WpFun, c106]
  refine k116 h1 h6 ?_
  simp [go_sem]
  exact h
end Go.Proofs.YtbkhffakhggdaaaDoor.Code
end
section
namespace Go.Proofs.YtbkhffakhggdaaaDoor.Code
open Go Go.Ab
variable {pure : Bool} {base bar : Nat} {H : Heap} {Q : AV → Heap → Prop} {K : AV → Heap → List Nat → Prop}
theorem dyN_step {s : Nat} (h1 : 1 ≤ s) (h6 : s < 64) : dyN s = tzS s :: dyN (Nat.land s (s - 1)) ∧ Nat.land s (s - 1) < s ∧ tzS s < 6 := by
  have : ∀ s, s < 64 → 1 ≤ s → dyN s = tzS s :: dyN (Nat.land s (s - 1)) ∧ Nat.land s (s - 1) < s ∧ tzS s < 6 := by decide +kernel
  exact this s h6 h1
theorem andl_a : ((List.range 64).all fun x => (List.range 64).all fun z => okJ .u64 (abin .and (.int .u64 (x : Int)) (.int .u64 (z : Int))) (Nat.land x z)) = true := by kernel_rfl
theorem andl_u {x z : Nat} (hx : x < 64) (hz : z < 64) : abin .and (.int .u64 (x : Int)) (.int .u64 (z : Int)) = some (.int .u64 ((Nat.land x z : Nat) : Int)) :=
  okJ_u (List.all_eq_true.1 (List.all_eq_true.1 andl_a x (List.mem_range.2 hx)) z (List.mem_range.2 hz))
theorem dyN_len {s : Nat} : (dyN s).length ≤ 6 := Nat.le_trans (List.length_filter_le _ _) (by simp)
theorem l77 {H0 : Heap} (hb : bar ≤ H0.length) (hbase : base ≤ H0.length) {R : PQ} : ∀ (f s : Nat) (acc : List Nat) (v : AV) (H : Heap), s < 64 → s ≤ f → acc.length + (dyN s).length ≤ 6 → Grow 1 (nats acc) H0 v H →
    (∀ v' H', Grow 1 (nats (acc ++ dyN s)) H0 v' H' → R (.exit 0) [(0, .int .u64 0), (3, v'), (5, .bool false)] H') →
    Wp E base bar (.loop c77_l0) [(0, .int .u64 (s : Int)), (3, v)] H R := by
  intro f
  induction f with
  | zero =>
    intro s acc v H hs hf hl g h
    obtain rfl : s = 0 := by omega
    rw [wp_round c77_l0.eq_1]
    simp [go_sem]
    exact h _ _ (by rw [show dyN 0 = [] from by decide, List.append_nil]; exact g)
  | succ f ih =>
    intro s acc v H hs hf hl g h
    by_cases h0 : s = 0
    · subst h0
      rw [wp_round c77_l0.eq_1]
      simp [go_sem]
      exact h _ _ (by rw [show dyN 0 = [] from by decide, List.append_nil]; exact g)
    · obtain ⟨e, hlt, htz⟩ := dyN_step (s := s) (by omega) hs
      have hw : IntKind.u64.wrap ((s : Int) - 1) = ((s - 1 : Nat) : Int) := by rw [show (s : Int) - 1 = ((s - 1 : Nat) : Int) by omega, u64n (by omega)]
      have ha := andl_u (x := s) (z := s - 1) hs (by omega)
      rw [e] at h hl
      rw [wp_round c77_l0.eq_1]
      simp [go_sem, h0]
      refine k106 (by omega) hs ?_
      simp [go_sem, aop, fillA, setCells, chunks, AV.noVec.noVecs, AV.noVec]
      rw [wpop_app]
      simp [Opd.ev, go_sem]
      refine g.nat hb hbase (by simp at hl; omega) fun v' H' tc g' => ?_
      have next := ih (Nat.land s (s - 1)) (acc ++ [tzS s]) v' H' (by omega) (by omega) (by simp at hl ⊢; omega) g' (by rw [List.append_assoc]; exact h)
      simp [go_sem, hw, ha]
      exact next
/-- the dyes of a set, as a list that is handed out -/
theorem k77 {s : Nat} (hs : s < 64) (hbar : bar ≤ H.length) (hbase : base ≤ H.length) (h : ∀ v H', Grow 1 (nats (dyN s)) H v H' → Q v H') : WpCall E false base bar 77 [.int .u64 (s : Int)] H Q := by
  rw [call77]
  simp [go_sem, WpFun, c77]
  refine l77 (H0 := H) hbar hbase s s [] .nils H hs (Nat.le_refl _) (by have := dyN_len (s := s); simpa using this) (by exact Grow.nil) fun v' H' g => ?_
  simp [go_sem]
  exact h v' H' (by simpa using g)
end Go.Proofs.YtbkhffakhggdaaaDoor.Code
end
section
namespace Go.Proofs.YtbkhffakhggdaaaDoor.Code
open Go Go.Ab
variable {pure : Bool} {base bar : Nat} {H : Heap} {Q : AV → Heap → Prop} {K : AV → Heap → List Nat → Prop}
end Go.Proofs.YtbkhffakhggdaaaDoor.Code
end
section
namespace Go.Proofs.YtbkhffakhggdaaaDoor.Code
open Go Go.Ab
variable {pure : Bool} {base bar : Nat} {H : Heap} {Q : AV → Heap → Prop} {K : AV → Heap → List Nat → Prop}
end Go.Proofs.YtbkhffakhggdaaaDoor.Code
end
section
namespace Go.Proofs.YtbkhffakhggdaaaDoor.Code
open Go Go.Ab
end Go.Proofs.YtbkhffakhggdaaaDoor.Code
end
section
namespace Go.Proofs.YtbkhffakhggdaaaDoor.Code
open Go Go.Ab
variable {pure : Bool} {base bar : Nat} {H : Heap} {Q : AV → Heap → Prop} {K : AV → Heap → List Nat → Prop}
end Go.Proofs.YtbkhffakhggdaaaDoor.Code
end
section
namespace Go.Proofs.YtbkhffakhggdaaaDoor.Code
open Go Go.Ab
variable {pure : Bool} {base bar : Nat} {H : Heap} {Q : AV → Heap → Prop} {K : AV → Heap → List Nat → Prop}
end Go.Proofs.YtbkhffakhggdaaaDoor.Code
end
section
namespace Go.Proofs.YtbkhffakhggdaaaDoor.Code
open Go Go.Ab
end Go.Proofs.YtbkhffakhggdaaaDoor.Code
end
section
namespace Go.Proofs.YtbkhffakhggdaaaDoor.Code
open Go Go.Ab
variable {pure : Bool} {base bar : Nat} {H : Heap} {Q : AV → Heap → Prop} {K : AV → Heap → List Nat → Prop}
end Go.Proofs.YtbkhffakhggdaaaDoor.Code
end
section
namespace Go.Proofs.YtbkhffakhggdaaaDoor.Code
open Go Go.Ab
variable {pure : Bool} {base bar : Nat} {H : Heap} {Q : AV → Heap → Prop} {K : AV → Heap → List Nat → Prop}
end Go.Proofs.YtbkhffakhggdaaaDoor.Code
end
section
namespace Go.Proofs.YtbkhffakhggdaaaDoor.Code
open Go Go.Ab
variable {pure : Bool} {base bar : Nat} {H : Heap} {Q : AV → Heap → Prop} {K : AV → Heap → List Nat → Prop}
end Go.Proofs.YtbkhffakhggdaaaDoor.Code
end
end
section
namespace Go.Proofs.YtbkhffakhggdaaaDoor.Code
open Go Go.Ab
variable {pure : Bool} {base bar : Nat} {H : Heap} {Q : AV → Heap → Prop} {K : AV → Heap → List Nat → Prop}
/-! 70: the sets with one dye more or less -/
def xr (x j : Nat) : Nat := Nat.xor x (2 ^ j)
def nr1 (up : Bool) (x : Nat) (acc : List Nat) (j : Nat) : List Nat := if (decide (x < xr x j) == up) && !acc.contains (xr x j) then acc ++ [xr x j] else acc
theorem xr_lt {n x j : Nat} (hn : n ≤ 6) (hx : x < pw n) (hj : j < n) : xr x j < pw n := Nat.xor_lt_two_pow hx (Nat.pow_lt_pow_right (by decide) hj)
def kxr (x j : Nat) : Bool := match abin .xor (.int .u64 (x : Nat)) (.int .u64 ((pw j : Nat) : Int)) with
  | some (.int .u64 v) => v == (xr x j : Nat)
  | _ => false
def ksh (j : Nat) : Bool := match abin .shl (.int .u64 1) (.int .i64 (j : Nat)) with
  | some (.int .u64 v) => v == (pw j : Nat)
  | _ => false
theorem kxr_a : ((List.range 64).all fun x => (List.range 6).all fun j => kxr x j) = true := by kernel_rfl
theorem ksh_a : ((List.range 6).all ksh) = true := by kernel_rfl
theorem xor_u64 {x j : Nat} (hx : x < 64) (hj : j < 6) : abin .xor (.int .u64 (x : Nat)) (.int .u64 ((pw j : Nat) : Int)) = some (.int .u64 (xr x j : Nat)) := by
  have h := List.all_eq_true.1 (List.all_eq_true.1 kxr_a x (List.mem_range.2 hx)) j (List.mem_range.2 hj)
  unfold kxr at h
  split at h
  · rename_i e; rw [e, eq_of_beq h]
  · cases h
theorem shl_u6 {j : Nat} (hj : j < 6) : abin .shl (.int .u64 1) (.int .i64 (j : Nat)) = some (.int .u64 ((pw j : Nat) : Int)) := by
  have h := List.all_eq_true.1 ksh_a j (List.mem_range.2 hj)
  unfold ksh at h
  split at h
  · rename_i e; rw [e, eq_of_beq h]
  · cases h
theorem l70_0 {n x i L : Nat} {up : Bool} {q : AV} (hn : n ≤ 6) (hx : x < 64) {H0 : Heap} (hb : bar ≤ H0.length) (hbase : base ≤ H0.length) {R : PQ} : ∀ (c j : Nat) (acc : List Nat) (v : AV) (H : Heap), j + c = n → acc.length ≤ 1000 + j → Grow 1 (us acc) H0 v H →
    (∀ v' H', Grow 1 (us ((List.range' j c).foldl (nr1 up x) acc)) H0 v' H' → R (.exit 2) [(0, .int .i64 (n : Int)), (2, .bool up), (7, v'), (12, q), (13, .int .i64 (L : Int)), (14, .int .i64 (i : Int)), (9, .int .u64 (x : Int)), (18, .int .i64 (n : Int)), (19, .int .i64 (n : Int)), (20, .bool false)] H') →
    Wp E base bar (.loop c70_l0) [(0, .int .i64 (n : Int)), (2, .bool up), (7, v), (12, q), (13, .int .i64 (L : Int)), (14, .int .i64 (i : Int)), (9, .int .u64 (x : Int)), (18, .int .i64 (n : Int)), (19, .int .i64 (j : Int))] H R := by
  intro c
  induction c with
  | zero =>
    intro j acc v H hj ha g h
    obtain rfl : j = n := by omega
    rw [wp_round c70_l0.eq_1]
    simp [go_sem]
    exact h _ _ g
  | succ c ih =>
    intro j acc v H hj ha g h
    rw [List.range'_succ, List.foldl_cons] at h
    have hlt : j < n := by omega
    have hs := shl_u6 (j := j) (by omega)
    have hxo := xor_u64 hx (j := j) (by omega)
    have hw : IntKind.i64.wrap ((j : Int) + 1) = ((j + 1 : Nat) : Int) := i64_suc (by omega)
    have next := fun acc' v' H' => ih (j + 1) acc' v' H' (by omega)
    rw [wp_round c70_l0.eq_1]
    simp [go_sem, hlt, hs, hxo]
    cases hup : (decide (x < xr x j) == up)
    · have hne : ¬ decide (x < xr x j) = up := fun e => by rw [e] at hup; simp at hup
      have e1 : nr1 up x acc j = acc := by unfold nr1; rw [hup]; rfl
      rw [e1] at h
      rw [if_neg hne, hw]
      exact next acc v H (by omega) g h
    · have he : decide (x < xr x j) = up := eq_of_beq hup
      rw [if_pos he]
      refine k93g g hb (by omega) fun H2 g2 hl2 => ?_
      cases hc : acc.contains (xr x j)
      · have e1 : nr1 up x acc j = acc ++ [xr x j] := by unfold nr1; rw [hup, hc]; rfl
        rw [e1] at h
        simp [go_sem, aop, fillA, chunks, setCells, AV.noVec.noVecs, AV.noVec]
        rw [wpop_app]
        simp [Opd.ev, go_sem]
        refine gus g2 hb hbase (by omega) fun v3 H3 tc g3 => ?_
        simp [go_sem, hw]
        exact next _ v3 H3 (by simp; omega) g3 h
      · have e1 : nr1 up x acc j = acc := by unfold nr1; rw [hup, hc]; rfl
        rw [e1] at h
        simp [go_sem, hw]
        exact next acc v H2 (by omega) g2 h
theorem nr_len {up : Bool} {x : Nat} : ∀ {js acc : List Nat}, (js.foldl (nr1 up x) acc).length ≤ acc.length + js.length
  | [], acc => by simp
  | j :: js, acc => by
    have h := nr_len (up := up) (x := x) (js := js) (acc := nr1 up x acc j)
    have h2 : (nr1 up x acc j).length ≤ acc.length + 1 := by unfold nr1; split <;> simp
    rw [List.foldl_cons, List.length_cons]; omega
/-- all sets of a list with one dye more or less, each once -/
def nearB (n : Nat) (up : Bool) (acc l : List Nat) : List Nat := l.foldl (fun acc x => (List.range' 0 n).foldl (nr1 up x) acc) acc
theorem l70_1 {n : Nat} {up : Bool} {q : AV} {l : List Nat} (hn : n ≤ 6) (hq : isU q l) (hl : ∀ x ∈ l, x < 64) (hlen : l.length ≤ 64) {H0 : Heap} (hb : bar ≤ H0.length) (hbase : base ≤ H0.length) {R : PQ} : ∀ (c i : Nat) (acc : List Nat) (v : AV) (H : Heap), i + c = l.length → acc.length ≤ 6 * i → Grow 1 (us acc) H0 v H →
    (∀ v' H', Grow 1 (us (nearB n up acc (l.drop i))) H0 v' H' → R (.exit 0) [(0, .int .i64 (n : Int)), (2, .bool up), (7, v'), (12, q), (13, .int .i64 (l.length : Nat)), (14, .int .i64 (l.length : Nat)), (15, .bool false)] H') →
    Wp E base bar (.loop c70_l1) [(0, .int .i64 (n : Int)), (2, .bool up), (7, v), (12, q), (13, .int .i64 (l.length : Nat)), (14, .int .i64 (i : Nat))] H R := by
  intro c
  induction c with
  | zero =>
    intro i acc v H hi ha g h
    obtain rfl : i = l.length := by omega
    rw [List.drop_length] at h
    rw [wp_round c70_l1.eq_1]
    simp [go_sem]
    exact h _ _ g
  | succ c ih =>
    intro i acc v H hi ha g h
    have hlt : i < l.length := by omega
    rw [List.drop_eq_getElem_cons hlt] at h
    have hx := hl _ (List.getElem_mem hlt)
    have hix := fun (K : AV → Heap → List Nat → Prop) (k : IntKind) => hq.ix (H := H) (K := K) (k := k) hlt
    generalize l[i] = x at *
    have hw : IntKind.i64.wrap ((i : Int) + 1) = ((i + 1 : Nat) : Int) := i64_suc (by omega)
    rw [wp_round c70_l1.eq_1]
    simp [go_sem, hlt, hix]
    refine l70_0 (i := i) (L := l.length) hn hx hb hbase n 0 acc v H (by omega) (by omega) g fun v2 H2 g2 => ?_
    have hl2 := nr_len (up := up) (x := x) (js := List.range' 0 n) (acc := acc)
    rw [List.length_range'] at hl2
    simp [go_sem, hw]
    exact ih (i + 1) _ v2 H2 (by omega) (by omega) g2 h
theorem k70 {n : Nat} {up : Bool} {q : AV} {l : List Nat} (hn : n ≤ 6) (hq : isU q l) (hl : ∀ x ∈ l, x < 64) (hlen : l.length ≤ 64) (hbar : bar ≤ H.length) (h : Q (outL 1 (us (nearB n up [] l))) H) :
    WpCall E pure base bar 70 [.int .i64 (n : Int), q, .bool up] H Q := by
  have hbp : (if pure = true then H.length else bar) ≤ H.length := by cases pure <;> simp <;> omega
  rw [call70]
  simp [go_sem, WpFun, c70, hq.frz, hq.len]
  generalize (if pure = true then H.length else bar) = bar' at *
  refine l70_1 (up := up) hn hq hl hlen hbp (Nat.le_refl _) l.length 0 [] .nils H (by omega) (by simp) (by exact Grow.nil) fun v' H' g => ?_
  rw [List.drop_zero] at g
  simp [go_sem]
  refine goutU (vs := []) (fun c hc => by simp at hc) rfl g hbp (Nat.le_refl _) ?_
  rw [List.take_length]
  exact h
end Go.Proofs.YtbkhffakhggdaaaDoor.Code
end
section
set_option linter.all false
namespace Go.Ab
/-- the same slots in another order, each once -/
def FR (a b : Frame) : Prop := a.Perm b ∧ (a.map (·.1)).Nodup
theorem FR.symm {a b : Frame} (h : FR a b) : FR b a := ⟨h.1.symm, (h.1.map _).nodup_iff.1 h.2⟩
theorem fget_mem : ∀ {a : Frame} {t : Nat} {v : AV}, (a.map (·.1)).Nodup → (fget t a = some v ↔ (t, v) ∈ a)
  | [], t, v, _ => by simp [fget]
  | (u, x) :: r, t, v, h => by
    simp only [List.map_cons, List.nodup_cons] at h
    simp only [fget]
    split
    · rename_i e; subst e
      constructor
      · intro e; cases e; exact List.mem_cons_self
      · intro e
        rcases List.mem_cons.1 e with e | e
        · cases e; rfl
        · exact (h.1 (List.mem_map.2 ⟨_, e, rfl⟩)).elim
    · rename_i e
      rw [fget_mem h.2]
      constructor
      · exact fun m => List.mem_cons_of_mem _ m
      · intro m
        rcases List.mem_cons.1 m with m | m
        · cases m; exact (e rfl).elim
        · exact m
theorem FR.get {a b : Frame} (h : FR a b) (t : Nat) : fget t a = fget t b := by
  apply Option.ext
  intro v
  rw [fget_mem h.2, fget_mem h.symm.2]
  exact h.1.mem_iff
theorem fkeep_filter (ts : List Nat) : ∀ a : Frame, fkeep ts a = a.filter fun p => ts.contains p.1
  | [] => rfl
  | (u, x) :: r => by
    simp only [fkeep, List.filter_cons]
    split <;> simp [fkeep_filter ts r]
theorem FR.keep {a b : Frame} (h : FR a b) (ts : List Nat) : FR (fkeep ts a) (fkeep ts b) := by
  rw [fkeep_filter, fkeep_filter]
  exact ⟨h.1.filter _, (List.filter_sublist.map _).nodup h.2⟩
theorem fset_keys (t : Nat) (v : AV) : ∀ a : Frame, (fset t v a).map (·.1) = if t ∈ a.map (·.1) then a.map (·.1) else a.map (·.1) ++ [t]
  | [] => rfl
  | (u, x) :: r => by
    simp only [fset]
    split
    · rename_i e; subst e; simp
    · rename_i e
      simp only [List.map_cons, fset_keys t v r, List.mem_cons, e, false_or]
      split <;> rfl
theorem fset_nodup {t : Nat} {v : AV} {a : Frame} (h : (a.map (·.1)).Nodup) : ((fset t v a).map (·.1)).Nodup := by
  rw [fset_keys]
  split
  · exact h
  · rename_i hn
    rw [List.nodup_append]
    exact ⟨h, by simp, fun x hx y hy => by simp at hy; subst hy; intro e; subst e; exact hn hx⟩
theorem fset_fget {t u : Nat} {v : AV} : ∀ {a : Frame}, fget u (fset t v a) = if u = t then some v else fget u a
  | [] => by simp [fset, fget]
  | (w, x) :: r => by
    simp only [fset]
    split
    · rename_i e; subst e
      simp only [fget]
      split <;> rfl
    · rename_i e
      simp only [fget, fset_fget (a := r)]
      by_cases hu : u = w
      · subst hu
        rw [if_pos rfl, if_pos rfl, if_neg (fun c => e c.symm)]
      · rw [if_neg hu, if_neg hu]
theorem nodup_of_keys {a : Frame} (h : (a.map (·.1)).Nodup) : a.Nodup := by
  have := List.pairwise_map.1 h
  exact this.imp fun hne e => hne (by rw [e])
/-- frames with the same slots -/
theorem FR.of_get {a b : Frame} (ha : (a.map (·.1)).Nodup) (hb : (b.map (·.1)).Nodup) (h : ∀ t, fget t a = fget t b) : FR a b := by
  refine ⟨?_, ha⟩
  have na : a.Nodup := nodup_of_keys ha
  have nb : b.Nodup := nodup_of_keys hb
  refine (List.perm_ext_iff_of_nodup na nb).2 fun p => ?_
  obtain ⟨t, v⟩ := p
  rw [← fget_mem ha, ← fget_mem hb, h]
theorem FR.set {a b : Frame} (h : FR a b) (t : Nat) (v : AV) : FR (fset t v a) (fset t v b) :=
  .of_get (fset_nodup h.2) (fset_nodup h.symm.2) fun u => by rw [fset_fget, fset_fget, h.get]
theorem FR.put {a b : Frame} (h : FR a b) (d : Option Nat) (v : AV) : FR (fput d v a) (fput d v b) := by
  cases d with
  | none => exact h
  | some t => exact h.set t v
theorem FR.top {a b : Frame} (h : FR a b) : ftop a = ftop b := by
  have : ∀ {a b : Frame}, a.Perm b → ftop a = ftop b := by
    intro a b h
    induction h with
    | nil => rfl
    | cons x _ ih => obtain ⟨_, _⟩ := x; simp only [ftop, ih]
    | swap x y l => obtain ⟨_, _⟩ := x; obtain ⟨_, _⟩ := y; simp only [ftop]; omega
    | trans _ _ h1 h2 => exact h1.trans h2
  exact this h.1
theorem FR.ev {a b : Frame} (h : FR a b) (x : Opd) : x.ev a = x.ev b := by cases x <;> simp [Opd.ev, h.get]
theorem FR.evs {a b : Frame} (h : FR a b) : ∀ l : List Opd, Go.Ab.evs a l = Go.Ab.evs b l
  | [] => rfl
  | x :: r => by simp only [Go.Ab.evs, h.ev, h.evs r]
theorem FR.want {a b : Frame} (h : FR a b) (g : Option (Nat × Bool)) : wantA g a = wantA g b := by
  cases g with
  | none => rfl
  | some p => obtain ⟨t, b⟩ := p; simp only [wantA, h.get]
theorem FR.aop {a b : Frame} (h : FR a b) (base bar : Nat) (op : AOp) (H : Heap) : Go.Ab.aop base bar op a H = Go.Ab.aop base bar op b H := by
  have he := h.ev
  have hs := h.evs
  have ho : ∀ x, Opd.evo a x = Opd.evo b x := fun x => by cases x <;> simp only [Opd.evo, he]
  cases op <;> simp only [Go.Ab.aop, he, hs, ho]
theorem FR.aopC {a b : Frame} (h : FR a b) (env : Env) (ex : Ex) (pure : Bool) (base bar : Nat) (op : AOp) (H : Heap) : Go.Ab.aopC env ex pure base bar op a H = Go.Ab.aopC env ex pure base bar op b H := by
  cases op <;> simp only [Go.Ab.aopC, h.ev, h.evs, h.aop]
theorem FR.read {a b : Frame} (h : FR a b) (op : AOp) : readOf op a = readOf op b := by
  cases op <;> simp only [readOf, h.ev, h.evs]
theorem FR.ops {env : Env} {ex : Ex} {base bar : Nat} : ∀ {ops : List AOper} {a b : Frame} {H : Heap} {s : St}, FR a b → runOps env ex base bar ops ⟨a, H⟩ = some s → ∃ b', runOps env ex base bar ops ⟨b, H⟩ = some ⟨b', s.H⟩ ∧ FR s.fr b'
  | [], a, b, H, s, h, hr => by
    simp only [runOps, Option.some.injEq] at hr; subst hr
    exact ⟨b, rfl, h⟩
  | o :: r, a, b, H, s, h, hr => by
    unfold runOps at hr ⊢
    simp only [← h.want, ← h.aopC] at hr ⊢
    split at hr
    · split at hr <;> try (cases hr; done)
      exact FR.ops (h.put _ _) hr
    · exact FR.ops (h.put _ _) hr
    · cases hr
theorem FR.draw {env : Env} {ex : Ex} {base bar : Nat} : ∀ {ops : List AOper} {a b : Frame} {hs : List Heap} {tcs : List (List Nat)} {pend : List (Nat × Nat × Nat)} {s : St}, FR a b → runDraw env ex base bar ops a hs tcs pend = some s →
    ∃ b', runDraw env ex base bar ops b hs tcs pend = some ⟨b', s.H⟩ ∧ FR s.fr b'
  | [], a, b, hs, tcs, pend, s, h, hr => by
    unfold runDraw at hr ⊢
    split at hr <;> try (cases hr; done)
    rename_i hp
    rw [if_pos hp]
    split at hr <;> try (cases hr; done)
    rename_i e
    simp only [Option.some.injEq] at hr; subst hr
    exact ⟨b, rfl, h⟩
  | o :: r, a, b, hs, tcs, pend, s, h, hr => by
    unfold runDraw at hr ⊢
    simp only [← (h.keep o.looks).want, ← (h.keep o.looks).aopC, ← (h.keep o.looks).read] at hr ⊢
    split at hr
    · cases hr
    · split at hr <;> try (cases hr; done)
      split at hr
      · rename_i he; simp only [he, if_true]; exact FR.draw (h.put _ _) hr
      · rename_i he; simp only [he]; exact FR.draw (h.put _ _) hr
    · split at hr
      · rename_i he
        split at hr <;> try (cases hr; done)
        split at hr <;> try (cases hr; done)
        simp only [he, if_true]
        exact FR.draw (h.put _ _) hr
      · rename_i he
        split at hr <;> try (cases hr; done)
        split at hr <;> try (cases hr; done)
        split at hr <;> try (cases hr; done)
        rename_i ht
        simp only [he, ht, and_self, if_true]
        split at hr
        · rename_i hlo; simp only [hlo, if_true]; exact FR.draw (h.put _ _) hr
        · rename_i hlo
          simp only [hlo, if_false]
          split at hr
          · exact FR.draw (h.put _ _) hr
          · exact FR.draw (h.put _ _) hr
          · cases hr
theorem FR.twin {base bar : Nat} {H0 : Heap} : ∀ {ops : List (Nat × AOper)} {m : Nat} {a b : Frame} {H : Heap} {s : St}, FR a b → runTwin base bar H0 m ops a H = some s → ∃ b', runTwin base bar H0 m ops b H = some ⟨b', s.H⟩ ∧ FR s.fr b'
  | [], m, a, b, H, s, h, hr => by
    simp only [runTwin, Option.some.injEq] at hr; subst hr
    exact ⟨b, rfl, h⟩
  | (k, o) :: r, m, a, b, H, s, h, hr => by
    unfold runTwin at hr ⊢
    simp only [← (h.keep o.looks).aop] at hr ⊢
    split at hr <;> try (cases hr; done)
    split at hr <;> try (cases hr; done)
    rename_i hn
    rw [if_neg hn]
    exact FR.twin (h.put _ _) hr
theorem FR.slots {bar : Nat} : ∀ {ts : List Nat} {a b : Frame} {H : Heap} {s : St}, FR a b → frzSlots bar ts ⟨a, H⟩ = some s → ∃ b', frzSlots bar ts ⟨b, H⟩ = some ⟨b', s.H⟩ ∧ FR s.fr b'
  | [], a, b, H, s, h, hr => by
    simp only [frzSlots, Option.some.injEq] at hr; subst hr
    exact ⟨b, rfl, h⟩
  | t :: r, a, b, H, s, h, hr => by
    unfold frzSlots at hr ⊢
    simp only [← h.get] at hr ⊢
    split at hr <;> try (cases hr; done)
    split at hr <;> try (cases hr; done)
    exact FR.slots (h.set _ _) hr
def ExFR (ex : Ex) : Prop := ∀ base bar c a b H e s, FR a b → ex base bar c ⟨a, H⟩ = some (e, s) → ∃ b', ex base bar c ⟨b, H⟩ = some (e, ⟨b', s.H⟩) ∧ FR s.fr b'
theorem FR.execC {env : Env} {ex : Ex} (hx : ExFR ex) : ∀ (c : ACode) {base bar : Nat} {a b : Frame} {H : Heap} {e : AExit} {s : St}, FR a b → Go.Ab.execC env ex c base bar ⟨a, H⟩ = some (e, s) →
    ∃ b', Go.Ab.execC env ex c base bar ⟨b, H⟩ = some (e, ⟨b', s.H⟩) ∧ FR s.fr b'
  | .skip, _, _, a, b, H, e, s, h, hr => by
    simp only [Go.Ab.execC, Option.some.injEq, Prod.mk.injEq] at hr; obtain ⟨rfl, rfl⟩ := hr
    exact ⟨b, rfl, h⟩
  | .reg ops keep, _, _, a, b, H, e, s, h, hr => by
    unfold Go.Ab.execC at hr ⊢
    split at hr <;> try (cases hr; done)
    rename_i hc
    simp only [Option.some.injEq, Prod.mk.injEq] at hr; obtain ⟨rfl, rfl⟩ := hr
    obtain ⟨b', h1, h2⟩ := h.ops hc
    rw [h1]
    exact ⟨_, rfl, h2.keep keep⟩
  | .dreg ops keep, _, _, a, b, H, e, s, h, hr => by
    unfold Go.Ab.execC at hr ⊢
    split at hr <;> try (cases hr; done)
    rename_i hc
    simp only [Option.some.injEq, Prod.mk.injEq] at hr; obtain ⟨rfl, rfl⟩ := hr
    obtain ⟨b', h1, h2⟩ := h.draw hc
    rw [h1]
    exact ⟨_, rfl, h2.keep keep⟩
  | .twin ops keep, _, _, a, b, H, e, s, h, hr => by
    unfold Go.Ab.execC at hr ⊢
    split at hr <;> try (cases hr; done)
    rename_i hc
    simp only [Option.some.injEq, Prod.mk.injEq] at hr; obtain ⟨rfl, rfl⟩ := hr
    obtain ⟨b', h1, h2⟩ := h.twin hc
    rw [h1]
    exact ⟨_, rfl, h2.keep keep⟩
  | .seq c d, _, _, a, b, H, e, s, h, hr => by
    unfold Go.Ab.execC at hr ⊢
    split at hr
    · rename_i st hc
      obtain ⟨b', h1, h2⟩ := FR.execC hx c h hc
      rw [h1]
      exact FR.execC hx d h2 hr
    · rename_i hne
      obtain ⟨b', h1, h2⟩ := FR.execC hx c h hr
      rw [h1]
      cases e with
      | normal => exact absurd hr (hne _)
      | _ => exact ⟨b', rfl, h2⟩
  | .cond c d1 d2, _, _, a, b, H, e, s, h, hr => by
    unfold Go.Ab.execC at hr ⊢
    simp only [← h.ev] at hr ⊢
    split at hr
    · exact FR.execC hx d1 h hr
    · exact FR.execC hx d2 h hr
    · cases hr
  | .block id c, _, _, a, b, H, e, s, h, hr => by
    unfold Go.Ab.execC at hr ⊢
    split at hr
    · rename_i i st hc
      obtain ⟨b', h1, h2⟩ := FR.execC hx c h hc
      rw [h1]
      simp only
      split at hr <;> rename_i hi <;> simp only [Option.some.injEq, Prod.mk.injEq] at hr <;> obtain ⟨rfl, rfl⟩ := hr
      · rw [if_pos hi]; exact ⟨b', rfl, h2⟩
      · rw [if_neg hi]; exact ⟨b', rfl, h2⟩
    · rename_i hne
      obtain ⟨b', h1, h2⟩ := FR.execC hx c h hr
      rw [h1]
      cases e with
      | exit => exact absurd hr (hne _ _)
      | _ => exact ⟨b', rfl, h2⟩
  | .loop c, _, _, a, b, H, e, s, h, hr => by
    unfold Go.Ab.execC at hr ⊢
    split at hr
    · rename_i st hc
      obtain ⟨b', h1, h2⟩ := FR.execC hx c h hc
      rw [h1]
      exact hx _ _ _ _ _ _ _ _ h2 hr
    · rename_i hne
      obtain ⟨b', h1, h2⟩ := FR.execC hx c h hr
      rw [h1]
      cases e with
      | normal => exact absurd hr (hne _)
      | _ => exact ⟨b', rfl, h2⟩
  | .fresh keep c, _, _, a, b, H, e, s, h, hr => by
    unfold Go.Ab.execC at hr ⊢
    split at hr
    · rename_i st hc
      simp only [Option.some.injEq, Prod.mk.injEq] at hr; obtain ⟨rfl, rfl⟩ := hr
      obtain ⟨b', h1, h2⟩ := FR.execC hx c h hc
      rw [h1]
      exact ⟨b', rfl, h2⟩
    · rename_i e1 st hne hc
      obtain ⟨b', h1, h2⟩ := FR.execC hx c h hc
      rw [h1]
      simp only at hr
      split at hr <;> try (cases hr; done)
      rename_i ht
      simp only [Option.some.injEq, Prod.mk.injEq] at hr; obtain ⟨rfl, rfl⟩ := hr
      have ht' : ftop (fkeep keep b') ≤ H.length := by rw [← (h2.keep keep).top]; exact ht
      cases e1 with
      | ret => exact absurd rfl hne
      | _ => simp only [ht', if_true]; exact ⟨_, rfl, h2.keep keep⟩
    · cases hr
  | .frz ts c, _, _, a, b, H, e, s, h, hr => by
    unfold Go.Ab.execC at hr ⊢
    split at hr <;> try (cases hr; done)
    rename_i st hc
    obtain ⟨b', h1, h2⟩ := h.slots hc
    rw [h1]
    exact FR.execC hx c h2 hr
  | .exit id, _, _, a, b, H, e, s, h, hr => by
    simp only [Go.Ab.execC, Option.some.injEq, Prod.mk.injEq] at hr; obtain ⟨rfl, rfl⟩ := hr
    exact ⟨b, rfl, h⟩
  | .scope body cur, _, _, a, b, H, e, s, h, hr => by
    unfold Go.Ab.execC at hr ⊢
    split at hr
    · rename_i l st hc
      obtain ⟨b', h1, h2⟩ := FR.execC hx cur h hc
      rw [h1]
      simp only
      split at hr
      · exact hx _ _ _ _ _ _ _ _ h2 hr
      · simp only [Option.some.injEq, Prod.mk.injEq] at hr; obtain ⟨rfl, rfl⟩ := hr
        exact ⟨b', rfl, h2⟩
    · rename_i hne
      obtain ⟨b', h1, h2⟩ := FR.execC hx cur h hr
      rw [h1]
      cases e with
      | goto => exact absurd hr (hne _ _)
      | _ => exact ⟨b', rfl, h2⟩
  | .label _, _, _, a, b, H, e, s, h, hr => by
    simp only [Go.Ab.execC, Option.some.injEq, Prod.mk.injEq] at hr; obtain ⟨rfl, rfl⟩ := hr
    exact ⟨b, rfl, h⟩
  | .goto _, _, _, a, b, H, e, s, h, hr => by
    simp only [Go.Ab.execC, Option.some.injEq, Prod.mk.injEq] at hr; obtain ⟨rfl, rfl⟩ := hr
    exact ⟨b, rfl, h⟩
  | .ret, _, _, a, b, H, e, s, h, hr => by
    simp only [Go.Ab.execC, Option.some.injEq, Prod.mk.injEq] at hr; obtain ⟨rfl, rfl⟩ := hr
    exact ⟨b, rfl, h⟩
theorem exec_FR {env : Env} : ∀ n, ExFR (exec env n)
  | 0 => fun _ _ _ _ _ _ _ _ _ h => by simp [exec] at h
  | n + 1 => fun base bar c a b H e s h hr => by
    simp only [exec] at hr ⊢
    exact FR.execC (exec_FR n) c h hr
/-- code from the same slots in another order, where what comes later does not look at the order -/
theorem Wp.perm {env : Env} {base bar : Nat} {c : ACode} {a b : Frame} {H : Heap} {Q : PQ} (h : FR a b) (hq : ∀ e x y H', FR x y → Q e x H' → Q e y H') (hw : Wp env base bar c a H Q) : Wp env base bar c b H Q := by
  obtain ⟨n, e, s, h1, h2⟩ := hw
  obtain ⟨b', h3, h4⟩ := exec_FR n _ _ _ _ _ _ _ _ h h1
  exact ⟨n, e, _, h3, hq _ _ _ _ h4 h2⟩
end Go.Ab
end
