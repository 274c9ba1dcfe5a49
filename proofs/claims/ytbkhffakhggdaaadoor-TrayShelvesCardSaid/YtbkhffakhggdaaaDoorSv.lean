/-
  Parts of the proofs about this chapter, joined: contracts of functions and plain laws.
-/
import Derived.Test.YtbkhffakhggdaaaDoorCall
import Derived.Test.YtbkhffakhggdaaaDoorKit
import Derived.KernelRfl
import Derived.IntWalk
import Derived.Sort.AssemblyPlain
set_option linter.all false
section
set_option linter.all false
namespace Go.Ab
end Go.Ab
namespace Go.Proofs.YtbkhffakhggdaaaDoor.Code
open Go Go.Ab
theorem i64_suc {i : Nat} (h : i < 1000000) : IntKind.i64.wrap ((i : Int) + 1) = ((i + 1 : Nat) : Int) := by
  rw [show (i : Int) + 1 = ((i + 1 : Nat) : Int) by omega, i64_nat (by omega)]
theorem natEq {a b : Nat} : ((a : Int) = (b : Int)) ↔ a = b := by omega
theorem shl_i64 {n : Nat} (hn : n < 62) : abin .shl (.int .i64 1) (.int .i64 (n : Int)) = some (.int .i64 ((pw n : Nat) : Int)) := by
  have h2 : (2 : Nat) ^ n < 9223372036854775808 := Nat.lt_of_lt_of_le (Nat.pow_lt_pow_right (by decide) hn) (by decide)
  simp only [abin]
  rw [if_neg (by omega), Int.toNat_natCast, show min n IntKind.i64.bits = n from Nat.min_eq_left (by simp [IntKind.bits]; omega)]
  rw [show (1 : Int) * 2 ^ n = ((2 ^ n : Nat) : Int) by simp, i64_nat h2]; rfl
theorem pw_pos {n : Nat} : 0 < pw n := Nat.two_pow_pos n
end Go.Proofs.YtbkhffakhggdaaaDoor.Code
end
section
set_option linter.all false
section
namespace Go.Proofs.YtbkhffakhggdaaaDoor.Code
open Go Go.Ab
variable {pure : Bool} {base bar : Nat} {H : Heap} {Q : AV → Heap → Prop} {K : AV → Heap → List Nat → Prop}
/-! lists of numbers with a sign -/
def ints (l : List Int) : List AV := l.map (.int .i64)
def isV (v : AV) (l : List Int) : Prop := (v = .nils ∧ l = []) ∨ v = .lst 1 false (ints l)
theorem isV.len {v : AV} {l : List Int} (h : isV v l) : lenWp (some v) H K = K (.int .i64 (l.length : Int)) H [] := by
  rcases h with ⟨rfl, rfl⟩ | rfl
  · rfl
  · rw [lenWp_lst]; simp [ints]
theorem isV.frz {v : AV} {l : List Int} (h : isV v l) {d : Nat} : Go.Ab.frz (d + 1) bar H v = some (v, H) := by
  rcases h with ⟨rfl, rfl⟩ | rfl <;> rfl
theorem isV.top {v : AV} {l : List Int} (h : isV v l) : v.top = 0 := by
  rcases h with ⟨rfl, rfl⟩ | rfl
  · rfl
  · exact tops_zero fun x hx => by
      obtain ⟨z, _, rfl⟩ := List.mem_map.1 hx
      rfl
theorem isV.isTup {v : AV} {l : List Int} (h : isV v l) : v.isTup = false := by
  rcases h with ⟨rfl, rfl⟩ | rfl <;> rfl
theorem isV.cells {v : AV} {l : List Int} (h : isV v l) : v.cells = [v] := by
  rcases h with ⟨rfl, rfl⟩ | rfl <;> rfl
theorem isV.noVec {v : AV} {l : List Int} (h : isV v l) : v.noVec = true := by
  rcases h with ⟨rfl, rfl⟩ | rfl <;> rfl
theorem isV.ix {v : AV} {l : List Int} (h : isV v l) {k : IntKind} {i : Nat} (hi : i < l.length) : ixaSWp 1 (some v) (some (.int k (i : Int))) H K = K (.fp (.int .i64 l[i])) H [] := by
  rcases h with ⟨rfl, rfl⟩ | rfl
  · simp at hi
  · rw [ixaSWp_lst]
    simp only [Int.toNat_natCast]
    rw [show (ints l)[i]? = some (.int .i64 l[i]) by simp [ints, List.getElem?_eq_getElem hi]]
    simp [valWp_some]
/-! trays: the first error of a list, and its set -/
def errT (n : Int) : Int → List Int → Int
  | _, [] => 0
  | last, x :: r => if x < 0 ∨ n ≤ x then 2 else if x ≤ last then 7 else errT n x r
def orT : Nat → List Int → Nat
  | s, [] => s
  | s, x :: r => orT (bor s (pw x.toNat)) r
def subsF : Nat → Nat → List (List Int)
  | 0, _ => [[]]
  | k + 1, f => subsF k (f + 1) ++ (subsF k (f + 1)).map (((f : Nat) : Int) :: ·)
/-- the dyes of a set -/
def dyL (x : Nat) : List Int := ((List.range 6).filter fun i => x.testBit i).map fun (i : Nat) => (i : Int)
theorem subsF_of {n : Nat} : ∀ {k f : Nat} {l : List Int} {last : Int}, f + k = n → last + 1 = (f : Int) → errT n last l = 0 → l ∈ subsF k f
  | 0, f, [], _, _, _, _ => by simp [subsF]
  | k + 1, f, [], _, _, _, _ => by
    have := subsF_of (k := k) (f := f + 1) (l := []) (n := f + 1 + k) (last := f) rfl (by omega) rfl
    exact List.mem_append_left _ this
  | 0, f, x :: r, last, hn, hl, h => by
    unfold errT at h
    split at h
    · cases h
    · split at h
      · cases h
      · omega
  | k + 1, f, x :: r, last, hn, hl, h => by
    have h' := h
    unfold errT at h
    split at h
    · cases h
    · split at h
      · cases h
      · by_cases hx : x = (f : Int)
        · subst hx
          exact List.mem_append_right _ (List.mem_map.2 ⟨r, subsF_of (k := k) (f := f + 1) (by omega) (by omega) h, rfl⟩)
        · refine List.mem_append_left _ (subsF_of (k := k) (f := f + 1) (last := f) (n := n) (by omega) (by omega) ?_)
          unfold errT
          rw [if_neg (by assumption), if_neg (by omega)]
          exact h
theorem dyL_some : ((List.range' 1 6).all fun n => (subsF n 0).all fun l => (List.range (2 ^ n)).any fun x => (l == dyL x) && Nat.beq (orT 0 l) x) = true := by decide +kernel
theorem dyL_of {n : Nat} {l : List Int} (h1 : 1 ≤ n) (h6 : n ≤ 6) (h : errT n (-1) l = 0) : orT 0 l < pw n ∧ l = dyL (orT 0 l) := by
  have hm := subsF_of (n := n) (k := n) (f := 0) (by omega) (by decide) h
  have := List.all_eq_true.1 (List.all_eq_true.1 dyL_some n (List.mem_range'_1.2 ⟨h1, by omega⟩)) l hm
  obtain ⟨x, hx, hb⟩ := List.any_eq_true.1 this
  rw [Bool.and_eq_true] at hb
  obtain ⟨e1, e2⟩ := hb
  have e2 := Nat.eq_of_beq_eq_true e2
  have e1 := eq_of_beq e1
  rw [e2]
  exact ⟨List.mem_range.1 hx, e1⟩
theorem u64n {a : Nat} (h : a < 9223372036854775808) : IntKind.u64.wrap (a : Int) = a := Go.IntWalk.u64_in _ (by omega)
theorem or_u64 {a b : Nat} (ha : a < 64) (hb : b < 64) : abin .or (.int .u64 a) (.int .u64 b) = some (.int .u64 ((bor a b : Nat) : Int)) := by
  have hl : bor a b < 64 := Nat.or_lt_two_pow (n := 6) ha hb
  have e : (BitVec.ofInt 64 (a : Int) ||| BitVec.ofInt 64 (b : Int)).toNat = bor a b := by
    rw [BitVec.toNat_or, ofInt_toNat (w := 64) (by omega), ofInt_toNat (w := 64) (by omega)]; rfl
  simp only [abin, binInt, if_true]
  rw [show IntKind.u64.bits = 64 from rfl, e, u64n (by omega)]
theorem shl_u64 {b : Nat} (hb : b < 6) : abin .shl (.int .u64 1) (.int .i64 (b : Int)) = some (.int .u64 ((pw b : Nat) : Int)) := by
  have h2 : (2 : Nat) ^ b < 64 := Nat.pow_lt_pow_right (by decide) hb
  simp only [abin]
  rw [if_neg (by omega), Int.toNat_natCast, show min b IntKind.u64.bits = b from Nat.min_eq_left (by simp [IntKind.bits]; omega)]
  rw [show (1 : Int) * 2 ^ b = ((2 ^ b : Nat) : Int) by simp, u64n (by omega)]; rfl
theorem pw64 {b : Nat} (hb : b < 6) : pw b < 64 := Nat.pow_lt_pow_right (by decide) hb
theorem bor64 {a b : Nat} (ha : a < 64) (hb : b < 64) : bor a b < 64 := Nat.or_lt_two_pow (n := 6) ha hb
/-! 102, 72: a tray as a set -/
theorem k79 {n : Int} (h : Q (.bool (decide (1 ≤ n) && decide (n ≤ 6))) H) : WpCall E pure base bar 79 [.int .i64 n] H Q := by
  rw [call79]
  by_cases h1 : 1 ≤ n <;> by_cases h2 : n ≤ 6 <;> simp [h1, h2] at h <;> simp [go_sem, WpFun, c79, h1, h2] <;> exact h
theorem l102 {n : Nat} {v : AV} {l : List Int} (hn : n ≤ 6) (hv : isV v l) (hl : l.length < 1000) {R : PQ} : ∀ (k i s : Nat) (last : Int) (fr : List (Nat × AV)), i + k = l.length → s < 64 →
    (fr = [(0, .int .i64 (n : Int)), (6, .int .u64 (s : Nat)), (7, .int .i64 last), (10, v), (11, .int .i64 (l.length : Nat)), (12, .int .i64 (i : Nat))] ∨ fr = [(0, .int .i64 (n : Int)), (6, .int .u64 (s : Nat)), (10, v), (11, .int .i64 (l.length : Nat)), (12, .int .i64 (i : Nat)), (7, .int .i64 last)]) →
    (errT n last (l.drop i) ≠ 0 → R .ret [(4, .int .u64 0), (5, .int .i64 (errT n last (l.drop i)))] H) →
    (errT n last (l.drop i) = 0 → ∀ l', R (.exit 0) [(0, .int .i64 (n : Int)), (6, .int .u64 (orT s (l.drop i) : Nat)), (7, .int .i64 l'), (10, v), (11, .int .i64 (l.length : Nat)), (12, .int .i64 (l.length : Nat)), (13, .bool false)] H) →
    (errT n last (l.drop i) = 0 → ∀ l', R (.exit 0) [(0, .int .i64 (n : Int)), (6, .int .u64 (orT s (l.drop i) : Nat)), (10, v), (11, .int .i64 (l.length : Nat)), (12, .int .i64 (l.length : Nat)), (7, .int .i64 l'), (13, .bool false)] H) →
    Wp E base bar (.loop c102_l0) fr H R := by
  intro k
  induction k with
  | zero =>
    intro i s last fr hi hs hfr h1 h2 h3
    obtain rfl : i = l.length := by omega
    rw [List.drop_length] at h2 h3
    rw [wp_round c102_l0.eq_1]
    rcases hfr with rfl | rfl <;> simp [go_sem]
    · exact h2 rfl _
    · exact h3 rfl _
  | succ k ih =>
    intro i s last fr hi hs hfr h1 h2 h3
    have hlt : i < l.length := by omega
    rw [List.drop_eq_getElem_cons hlt] at h1 h2 h3
    have hix := fun (K : AV → Heap → List Nat → Prop) (k : IntKind) => hv.ix (H := H) (K := K) (k := k) hlt
    generalize l[i] = x at *
    rw [wp_round c102_l0.eq_1]
    unfold errT at h1 h2 h3
    have hw := i64_suc (show i < 1000000 by omega)
    by_cases hx0 : x < 0
    · rw [if_pos (.inl hx0)] at h1
      have := h1 (by decide)
      rcases hfr with rfl | rfl <;> simp [go_sem, hlt, hix, hx0]
      all_goals exact this
    by_cases hxn : (n : Int) ≤ x
    · rw [if_pos (.inr hxn)] at h1
      have := h1 (by decide)
      rcases hfr with rfl | rfl <;> simp [go_sem, hlt, hix, hx0, hxn]
      all_goals exact this
    rw [if_neg (by omega)] at h1 h2 h3
    obtain ⟨y, rfl⟩ := Int.eq_ofNat_of_zero_le (show 0 ≤ x by omega)
    have hy : y < 6 := by omega
    by_cases hle : (y : Int) ≤ last
    · rw [if_pos hle] at h1
      have := h1 (by decide)
      rcases hfr with rfl | rfl <;> simp [go_sem, hlt, hix, hx0, hxn, hle]
      all_goals exact this
    · rw [if_neg hle] at h1 h2 h3
      have next := ih (i + 1) (bor s (pw y)) (y : Int) _ (by omega) (bor64 hs (pw64 hy)) (.inr rfl) h1 (by simpa only [orT, Int.toNat_natCast] using h2) (by simpa only [orT, Int.toNat_natCast] using h3)
      have hny : ¬ n ≤ y := by omega
      rcases hfr with rfl | rfl <;> simp [go_sem, hlt, hix, hx0, hxn, hle, hny, shl_u64 hy, or_u64 hs (pw64 hy), hw]
      all_goals exact next
theorem k102 {n : Nat} {v : AV} {l : List Int} (hn : n ≤ 6) (hv : isV v l) (hl : l.length < 1000)
    (h1 : errT n (-1) l ≠ 0 → Q (.tup [.int .u64 0, .int .i64 (errT n (-1) l)]) H)
    (h2 : errT n (-1) l = 0 → Q (.tup [.int .u64 (orT 0 l : Nat), .int .i64 0]) H) : WpCall E pure base bar 102 [.int .i64 (n : Int), v] H Q := by
  rw [call102]
  simp [go_sem, WpFun, c102, hv.frz, hv.len]
  refine l102 hn hv hl l.length 0 0 (-1) _ (by omega) (by decide) (.inl rfl) (fun h => ?_) (fun h l' => ?_) (fun h l' => ?_)
  · rw [List.drop_zero] at h
    have := h1 h
    simp [go_sem]
    exact this
  all_goals
    rw [List.drop_zero] at h
    have := h2 h
    simp [go_sem]
    exact this
theorem k84 {a b c : Int} (h : Q (.bool (decide (b ≤ a) && decide (a ≤ c))) H) : WpCall E pure base bar 84 [.int .i64 a, .int .i64 b, .int .i64 c] H Q := by
  rw [call84]
  by_cases h1 : b ≤ a <;> by_cases h2 : a ≤ c <;> simp [h1, h2] at h <;> simp [go_sem, WpFun, c84, h1, h2] <;> exact h
end Go.Proofs.YtbkhffakhggdaaaDoor.Code
end
section
namespace Go.Proofs.YtbkhffakhggdaaaDoor.Code
open Go Go.Ab
variable {pure : Bool} {base bar : Nat} {H : Heap} {Q : AV → Heap → Prop} {K : AV → Heap → List Nat → Prop}
theorem isV.fp {v : AV} {l : List Int} (h : isV v l) : aload H ⟨false, 1⟩ (.fp v) = some v := by
  rcases h with ⟨rfl, rfl⟩ | rfl <;> rfl
theorem box0 {a b : AV} : aload (H ++ [.row 0 [a, b] 0 true]) ⟨false, 1⟩ (.ptr H.length 0 0) = some a := by
  rw [aload_ptr (own_get0 (l := [.row 0 [a, b] 0 true]) |>.trans rfl)]; rfl
theorem box1 {a b : AV} : aload (H ++ [.row 0 [a, b] 0 true]) ⟨false, 1⟩ (.ptr H.length 0 1) = some b := by
  rw [aload_ptr (own_get0 (l := [.row 0 [a, b] 0 true]) |>.trans rfl)]; rfl
theorem box2 {a b : AV} : aload (H ++ [.row 0 [a, b] 0 true]) ⟨true, 2⟩ (.ptr H.length 0 0) = some (.agg [a, b]) := by
  rw [aload_ptr (own_get0 (l := [.row 0 [a, b] 0 true]) |>.trans rfl)]; rfl
/-! 42: the reference's check, tray by tray -/
theorem l42_0 {id ver fz : Nat} {ex : Bool} {n : Nat} {q v : AV} {l : List Int} {j : Int} (hn1 : 1 ≤ n) (hn : n ≤ 6) (hv : isV v l) (hl : l.length < 1000) (hid : H[id]? = some (.row ver [.int .i64 (n : Int), q] fz ex)) {R : PQ} :
    ∀ (k i : Nat) (last : Int), i + k = l.length → (i = 0 ∧ last = -1 ∨ 0 < i ∧ l[i - 1]? = some last) →
    (errT n last (l.drop i) ≠ 0 → R .ret [(2, .int .i64 (errT n last (l.drop i)))] H) →
    (errT n last (l.drop i) = 0 → R (.exit 2) [(1, .ptr id ver 0), (3, .int .i64 j), (4, v), (5, .int .i64 (l.length : Nat)), (26, .bool false)] H) →
    Wp E base bar (.loop c42_l0) [(1, .ptr id ver 0), (3, .int .i64 j), (4, v), (5, .int .i64 (i : Nat))] H R := by
  have ld : aload H ⟨false, 1⟩ (.ptr id ver 0) = some (.int .i64 (n : Int)) := by rw [aload_ptr hid]; rfl
  have hlt' := (List.getElem?_eq_some_iff.1 hid).1
  intro k
  induction k with
  | zero =>
    intro i last hi hla h1 h2
    obtain rfl : i = l.length := by omega
    rw [List.drop_length] at h2
    rw [wp_round c42_l0.eq_1]
    simp [go_sem, hv.len]
    exact h2 rfl
  | succ k ih =>
    intro i last hi hla h1 h2
    have hlt : i < l.length := by omega
    have hgi : l[i + 1 - 1]? = some l[i] := by rw [Nat.add_sub_cancel, List.getElem?_eq_getElem hlt]
    rw [List.drop_eq_getElem_cons hlt] at h1 h2
    have hix := fun (K : AV → Heap → List Nat → Prop) (k : IntKind) => hv.ix (H := H) (K := K) (k := k) hlt
    have hix' := fun (j : Nat) (hj : j < l.length) (K : AV → Heap → List Nat → Prop) (k : IntKind) => hv.ix (H := H) (K := K) (k := k) hj
    generalize l[i] = x at *
    rw [wp_round c42_l0.eq_1]
    unfold errT at h1 h2
    have hw := i64_suc (show i < 1000000 by omega)
    have hn1' : IntKind.i64.wrap ((n : Int) - 1) = (n : Int) - 1 := by rw [show (n : Int) - 1 = ((n - 1 : Nat) : Int) by omega, i64_nat (by omega)]
    by_cases hx : x < 0 ∨ (n : Int) ≤ x
    · rw [if_pos hx] at h1
      have := h1 (by decide)
      have hb : (decide (0 ≤ x) && decide (x ≤ (n : Int) - 1)) = false := by
        rw [← Bool.not_eq_true, Bool.and_eq_true, decide_eq_true_eq, decide_eq_true_eq]; omega
      simp [go_sem, hv.len, hlt, hix, ld, hn1']
      refine k84 ?_
      rw [hb]
      simp [go_sem]
      exact this
    · rw [if_neg hx] at h1 h2
      have hb : (decide (0 ≤ x) && decide (x ≤ (n : Int) - 1)) = true := by
        rw [Bool.and_eq_true, decide_eq_true_eq, decide_eq_true_eq]; omega
      simp [go_sem, hv.len, hlt, hix, ld, hn1']
      refine k84 ?_
      rw [hb]
      rcases hla with ⟨rfl, rfl⟩ | ⟨hi0, hla⟩
      · rw [if_neg (by omega)] at h1 h2
        have next := ih (0 + 1) x (by omega) (.inr ⟨by omega, hgi⟩) h1 h2
        simp [go_sem]
        exact next
      · obtain ⟨hj, rfl⟩ := List.getElem?_eq_some_iff.1 hla
        have hix1 := hix' (i - 1) hj
        have hwi : IntKind.i64.wrap ((i : Int) - 1) = ((i - 1 : Nat) : Int) := by rw [show (i : Int) - 1 = ((i - 1 : Nat) : Int) by omega, i64_nat (by omega)]
        generalize l[i - 1] = y at *
        by_cases hle : x ≤ y
        · rw [if_pos hle] at h1
          have := h1 (by decide)
          simp [go_sem, hi0, hix, hix1, hwi, hle]
          exact this
        · rw [if_neg hle] at h1 h2
          have next := ih (i + 1) x (by omega) (.inr ⟨by omega, hgi⟩) h1 h2
          simp [go_sem, hi0, hix, hix1, hwi, hle, hw]
          exact next
theorem k42o {n : Int} {q : AV} (hn : ¬ (1 ≤ n ∧ n ≤ 6)) (hq : ∀ (d bar : Nat) (H : Heap), frz (d + 1) bar H q = some (q, H)) (hc : q.cells = [q]) (h1 : Q (.int .i64 1) H) : WpCall E pure base bar 42 [.agg [.int .i64 n, q]] H Q := by
  have hb : (decide (1 ≤ n) && decide (n ≤ 6)) = false := by
    rw [← Bool.not_eq_true, Bool.and_eq_true, decide_eq_true_eq, decide_eq_true_eq]; exact hn
  rw [call42]
  simp [go_sem, WpFun, c42, hq, hc, box0, box1]
  refine k84 ?_
  rw [hb]
  simp [go_sem]
  exact h1
end Go.Proofs.YtbkhffakhggdaaaDoor.Code
end
section
namespace Go.Proofs.YtbkhffakhggdaaaDoor.Code
open Go Go.Ab
variable {pure : Bool} {base bar : Nat} {H : Heap} {Q : AV → Heap → Prop} {K : AV → Heap → List Nat → Prop}
/-! 105, 92: has, inside -/
theorem l105 {v : AV} {l : List Int} {z : Int} (hv : isV v l) (hl : l.length < 1000) {R : PQ} : ∀ (k i : Nat), i + k = l.length →
    ((l.drop i).contains z = false → R (.exit 0) [(0, v), (1, .int .i64 z), (5, .int .i64 (l.length : Nat)), (9, .bool false)] H) →
    ((l.drop i).contains z = true → R .ret [(4, .bool true)] H) →
    Wp E base bar (.loop c105_l0) [(0, v), (1, .int .i64 z), (5, .int .i64 (i : Nat))] H R := by
  intro k
  induction k with
  | zero =>
    intro i hi h1 h2
    obtain rfl : i = l.length := by omega
    rw [List.drop_length] at h1
    rw [wp_round c105_l0.eq_1]
    simp [go_sem, hv.len]
    exact h1 rfl
  | succ k ih =>
    intro i hi h1 h2
    have hlt : i < l.length := by omega
    rw [List.drop_eq_getElem_cons hlt, List.contains_cons] at h1 h2
    have hix := fun (K : AV → Heap → List Nat → Prop) (k : IntKind) => hv.ix (H := H) (K := K) (k := k) hlt
    generalize l[i] = x at *
    have hw := i64_suc (show i < 1000000 by omega)
    rw [wp_round c105_l0.eq_1]
    by_cases hx : x = z
    · subst hx
      have := h2 (by simp)
      simp [go_sem, hv.len, hlt, hix]
      exact this
    · have hb : (z == x) = false := by simpa using fun h => hx h.symm
      rw [hb] at h1 h2
      simp only [Bool.false_or] at h1 h2
      have next := ih (i + 1) (by omega) h1 h2
      simp [go_sem, hv.len, hlt, hix, hx, hw]
      exact next
theorem k105 {v : AV} {l : List Int} {z : Int} (hv : isV v l) (hl : l.length < 1000) (h : Q (.bool (l.contains z)) H) : WpCall E pure base bar 105 [v, .int .i64 z] H Q := by
  rw [call105]
  simp [go_sem, WpFun, c105, hv.frz]
  refine l105 hv hl l.length 0 (by omega) (fun hc => ?_) (fun hc => ?_)
  all_goals
    rw [List.drop_zero] at hc
    rw [hc] at h
    simp [go_sem]
    exact h
theorem l92 {v w : AV} {l m : List Int} (hv : isV v l) (hw : isV w m) (hl : l.length < 1000) (hm : m.length < 1000) {R : PQ} : ∀ (k i : Nat), i + k = l.length →
    ((l.drop i).all m.contains = true → R (.exit 0) [(0, v), (1, w), (5, .int .i64 (l.length : Nat)), (9, .bool false)] H) →
    ((l.drop i).all m.contains = false → R .ret [(4, .bool false)] H) →
    Wp E base bar (.loop c92_l0) [(0, v), (1, w), (5, .int .i64 (i : Nat))] H R := by
  intro k
  induction k with
  | zero =>
    intro i hi h1 h2
    obtain rfl : i = l.length := by omega
    rw [List.drop_length] at h1
    rw [wp_round c92_l0.eq_1]
    simp [go_sem, hv.len]
    exact h1 rfl
  | succ k ih =>
    intro i hi h1 h2
    have hlt : i < l.length := by omega
    rw [List.drop_eq_getElem_cons hlt, List.all_cons] at h1 h2
    have hix := fun (K : AV → Heap → List Nat → Prop) (k : IntKind) => hv.ix (H := H) (K := K) (k := k) hlt
    generalize l[i] = x at *
    have hs := i64_suc (show i < 1000000 by omega)
    rw [wp_round c92_l0.eq_1]
    simp [go_sem, hv.len, hlt, hix]
    refine k105 hw hm ?_
    cases hc : m.contains x
    · rw [hc] at h2
      have := h2 (by simp)
      simp [go_sem]
      exact this
    · rw [hc] at h1 h2
      simp only [Bool.true_and] at h1 h2
      have next := ih (i + 1) (by omega) h1 h2
      simp [go_sem, hs]
      exact next
theorem k92 {v w : AV} {l m : List Int} (hv : isV v l) (hw : isV w m) (hl : l.length < 1000) (hm : m.length < 1000) (h : Q (.bool (l.all m.contains)) H) : WpCall E pure base bar 92 [v, w] H Q := by
  rw [call92]
  simp [go_sem, WpFun, c92, hv.frz, hw.frz]
  refine l92 hv hw hl hm l.length 0 (by omega) (fun hc => ?_) (fun hc => ?_)
  all_goals
    rw [List.drop_zero] at hc
    rw [hc] at h
    simp [go_sem]
    exact h
theorem dyL_len {x : Nat} (hx : x < 64) : (dyL x).length = pc x := by
  have : ∀ x, x < 64 → (dyL x).length = pc x := by decide +kernel
  exact this x hx
theorem pc_le {x : Nat} : pc x ≤ 6 := Nat.le_trans (List.length_filter_le _ _) (by simp)
/-- one set is inside another -/
def subB (a b : Nat) : Bool := Nat.beq (Nat.land a b) a
theorem subB_all : ((List.range 64).all fun a => (List.range 64).all fun b => (dyL a).all (dyL b).contains == subB a b) = true := by decide +kernel
theorem dyL_sub {a b : Nat} (ha : a < 64) (hb : b < 64) : (dyL a).all (dyL b).contains = subB a b :=
  eq_of_beq (List.all_eq_true.1 (List.all_eq_true.1 subB_all a (List.mem_range.2 ha)) b (List.mem_range.2 hb))
theorem dy_top {x : Nat} : (dy x).top = 0 := by
  unfold dy; split
  · rfl
  · exact tops_zero fun y hy => by
      obtain ⟨z, _, rfl⟩ := List.mem_map.1 hy
      rfl
/-- trays as lists -/
def dys (S : List Nat) : List AV := S.map dy
theorem dys_tops {S : List Nat} : AV.top.tops (dys S) = 0 := tops_zero fun c hc => by
  obtain ⟨x, _, rfl⟩ := List.mem_map.1 hc
  exact dy_top
theorem dys_length {S : List Nat} : (dys S).length = S.length := by simp [dys]
theorem dys_append {S T : List Nat} : dys (S ++ T) = dys S ++ dys T := by simp [dys]
theorem dys_get {S : List Nat} {i : Nat} (hi : i < S.length) : (dys S)[i]? = some (dy S[i]) := by simp [dys, List.getElem?_eq_getElem hi]
/-- a value is a list of trays -/
def isS (v : AV) (S : List Nat) : Prop := (v = .nils ∧ S = []) ∨ ∃ ex, v = .lst 1 ex (dys S)
theorem isS.len {v : AV} {S : List Nat} (h : isS v S) : lenWp (some v) H K = K (.int .i64 (S.length : Int)) H [] := by
  rcases h with ⟨rfl, rfl⟩ | ⟨ex, rfl⟩
  · rfl
  · rw [lenWp_lst, dys_length]
theorem isS.frz {v : AV} {S : List Nat} (h : isS v S) {d : Nat} : frz (d + 1) bar H v = some (v, H) := by
  rcases h with ⟨rfl, rfl⟩ | ⟨ex, rfl⟩ <;> rfl
theorem isS.isTup {v : AV} {S : List Nat} (h : isS v S) : v.isTup = false := by
  rcases h with ⟨rfl, rfl⟩ | ⟨ex, rfl⟩ <;> rfl
theorem isS.cells {v : AV} {S : List Nat} (h : isS v S) : v.cells = [v] := by
  rcases h with ⟨rfl, rfl⟩ | ⟨ex, rfl⟩ <;> rfl
theorem isS.noVec {v : AV} {S : List Nat} (h : isS v S) : v.noVec = true := by
  rcases h with ⟨rfl, rfl⟩ | ⟨ex, rfl⟩ <;> rfl
theorem isS.top {v : AV} {S : List Nat} (h : isS v S) : v.top = 0 := by
  rcases h with ⟨rfl, rfl⟩ | ⟨ex, rfl⟩
  · rfl
  · exact dys_tops
theorem isS.ix {v : AV} {S : List Nat} (h : isS v S) {k : IntKind} {i : Nat} (hi : i < S.length) : ixaSWp 1 (some v) (some (.int k (i : Int))) H K = K (.fp (dy S[i])) H [] := by
  rcases h with ⟨rfl, rfl⟩ | ⟨ex, rfl⟩
  · simp at hi
  · rw [ixaSWp_lst]
    simp only [Int.toNat_natCast]
    rw [dys_get hi]
    simp [valWp_some]
theorem outL_dys {S : List Nat} : outL 1 (dys S) = if S = [] then .nils else .lst 1 false (dys S) := by
  unfold outL
  by_cases h : S = []
  · subst h; rfl
  · rw [if_neg (by simpa [dys] using h), if_neg h, Nat.div_one, chunks_one]
theorem isS.out {S : List Nat} : isS (outL 1 (dys S)) S := by
  rw [outL_dys]
  split
  · rename_i h; exact .inl ⟨rfl, h⟩
  · exact .inr ⟨_, rfl⟩
end Go.Proofs.YtbkhffakhggdaaaDoor.Code
end
section
namespace Go.Proofs.YtbkhffakhggdaaaDoor.Code
open Go Go.Ab
variable {pure : Bool} {base bar : Nat} {H : Heap} {Q : AV → Heap → Prop} {K : AV → Heap → List Nat → Prop}
end Go.Proofs.YtbkhffakhggdaaaDoor.Code
end
section
namespace Go.Proofs.YtbkhffakhggdaaaDoor.Code
open Go Go.Ab
variable {pure : Bool} {base bar : Nat} {H : Heap} {Q : AV → Heap → Prop} {K : AV → Heap → List Nat → Prop}
/-! 109, 86: smaller, same -/
def smL : List Int → List Int → Bool
  | [], m => decide (0 < m.length)
  | _ :: _, [] => false
  | x :: r, y :: s => if x = y then smL r s else decide (x < y)
theorem smL_irr : ∀ {l : List Int}, smL l l = false
  | [] => rfl
  | x :: r => by simp [smL, smL_irr (l := r)]
theorem smL_eq : ∀ {l m : List Int}, smL l m = false → smL m l = false → l = m
  | [], [], _, _ => rfl
  | [], _ :: _, h, _ => by simp [smL] at h
  | _ :: _, [], _, h => by simp [smL] at h
  | x :: r, y :: s, h, h' => by
    by_cases hx : x = y
    · subst hx
      simp only [smL, if_true] at h h'
      rw [smL_eq h h']
    · simp only [smL, if_neg hx, if_neg (fun e : y = x => hx e.symm), decide_eq_false_iff_not] at h h'
      omega
theorem smL_same {l m : List Int} : (!smL l m && !smL m l) = decide (l = m) := by
  by_cases h : l = m
  · subst h; simp [smL_irr]
  · have : ¬ (smL l m = false ∧ smL m l = false) := fun ⟨a, b⟩ => h (smL_eq a b)
    cases h1 : smL l m <;> cases h2 : smL m l <;> simp_all
theorem smL_len : ∀ {l m : List Int}, l = [] ∨ m = [] → smL l m = decide (l.length < m.length)
  | [], m, _ => rfl
  | x :: r, [], _ => by simp [smL]
  | x :: r, y :: s, h => by simp at h
theorem l109 {v w : AV} {l m : List Int} (hv : isV v l) (hw : isV w m) (hl : l.length < 1000) (hm : m.length < 1000) {R : PQ} : ∀ (k i : Nat), i + k = l.length → i ≤ m.length →
    (∀ j : Nat, smL (l.drop i) (m.drop i) = decide (l.length < m.length) → R (.exit 0) [(0, v), (1, w), (5, .int .i64 (j : Nat)), (15, .bool false)] H) →
    (R .ret [(4, .bool (smL (l.drop i) (m.drop i)))] H) →
    Wp E base bar (.loop c109_l0) [(0, v), (1, w), (5, .int .i64 (i : Nat))] H R := by
  intro k
  induction k with
  | zero =>
    intro i hi him h1 h2
    obtain rfl : i = l.length := by omega
    have := h1 l.length (by
      rw [List.drop_length, smL_len (.inl rfl), List.length_drop]
      by_cases h : l.length < m.length <;> simp [h] <;> omega)
    rw [wp_round c109_l0.eq_1]
    simp [go_sem, hv.len]
    exact this
  | succ k ih =>
    intro i hi him h1 h2
    have hlt : i < l.length := by omega
    by_cases hlm : i < m.length
    · rw [List.drop_eq_getElem_cons hlt, List.drop_eq_getElem_cons hlm] at h1 h2
      have hix := fun (K : AV → Heap → List Nat → Prop) (k : IntKind) => hv.ix (H := H) (K := K) (k := k) hlt
      have hiy := fun (K : AV → Heap → List Nat → Prop) (k : IntKind) => hw.ix (H := H) (K := K) (k := k) hlm
      generalize l[i] = x at *
      generalize m[i] = y at *
      have hs := i64_suc (show i < 1000000 by omega)
      rw [wp_round c109_l0.eq_1]
      by_cases hxy : x = y
      · subst hxy
        simp only [smL, if_true] at h1 h2
        have next := ih (i + 1) (by omega) (by omega) h1 h2
        simp [go_sem, hv.len, hw.len, hlt, hlm, hix, hiy, hs]
        exact next
      · simp only [smL, if_neg hxy] at h2
        simp [go_sem, hv.len, hw.len, hlt, hlm, hix, hiy, hxy]
        exact h2
    · obtain rfl : i = m.length := by omega
      have := h1 m.length (by
        rw [smL_len (.inr List.drop_length), List.length_drop, List.length_drop]
        by_cases h : l.length < m.length <;> simp [h] <;> omega)
      rw [wp_round c109_l0.eq_1]
      simp [go_sem, hv.len, hw.len, hlt]
      exact this
theorem k109 {v w : AV} {l m : List Int} (hv : isV v l) (hw : isV w m) (hl : l.length < 1000) (hm : m.length < 1000) (h : Q (.bool (smL l m)) H) : WpCall E pure base bar 109 [v, w] H Q := by
  rw [call109]
  simp [go_sem, WpFun, c109, hv.frz, hw.frz]
  refine l109 hv hw hl hm l.length 0 (by omega) (by omega) (fun j he => ?_) ?_
  · rw [List.drop_zero, List.drop_zero] at he
    rw [he] at h
    simp [go_sem, hv.len, hw.len]
    exact h
  · rw [List.drop_zero, List.drop_zero]
    simp [go_sem]
    exact h
theorem k86 {v w : AV} {l m : List Int} (hv : isV v l) (hw : isV w m) (hl : l.length < 1000) (hm : m.length < 1000) (h : Q (.bool (decide (l = m))) H) : WpCall E pure base bar 86 [v, w] H Q := by
  rw [← smL_same] at h
  rw [call86]
  simp [go_sem, WpFun, c86, hv.frz, hw.frz]
  refine k109 hv hw hl hm ?_
  cases h1 : smL l m
  · rw [h1] at h
    simp [go_sem]
    refine k109 hw hv hm hl ?_
    simp [go_sem]
    simpa using h
  · rw [h1] at h
    simp [go_sem]
    simpa using h
theorem dyL_inj {a b : Nat} (ha : a < 64) (hb : b < 64) (h : dyL a = dyL b) : a = b := by
  have key : ((List.range 64).all fun a => Nat.beq (orT 0 (dyL a)) a) = true := by decide +kernel
  have e1 := Nat.eq_of_beq_eq_true (List.all_eq_true.1 key a (List.mem_range.2 ha))
  have e2 := Nat.eq_of_beq_eq_true (List.all_eq_true.1 key b (List.mem_range.2 hb))
  rw [← e1, ← e2, h]
theorem dyL_lt {x : Nat} (hx : x < 64) : (dyL x).length < 1000 := by rw [dyL_len hx]; have := pc_le (x := x); omega
end Go.Proofs.YtbkhffakhggdaaaDoor.Code
end
section
namespace Go.Proofs.YtbkhffakhggdaaaDoor.Code
open Go Go.Ab Go.RowKit Go.ChangeShapes Go.WideShapes
end Go.Proofs.YtbkhffakhggdaaaDoor.Code
end
end
section
set_option linter.all false
section
namespace Go.Proofs.YtbkhffakhggdaaaDoor.Code
open Go Go.Ab
variable {pure : Bool} {base bar : Nat} {H : Heap} {Q : AV → Heap → Prop} {K : AV → Heap → List Nat → Prop}
/-! words -/
def cl6 (a b : Nat) : Nat := Nat.land a (Nat.xor 63 b)
def okJ (k : IntKind) (r : Option AV) (n : Nat) : Bool := match k, r with
  | .i64, some (.int .i64 v) => decide (v = (n : Int))
  | .u64, some (.int .u64 v) => decide (v = (n : Int))
  | _, _ => false
theorem okJ_u {r : Option AV} {n : Nat} (h : okJ .u64 r n = true) : r = some (.int .u64 (n : Int)) := by
  unfold okJ at h
  split at h
  · rename_i h1; cases h1
  · rw [of_decide_eq_true h]
  · cases h
theorem cl6_ua : ((List.range 64).all fun x => (List.range 64).all fun z => okJ .u64 (abin .andNot (.int .u64 (x : Int)) (.int .u64 (z : Int))) (cl6 x z)) = true := by kernel_rfl
theorem cl6_u {x z : Nat} (hx : x < 64) (hz : z < 64) : abin .andNot (.int .u64 (x : Int)) (.int .u64 (z : Int)) = some (.int .u64 ((cl6 x z : Nat) : Int)) :=
  okJ_u (List.all_eq_true.1 (List.all_eq_true.1 cl6_ua x (List.mem_range.2 hx)) z (List.mem_range.2 hz))
theorem cl6_a : ((List.range 64).all fun x => (List.range 64).all fun z => Nat.beq (cl6 x z) 0 == subB x z) = true := by decide +kernel
theorem cl6_zero {x z : Nat} (hx : x < 64) (hz : z < 64) : (cl6 x z = 0) ↔ subB x z = true := by
  have := eq_of_beq (List.all_eq_true.1 (List.all_eq_true.1 cl6_a x (List.mem_range.2 hx)) z (List.mem_range.2 hz))
  rw [← this]; simp
end Go.Proofs.YtbkhffakhggdaaaDoor.Code
end
section
namespace Go.Proofs.YtbkhffakhggdaaaDoor.Code
open Go Go.Ab
variable {pure : Bool} {base bar : Nat} {H : Heap} {Q : AV → Heap → Prop} {K : AV → Heap → List Nat → Prop}
/-! sets as words -/
def us (L : List Nat) : List AV := L.map fun (x : Nat) => .int .u64 (x : Int)
theorem us_plain {l : List Nat} : ∀ c ∈ us l, Plain c := fun c hc => by
  obtain ⟨x, _, rfl⟩ := List.mem_map.1 hc
  exact Plain.int
theorem us_length {l : List Nat} : (us l).length = l.length := by simp [us]
theorem us_append {l r : List Nat} : us (l ++ r) = us l ++ us r := by simp [us]
theorem us_tops {l : List Nat} : AV.top.tops (us l) = 0 := tops_zero fun c hc => by
  obtain ⟨x, _, rfl⟩ := List.mem_map.1 hc
  rfl
def isU (v : AV) (L : List Nat) : Prop := (v = .nils ∧ L = []) ∨ ∃ ex, v = .lst 1 ex (us L)
theorem isU.len {v : AV} {l : List Nat} (h : isU v l) : lenWp (some v) H K = K (.int .i64 (l.length : Int)) H [] := by
  rcases h with ⟨rfl, rfl⟩ | ⟨ex, rfl⟩
  · rfl
  · rw [lenWp_lst, us_length]
theorem isU.frz {v : AV} {l : List Nat} (h : isU v l) {d : Nat} : frz (d + 1) bar H v = some (v, H) := by
  rcases h with ⟨rfl, rfl⟩ | ⟨ex, rfl⟩ <;> rfl
theorem isU.top {v : AV} {l : List Nat} (h : isU v l) : v.top = 0 := by
  rcases h with ⟨rfl, rfl⟩ | ⟨ex, rfl⟩
  · rfl
  · exact us_tops
theorem isU.isTup {v : AV} {l : List Nat} (h : isU v l) : v.isTup = false := by
  rcases h with ⟨rfl, rfl⟩ | ⟨ex, rfl⟩ <;> rfl
theorem isU.cells {v : AV} {l : List Nat} (h : isU v l) : v.cells = [v] := by
  rcases h with ⟨rfl, rfl⟩ | ⟨ex, rfl⟩ <;> rfl
theorem isU.noVec {v : AV} {l : List Nat} (h : isU v l) : v.noVec = true := by
  rcases h with ⟨rfl, rfl⟩ | ⟨ex, rfl⟩ <;> rfl
theorem isU.ix {v : AV} {l : List Nat} (h : isU v l) {k : IntKind} {i : Nat} (hi : i < l.length) : ixaSWp 1 (some v) (some (.int k (i : Int))) H K = K (.fp (.int .u64 ((l[i] : Nat) : Int))) H [] := by
  rcases h with ⟨rfl, rfl⟩ | ⟨ex, rfl⟩
  · simp at hi
  · rw [ixaSWp_lst]
    simp only [Int.toNat_natCast]
    rw [show (us l)[i]? = some (.int .u64 ((l[i] : Nat) : Int)) by simp [us, List.getElem?_eq_getElem hi]]
    simp [valWp_some]
theorem outL_us {l : List Nat} : outL 1 (us l) = if l = [] then .nils else .lst 1 false (us l) := by
  unfold outL
  by_cases h : l = []
  · subst h; rfl
  · rw [if_neg (by simpa [us] using h), if_neg h, Nat.div_one, chunks_one]
theorem isU.out {l : List Nat} : isU (outL 1 (us l)) l := by
  rw [outL_us]
  split
  · rename_i h; exact .inl ⟨rfl, h⟩
  · exact .inr ⟨_, rfl⟩
theorem gus {H : Heap} {base bar bytes : Nat} {S : List Nat} {H0 : Heap} {v : AV} {ex : Bool} {x : Nat} {K : AV → Heap → List Nat → Prop} (g : Grow 1 (us S) H0 v H) (hb : bar ≤ H0.length) (hbase : base ≤ H0.length)
    (hlen : (S.length + 1) * bytes ≤ 140737488355328)
    (h : ∀ v' H' tc, Grow 1 (us (S ++ [x])) H0 v' H' → K v' H' tc) : appWp base bar 1 bytes (some v) (some (.lst 1 ex [.int .u64 (x : Int)])) H K := by
  refine g.app (by omega) (Nat.one_dvd _) (fun c hc => ?_) (Nat.one_dvd _) hb hbase ?_ fun v' H' tc g' => h v' H' tc ?_
  · simp [AV.cells] at hc; subst hc; exact Plain.int
  · simpa [us_length, AV.cells] using hlen
  · simpa [us_append, us, AV.cells] using g'
theorem goutU {H : Heap} {base bar : Nat} {S : List Nat} {H0 : Heap} {v : AV} {K : AV → Heap → Prop} {vs : List AV} (hp : ∀ c ∈ vs, Plain c) (ht : AV.top.tops vs = 0) (g : Grow 1 (us S) H0 v H) (hb : bar ≤ H0.length) (hbase : base ≤ H0.length)
    (h : K (tupled (outL 1 (us S) :: vs)) (H0.take base)) : outWp (leave 0 base bar (v :: vs) H) K := by
  obtain ⟨H', h1, h2, h3, h4⟩ := g.frz (d := 5) (bar := bar) (by omega) (Nat.one_dvd _) us_plain hb
  have e : leave 0 base bar (v :: vs) H = some (tupled (outL 1 (us S) :: vs), H0.take base) := by
    refine (leave0_of (vs' := outL 1 (us S) :: vs) (H' := H') ?_ ?_).trans ?_
    · have h5 : frzsW (frz 8 bar) H' vs = some (vs, H') := frzsW_id fun x hx => hp x hx _ _ _
      simp only [frzAll, frz.frzs, frzsW, h1]
      rw [h5]
    · rw [tops_cons, ht, isU.top isU.out]; simp
    · rw [show H'.take base = (H'.take H0.length).take base by rw [List.take_take, Nat.min_eq_left hbase], h4]
  rw [e]; exact h
/-- freezing, with the slot as it was -/
theorem gfrz {sz : Nat} {cells : List AV} {H0 : Heap} {v : AV} (g : Grow sz cells H0 v H) (hsz : 0 < sz) (hc : sz ∣ cells.length) (hp : ∀ c ∈ cells, Plain c) (hb : bar ≤ H0.length) :
    ∃ H', frz 8 bar H v = some (outL sz cells, H') ∧ Grow sz cells H0 v H' ∧ H'.length = H.length := by
  obtain ⟨H', h1, h2, h3, h4⟩ := g.frz (d := 5) (bar := bar) hsz hc hp hb
  refine ⟨H', h1, ?_, h3⟩
  by_cases he : cells = []
  · rw [if_pos he] at h2
    rcases g with ⟨_, rfl, _⟩ | ⟨_, _, hne, _⟩
    · exact h2
    · exact (hne he).elim
  · rwa [if_neg he] at h2
/-! 93: a list of words has one -/
theorem l110 {v : AV} {l : List Nat} {x : Nat} (hv : isU v l) (hl : l.length < 1000000) {R : PQ} : ∀ (k i : Nat), i + k = l.length →
    ((l.drop i).contains x = false → R (.exit 0) [(0, v), (1, .int .u64 (x : Nat)), (7, .int .i64 (l.length : Nat)), (8, .int .i64 (l.length : Nat)), (9, .bool false)] H) →
    ((l.drop i).contains x = true → ∀ j : Nat, R .ret [(4, .int .i64 (j : Nat))] H) →
    Wp E base bar (.loop c110_l0) [(0, v), (1, .int .u64 (x : Nat)), (7, .int .i64 (l.length : Nat)), (8, .int .i64 (i : Nat))] H R := by
  intro k
  induction k with
  | zero =>
    intro i hi h1 h2
    obtain rfl : i = l.length := by omega
    rw [List.drop_length] at h1
    rw [wp_round c110_l0.eq_1]
    simp [go_sem]
    exact h1 rfl
  | succ k ih =>
    intro i hi h1 h2
    have hlt : i < l.length := by omega
    rw [List.drop_eq_getElem_cons hlt, List.contains_cons] at h1 h2
    have hix := fun (K : AV → Heap → List Nat → Prop) (k : IntKind) => hv.ix (H := H) (K := K) (k := k) hlt
    generalize l[i] = y at *
    rw [wp_round c110_l0.eq_1]
    by_cases hx : x = y
    · subst hx
      have := h2 (by simp) i
      simp [go_sem, hlt, hix]
      exact this
    · have hb : (x == y) = false := by simpa using hx
      rw [hb] at h1 h2
      simp only [Bool.false_or] at h1 h2
      have next := ih (i + 1) (by omega) h1 h2
      simp [go_sem, hlt, hix, hx, natEq, i64_suc (show i < 1000000 by omega)]
      exact next
theorem k110 {v : AV} {l : List Nat} {x : Nat} (hv : isU v l) (hl : l.length < 1000000) (h1 : l.contains x = false → Q (.int .i64 (-1)) H) (h2 : l.contains x = true → ∀ j : Nat, Q (.int .i64 (j : Nat)) H) : WpCall E pure base bar 110 [v, .int .u64 (x : Nat)] H Q := by
  rw [call110]
  simp [go_sem, WpFun, c110, hv.frz, hv.len]
  refine l110 hv hl l.length 0 (by omega) (fun hc => ?_) (fun hc j => ?_)
  · rw [List.drop_zero] at hc
    simp [go_sem]
    exact h1 hc
  · rw [List.drop_zero] at hc
    simp [go_sem]
    exact h2 hc j
theorem k93g {v : AV} {l : List Nat} {x : Nat} {H0 : Heap} (g : Grow 1 (us l) H0 v H) (hb : bar ≤ H0.length) (hl : l.length < 1000000) (h : ∀ H2, Grow 1 (us l) H0 v H2 → H2.length = H.length → Q (.bool (l.contains x)) H2) : WpCall E pure base bar 93 [v, .int .u64 (x : Nat)] H Q := by
  obtain ⟨H2, f1, f2, f3⟩ := gfrz (bar := bar) g (by decide) (Nat.one_dvd _) us_plain hb
  have hu : isU (outL 1 (us l)) l := isU.out
  have h := h H2 f2 f3
  rw [call93]
  simp [go_sem, WpFun, c93, f1]
  generalize outL 1 (us l) = w at *
  refine k110 hu hl (fun hc => ?_) (fun hc j => ?_)
  all_goals
    rw [hc] at h
    simp [go_sem]
    exact h
theorem k93 {v : AV} {l : List Nat} {x : Nat} (hu : isU v l) (hl : l.length < 1000000) (h : Q (.bool (l.contains x)) H) : WpCall E pure base bar 93 [v, .int .u64 (x : Nat)] H Q := by
  rw [call93]
  simp [go_sem, WpFun, c93, hu.frz]
  refine k110 hu hl (fun hc => ?_) (fun hc j => ?_)
  all_goals
    rw [hc] at h
    simp [go_sem]
    exact h
end Go.Proofs.YtbkhffakhggdaaaDoor.Code
end
section
namespace Go.Proofs.YtbkhffakhggdaaaDoor.Code
open Go Go.Ab
variable {pure : Bool} {base bar : Nat} {H : Heap} {Q : AV → Heap → Prop} {K : AV → Heap → List Nat → Prop}
/-! lists of lists -/
def allV : List AV → List (List Int) → Prop
  | [], [] => True
  | v :: vs, l :: ls => isV v l ∧ allV vs ls
  | _, _ => False
theorem allV.length : ∀ {vs : List AV} {ls : List (List Int)}, allV vs ls → vs.length = ls.length
  | [], [], _ => rfl
  | v :: vs, l :: ls, h => by simp [allV.length h.2]
  | [], _ :: _, h => h.elim
  | _ :: _, [], h => h.elim
theorem allV.get : ∀ {vs : List AV} {ls : List (List Int)}, allV vs ls → ∀ {i : Nat} (hi : i < ls.length), ∃ v, vs[i]? = some v ∧ isV v ls[i]
  | [], [], _, _, hi => by simp at hi
  | v :: vs, l :: ls, h, 0, _ => ⟨v, rfl, h.1⟩
  | v :: vs, l :: ls, h, i + 1, hi => by
    obtain ⟨u, h1, h2⟩ := allV.get h.2 (i := i) (by simpa using hi)
    exact ⟨u, by simpa using h1, h2⟩
  | [], _ :: _, h, _, _ => h.elim
  | _ :: _, [], h, _, _ => h.elim
theorem allV.tops : ∀ {vs : List AV} {ls : List (List Int)}, allV vs ls → AV.top.tops vs = 0
  | [], [], _ => rfl
  | v :: vs, l :: ls, h => by rw [tops_cons, h.1.top, allV.tops h.2]; rfl
  | [], _ :: _, h => h.elim
  | _ :: _, [], h => h.elim
def isVV (q : AV) (ls : List (List Int)) : Prop := (q = .nils ∧ ls = []) ∨ ∃ ex vs, q = .lst 1 ex vs ∧ allV vs ls
theorem isVV.len {v : AV} {l : List (List Int)} (h : isVV v l) : lenWp (some v) H K = K (.int .i64 (l.length : Int)) H [] := by
  rcases h with ⟨rfl, rfl⟩ | ⟨ex, vs, rfl, h⟩
  · rfl
  · rw [lenWp_lst, h.length]
theorem isVV.frz {v : AV} {l : List (List Int)} (h : isVV v l) {d : Nat} : frz (d + 1) bar H v = some (v, H) := by
  rcases h with ⟨rfl, rfl⟩ | ⟨ex, vs, rfl, h⟩ <;> rfl
theorem isVV.isTup {v : AV} {l : List (List Int)} (h : isVV v l) : v.isTup = false := by
  rcases h with ⟨rfl, rfl⟩ | ⟨ex, vs, rfl, h⟩ <;> rfl
theorem isVV.cells {v : AV} {l : List (List Int)} (h : isVV v l) : v.cells = [v] := by
  rcases h with ⟨rfl, rfl⟩ | ⟨ex, vs, rfl, h⟩ <;> rfl
theorem isVV.noVec {v : AV} {l : List (List Int)} (h : isVV v l) : v.noVec = true := by
  rcases h with ⟨rfl, rfl⟩ | ⟨ex, vs, rfl, h⟩ <;> rfl
theorem isVV.top {v : AV} {l : List (List Int)} (h : isVV v l) : v.top = 0 := by
  rcases h with ⟨rfl, rfl⟩ | ⟨ex, vs, rfl, h⟩
  · rfl
  · exact h.tops
theorem isVV.ix {q : AV} {ls : List (List Int)} (h : isVV q ls) {i : Nat} (hi : i < ls.length) : ∃ v, isV v ls[i] ∧ ∀ (H : Heap) (K : AV → Heap → List Nat → Prop) (k : IntKind), ixaSWp 1 (some q) (some (.int k (i : Int))) H K = K (.fp v) H [] := by
  rcases h with ⟨rfl, rfl⟩ | ⟨ex, vs, rfl, h⟩
  · simp at hi
  · obtain ⟨v, h1, h2⟩ := h.get hi
    refine ⟨v, h2, fun H K k => ?_⟩
    rw [ixaSWp_lst]
    simp only [Int.toNat_natCast]
    rw [h1]
    simp [valWp_some]
/-! 68: a shelf is opened -/
def opS (n : Int) : List Nat → List (List Int) → Int × List Nat
  | done, [] => (0, done)
  | done, l :: r => if errT n (-1) l ≠ 0 then (errT n (-1) l, []) else if done.contains (orT 0 l) then (6, []) else opS n (done ++ [orT 0 l]) r
theorem l68 {id ver fz : Nat} {ex : Bool} {n : Nat} {q w : AV} {ls : List (List Int)} {H0 : Heap} (h1 : 1 ≤ n) (hn : n ≤ 6) (hq : isVV q ls) (hl : ls.length < 1000) (hll : ∀ l ∈ ls, l.length < 1000) (hid : H0[id]? = some (.row ver [.int .i64 (n : Int), w] fz ex))
    (hb : bar ≤ H0.length) (hbase : base ≤ H0.length) {R : PQ} : ∀ (k i : Nat) (done : List Nat) (v4 : AV) (H : Heap), i + k = ls.length → done.length ≤ i → Grow 1 (us done) H0 v4 H →
    (∀ e H', (opS n done (ls.drop i)).1 = e → e ≠ 0 → H'.take H0.length = H0 → R .ret [(2, .nils), (3, .int .i64 e)] H') →
    (∀ v' H', (opS n done (ls.drop i)).1 = 0 → Grow 1 (us (opS n done (ls.drop i)).2) H0 v' H' → R (.exit 0) [(1, .ptr id ver 0), (4, v'), (14, q), (15, .int .i64 (ls.length : Nat)), (16, .int .i64 (ls.length : Nat)), (17, .bool false)] H') →
    Wp E base bar (.loop c68_l0) [(1, .ptr id ver 0), (4, v4), (14, q), (15, .int .i64 (ls.length : Nat)), (16, .int .i64 (i : Nat))] H R := by
  have htk : ∀ {cells : List AV} {v : AV} {H : Heap}, Grow 1 cells H0 v H → H.take H0.length = H0 := fun g => by
    rcases g with ⟨_, _, rfl⟩ | ⟨_, _, _, _, _, rfl⟩
    · exact List.take_length
    · simp
  intro k
  induction k with
  | zero =>
    intro i done v4 H hi hd g h1' h2'
    obtain rfl : i = ls.length := by omega
    rw [List.drop_length] at h2'
    rw [wp_round c68_l0.eq_1]
    simp [go_sem]
    exact h2' _ _ rfl g
  | succ k ih =>
    intro i done v4 H hi hd g h1' h2'
    have hlt : i < ls.length := by omega
    rw [List.drop_eq_getElem_cons hlt] at h1' h2'
    obtain ⟨v, hv, hix⟩ := hq.ix hlt
    have hvl := hll _ (List.getElem_mem hlt)
    generalize ls[i] = l at *
    have ld : aload H ⟨false, 1⟩ (.ptr id ver 0) = some (.int .i64 (n : Int)) := by rw [aload_ptr (g.get hid)]; rfl
    simp only [opS] at h1' h2'
    have hs := i64_suc (show i < 1000000 by omega)
    rw [wp_round c68_l0.eq_1]
    simp [go_sem, hlt, hix, hv.fp, ld]
    refine k102 hn hv hvl (fun he => ?_) (fun he => ?_)
    · rw [if_pos he] at h1'
      have := h1' _ _ rfl he (htk g)
      simp [go_sem, he]
      exact this
    · rw [if_neg (by simpa using he)] at h1' h2'
      simp [go_sem]
      refine k93g g hb (by omega) fun H2 g2 hl2 => ?_
      cases hc : done.contains (orT 0 l)
      · rw [hc] at h1' h2'
        simp only [Bool.false_eq_true, if_false] at h1' h2'
        simp [go_sem, aop, fillA, setCells, chunks, AV.noVec.noVecs, AV.noVec]
        rw [wpop_app]
        simp [Opd.ev, go_sem]
        refine gus g2 hb hbase (by omega) fun v' H' tc g' => ?_
        have next := ih (i + 1) (done ++ [orT 0 l]) v' H' (by omega) (by simp; omega) g' h1' h2'
        simp [go_sem, hs]
        exact next
      · rw [hc] at h1'
        have := h1' 6 H2 rfl (by decide) (htk g2)
        simp [go_sem]
        exact this
theorem k68 {n : Nat} {q : AV} {ls : List (List Int)} (h1 : 1 ≤ n) (hn : n ≤ 6) (hq : isVV q ls) (hl : ls.length < 1000) (hll : ∀ l ∈ ls, l.length < 1000) (hbar : bar ≤ H.length)
    (he : (opS n [] ls).1 ≠ 0 → Q (.tup [.nils, .int .i64 (opS n [] ls).1]) H)
    (h0 : (opS n [] ls).1 = 0 → Q (.tup [outL 1 (us (opS n [] ls).2), .int .i64 0]) H) : WpCall E pure base bar 68 [.agg [.int .i64 (n : Int), q]] H Q := by
  have hb : (decide (1 ≤ (n : Int)) && decide ((n : Int) ≤ 6)) = true := by
    rw [Bool.and_eq_true, decide_eq_true_eq, decide_eq_true_eq]; omega
  rw [call68]
  simp [go_sem, WpFun, c68, hq.frz, box0]
  refine k79 ?_
  rw [hb]
  simp [go_sem, box1, hq.len]
  refine l68 (H0 := H ++ [.row 0 [.int .i64 (n : Int), q] 0 true]) h1 hn hq hl hll (own_get0 (l := [.row 0 [.int .i64 (n : Int), q] 0 true]) |>.trans rfl) (by cases pure <;> simp <;> omega) (by simp) ls.length 0 [] .nils _ (by omega) (by simp) (by exact Grow.nil) (fun e H' he1 hne htk => ?_) (fun v' H' he1 g => ?_)
  · rw [List.drop_zero] at he1
    have hh : H'.take H.length = H := by
      have : H'.take H.length = (H'.take (H.length + 1)).take H.length := by rw [List.take_take, Nat.min_eq_left (by omega)]
      rw [this]
      rw [List.length_append, List.length_singleton] at htk
      rw [htk]; simp
    have := he (by rw [he1]; exact hne)
    rw [he1] at this
    simp [go_sem, hh]
    exact this
  · rw [List.drop_zero] at he1 g
    have := h0 he1
    simp [go_sem]
    refine goutU (vs := [.int .i64 0]) (fun c hc => by simp at hc; subst hc; exact Plain.int) rfl g (by cases pure <;> simp <;> omega) (by simp) ?_
    simp
    exact this
theorem k68o {n : Int} {q : AV} (hn : ¬ (1 ≤ n ∧ n ≤ 6)) (hq : ∀ (d bar : Nat) (H : Heap), frz (d + 1) bar H q = some (q, H)) (hc : q.cells = [q]) (h1 : Q (.tup [.nils, .int .i64 1]) H) : WpCall E pure base bar 68 [.agg [.int .i64 n, q]] H Q := by
  have hb : (decide (1 ≤ n) && decide (n ≤ 6)) = false := by
    rw [← Bool.not_eq_true, Bool.and_eq_true, decide_eq_true_eq, decide_eq_true_eq]; exact hn
  rw [call68]
  simp [go_sem, WpFun, c68, hq, hc, box0]
  refine k79 ?_
  rw [hb]
  simp [go_sem]
  exact h1
end Go.Proofs.YtbkhffakhggdaaaDoor.Code
end
section
namespace Go.Proofs.YtbkhffakhggdaaaDoor.Code
open Go Go.Ab
variable {pure : Bool} {base bar : Nat} {H : Heap} {Q : AV → Heap → Prop} {K : AV → Heap → List Nat → Prop}
/-! 91, 90: which set contains one -/
def ixP (a : Nat) : List Nat → Nat → Option Nat
  | [], _ => none
  | b :: r, k => if a ≠ b ∧ subB a b = true then some k else ixP a r (k + 1)
theorem k91 {id ver fz a b : Nat} {ex : Bool} (hid : H[id]? = some (.row ver [.int .u64 (a : Int)] fz ex)) (ha : a < 64) (hb : b < 64) (h : Q (.bool (decide (a ≠ b ∧ subB a b = true))) H) : WpCall E pure base bar 91 [.int .u64 (b : Int), .ptr id ver 0] H Q := by
  have hlt := (List.getElem?_eq_some_iff.1 hid).1
  have ld : aload H ⟨false, 1⟩ (.ptr id ver 0) = some (.int .u64 (a : Int)) := by rw [aload_ptr hid]; rfl
  have hz := cl6_zero ha hb
  rw [call91]
  by_cases hab : a = b
  · subst hab
    simp at h
    simp [go_sem, WpFun, c91, ld]
    exact h
  · have hab' : ¬ ((a : Int) = (b : Int)) := by omega
    cases hc : subB a b
    · rw [hc] at h hz
      simp at h
      have hz' : ¬ cl6 a b = 0 := fun e => by have := hz.1 e; cases this
      have hz2 : (((cl6 a b : Nat) : Int) == 0) = false := by simpa using hz'
      simp [go_sem, WpFun, c91, ld, hab', cl6_u ha hb, hz2]
      exact h
    · rw [hc] at h hz
      simp [hab] at h
      simp [go_sem, WpFun, c91, ld, hab', cl6_u ha hb, hz.2 rfl]
      exact h
theorem l90 {id ver fz a : Nat} {ex : Bool} {v : AV} {S : List Nat} (hv : isU v S) (hS : ∀ x ∈ S, x < 64) (hl : S.length < 1000000) (ha : a < 64) (hid : H[id]? = some (.row ver [.int .u64 (a : Int)] fz ex)) {R : PQ} : ∀ (c k : Nat), k + c = S.length →
    (ixP a (S.drop k) k = none → R (.exit 0) [(0, v), (1, .fn 91 [] [.ptr id ver 0]), (7, .int .i64 (S.length : Nat)), (8, .int .i64 (S.length : Nat)), (9, .bool false)] H) →
    (∀ j : Nat, ixP a (S.drop k) k = some j → R .ret [(4, .int .i64 (j : Nat))] H) →
    Wp E base bar (.loop c90_l0) [(0, v), (1, .fn 91 [] [.ptr id ver 0]), (7, .int .i64 (S.length : Nat)), (8, .int .i64 (k : Nat))] H R := by
  intro c
  induction c with
  | zero =>
    intro k hk h1 h2
    obtain rfl : k = S.length := by omega
    rw [List.drop_length] at h1
    rw [wp_round c90_l0.eq_1]
    simp [go_sem]
    exact h1 rfl
  | succ c ih =>
    intro k hk h1 h2
    have hlt : k < S.length := by omega
    rw [List.drop_eq_getElem_cons hlt] at h1 h2
    have hb := hS _ (List.getElem_mem hlt)
    have hix := fun (K : AV → Heap → List Nat → Prop) (q : IntKind) => hv.ix (H := H) (K := K) (k := q) hlt
    generalize S[k] = b at *
    simp only [ixP] at h1 h2
    rw [wp_round c90_l0.eq_1]
    simp [go_sem, hlt, hix]
    refine k91 hid ha hb ?_
    by_cases hc : a ≠ b ∧ subB a b = true
    · rw [if_pos hc] at h2
      have := h2 k rfl
      simp [go_sem, hc]
      exact this
    · rw [if_neg hc] at h1 h2
      have next := ih (k + 1) (by omega) h1 h2
      rw [decide_eq_false hc]
      simp [go_sem, i64_suc (show k < 1000000 by omega)]
      exact next
theorem k90 {id ver fz a : Nat} {ex : Bool} {v : AV} {S : List Nat} (hv : isU v S) (hS : ∀ x ∈ S, x < 64) (hl : S.length < 1000000) (ha : a < 64) (hid : H[id]? = some (.row ver [.int .u64 (a : Int)] fz ex))
    (h1 : ixP a S 0 = none → Q (.int .i64 (-1)) H) (h2 : ∀ j : Nat, ixP a S 0 = some j → Q (.int .i64 (j : Nat)) H) : WpCall E pure base bar 90 [v, .fn 91 [] [.ptr id ver 0]] H Q := by
  rw [call90]
  simp [go_sem, WpFun, c90, hv.frz, hv.len]
  refine l90 hv hS hl ha hid S.length 0 (by omega) (fun hc => ?_) (fun j hc => ?_)
  · rw [List.drop_zero] at hc
    simp [go_sem]
    exact h1 hc
  · rw [List.drop_zero] at hc
    simp [go_sem]
    exact h2 j hc
/-! 37: two trays, one inside the other -/
def conS (S : List Nat) : List Nat → Nat → Option (Nat × Nat)
  | [], _ => none
  | a :: r, i => match ixP a S 0 with
    | some k => some (i, k)
    | none => conS S r (i + 1)
theorem l37 {v : AV} {S : List Nat} (hv : isU v S) (hS : ∀ x ∈ S, x < 64) (hl : S.length < 1000000) (hb : bar ≤ H.length) {R : PQ} : ∀ (c i : Nat), i + c = S.length →
    (conS S (S.drop i) i = none → R (.exit 0) [(5, v), (17, v), (18, .int .i64 (S.length : Nat)), (19, .int .i64 (S.length : Nat)), (20, .bool false)] H) →
    (∀ p : Nat × Nat, conS S (S.drop i) i = some p → ∀ H', H'.take H.length = H → R .ret [(2, .int .i64 (p.1 : Nat)), (3, .int .i64 (p.2 : Nat)), (4, .int .i64 0)] H') →
    Wp E base bar (.loop c37_l0) [(5, v), (17, v), (18, .int .i64 (S.length : Nat)), (19, .int .i64 (i : Nat))] H R := by
  intro c
  induction c with
  | zero =>
    intro i hi h1 h2
    obtain rfl : i = S.length := by omega
    rw [List.drop_length] at h1
    rw [wp_round c37_l0.eq_1]
    simp [go_sem]
    exact h1 rfl
  | succ c ih =>
    intro i hi h1 h2
    have hlt : i < S.length := by omega
    rw [List.drop_eq_getElem_cons hlt] at h1 h2
    have ha := hS _ (List.getElem_mem hlt)
    have hix := fun (K : AV → Heap → List Nat → Prop) (q : IntKind) => hv.ix (H := H) (K := K) (k := q) hlt
    have hix' := fun (b : Blk) (K : AV → Heap → List Nat → Prop) (q : IntKind) => hv.ix (H := H ++ [b]) (K := K) (k := q) hlt
    generalize S[i] = a at *
    simp only [conS] at h1 h2
    rw [wp_round c37_l0.eq_1]
    simp [go_sem, hlt, hix, hix', storeWp_ptr, storeWp, astore, setCells, own_set0, hb]
    refine k90 (id := H.length) (ver := 0) (fz := 0) (ex := true) hv hS hl ha (own_get0 (l := [.row 0 [.int .u64 (a : Int)] 0 true]) |>.trans rfl) (fun hc => ?_) (fun j hc => ?_)
    · rw [hc] at h1 h2
      have next := ih (i + 1) (by omega) h1 h2
      simp [go_sem, i64_suc (show i < 1000000 by omega), hv.top]
      exact next
    · rw [hc] at h2
      have := h2 _ rfl
      simp [go_sem]
      exact this _ (by simp)
end Go.Proofs.YtbkhffakhggdaaaDoor.Code
end
section
namespace Go.Proofs.YtbkhffakhggdaaaDoor.Code
open Go Go.Ab
variable {pure : Bool} {base bar : Nat} {H : Heap} {Q : AV → Heap → Prop} {K : AV → Heap → List Nat → Prop}
theorem opS_lt {n : Nat} (h1 : 1 ≤ n) (hn : n ≤ 6) : ∀ {ls : List (List Int)} {done : List Nat}, (∀ x ∈ done, x < pw n) → (opS n done ls).1 = 0 → (∀ x ∈ (opS n done ls).2, x < pw n)
  | [], done, hd, _ => hd
  | l :: r, done, hd, h => by
    simp only [opS] at h ⊢
    by_cases he : errT n (-1) l = 0
    · rw [if_neg (by simpa using he)] at h ⊢
      cases hc : done.contains (orT 0 l)
      · rw [hc] at h
        simp only [Bool.false_eq_true, if_false] at h ⊢
        exact opS_lt h1 hn (fun x hx => by
          rcases List.mem_append.1 hx with hx | hx
          · exact hd x hx
          · simp at hx; subst hx; exact (dyL_of h1 hn he).1) h
      · rw [hc] at h; simp at h
    · rw [if_pos he] at h; exact (he h).elim
theorem pw6 {n x : Nat} (hn : n ≤ 6) (h : x < pw n) : x < 64 := Nat.lt_of_lt_of_le h (Nat.le_trans (Nat.pow_le_pow_right (by decide) hn) (by decide : 2 ^ 6 ≤ 64))
theorem opS_len {n : Int} : ∀ {ls : List (List Int)} {done : List Nat}, (opS n done ls).2.length ≤ done.length + ls.length
  | [], done => by simp [opS]
  | l :: r, done => by
    simp only [opS]
    split
    · simp
    · split
      · simp
      · have := opS_len (n := n) (ls := r) (done := done ++ [orT 0 l])
        simp at this ⊢; omega
theorem k37 {n : Nat} {q : AV} {ls : List (List Int)} (h1 : 1 ≤ n) (hn : n ≤ 6) (hq : isVV q ls) (hl : ls.length < 1000) (hll : ∀ l ∈ ls, l.length < 1000) (hbar : bar ≤ H.length)
    (he : (opS n [] ls).1 ≠ 0 → Q (.tup [.int .i64 0, .int .i64 0, .int .i64 (opS n [] ls).1]) H)
    (h0 : (opS n [] ls).1 = 0 → conS (opS n [] ls).2 (opS n [] ls).2 0 = none → Q (.tup [.int .i64 0, .int .i64 0, .int .i64 12]) H)
    (hp : ∀ p : Nat × Nat, (opS n [] ls).1 = 0 → conS (opS n [] ls).2 (opS n [] ls).2 0 = some p → Q (.tup [.int .i64 (p.1 : Nat), .int .i64 (p.2 : Nat), .int .i64 0]) H) : WpCall E pure base bar 37 [.agg [.int .i64 (n : Int), q]] H Q := by
  have hlt := fun h => opS_lt h1 hn (ls := ls) (done := []) (by simp) h
  have hlen := opS_len (n := n) (ls := ls) (done := [])
  have hbp : (if pure = true then H.length else bar) ≤ H.length := by cases pure <;> simp <;> omega
  rw [call37]
  simp [go_sem, WpFun, c37, hq.frz, box2]
  refine k68 h1 hn hq hl hll (by cases pure <;> simp <;> omega) (fun e => ?_) (fun e => ?_)
  · have := he e
    simp [go_sem, e]
    exact this
  · have hu : isU (outL 1 (us (opS n [] ls).2)) (opS n [] ls).2 := isU.out
    generalize outL 1 (us (opS n [] ls).2) = w at *
    generalize hS : (opS n [] ls).2 = S at *
    have h0 := h0 e
    have hp := fun p => hp p e
    simp [go_sem, hu.len]
    refine l37 hu (fun x hx => pw6 hn (hlt e x hx)) (by simp at hlen; omega) (by simp; omega) S.length 0 (by omega) (fun hc => ?_) (fun p hc H' ht => ?_)
    · rw [List.drop_zero] at hc
      simp [go_sem]
      exact h0 hc
    · rw [List.drop_zero] at hc
      have hh : H'.take H.length = H := by
        have : H'.take H.length = (H'.take (H.length + 1)).take H.length := by rw [List.take_take, Nat.min_eq_left (by omega)]
        rw [this]
        rw [List.length_append, List.length_singleton] at ht
        rw [ht]; simp
      simp [go_sem, hh]
      exact hp p hc
end Go.Proofs.YtbkhffakhggdaaaDoor.Code
end
section
namespace Go.Proofs.YtbkhffakhggdaaaDoor.Code
open Go Go.Ab
variable {pure : Bool} {base bar : Nat} {H : Heap} {Q : AV → Heap → Prop} {K : AV → Heap → List Nat → Prop}
/-! 52: a drawer's sets -/
def isB (v : AV) (l : List Nat) : Prop := ((v = .nils ∧ l = []) ∨ ∃ ex, v = .lst 1 ex (l.map fun (x : Nat) => .int .u8 (x : Int))) ∧ ∀ x ∈ l, x < 256
theorem isB.len {v : AV} {l : List Nat} (h : isB v l) : lenWp (some v) H K = K (.int .i64 (l.length : Int)) H [] := by
  rcases h.1 with ⟨rfl, rfl⟩ | ⟨ex, rfl⟩
  · rfl
  · rw [lenWp_lst]; simp
theorem isB.frz {v : AV} {l : List Nat} (h : isB v l) {d : Nat} : frz (d + 1) bar H v = some (v, H) := by
  rcases h.1 with ⟨rfl, rfl⟩ | ⟨ex, rfl⟩ <;> rfl
theorem isB.cells {v : AV} {l : List Nat} (h : isB v l) : v.cells = [v] := by
  rcases h.1 with ⟨rfl, rfl⟩ | ⟨ex, rfl⟩ <;> rfl
theorem isB.ix {v : AV} {l : List Nat} (h : isB v l) {k : IntKind} {i : Nat} (hi : i < l.length) : ixaSWp 1 (some v) (some (.int k (i : Int))) H K = K (.fp (.int .u8 ((l[i] : Nat) : Int))) H [] := by
  rcases h.1 with ⟨rfl, rfl⟩ | ⟨ex, rfl⟩
  · simp at hi
  · rw [ixaSWp_lst]
    simp only [Int.toNat_natCast]
    rw [show (l.map fun (x : Nat) => AV.int .u8 (x : Int))[i]? = some (.int .u8 ((l[i] : Nat) : Int)) by simp [List.getElem?_eq_getElem hi]]
    simp [valWp_some]
end Go.Proofs.YtbkhffakhggdaaaDoor.Code
end
section
namespace Go.Proofs.YtbkhffakhggdaaaDoor.Code
open Go Go.Ab
variable {pure : Bool} {base bar : Nat} {H : Heap} {Q : AV → Heap → Prop} {K : AV → Heap → List Nat → Prop}
end Go.Proofs.YtbkhffakhggdaaaDoor.Code
end
section
namespace Go.Proofs.YtbkhffakhggdaaaDoor.Code
open Go Go.Ab
variable {pure : Bool} {base bar : Nat} {H : Heap} {Q : AV → Heap → Prop} {K : AV → Heap → List Nat → Prop}
theorem take_same {k : Nat} {H H' : Heap} (h : ∀ j, j < k → H'[j]? = H[j]?) : H'.take k = H.take k := by
  apply List.ext_getElem?
  intro j
  rw [List.getElem?_take, List.getElem?_take]
  split
  · rename_i hj; exact h j hj
  · rfl
end Go.Proofs.YtbkhffakhggdaaaDoor.Code
end
end
section
set_option linter.all false
section
namespace Go.Proofs.YtbkhffakhggdaaaDoor.Code
open Go Go.Ab
variable {pure : Bool} {base bar : Nat} {H : Heap} {Q : AV → Heap → Prop} {K : AV → Heap → List Nat → Prop}
end Go.Proofs.YtbkhffakhggdaaaDoor.Code
end
section
namespace Go.Proofs.YtbkhffakhggdaaaDoor.Code
open Go Go.Ab
variable {pure : Bool} {base bar : Nat} {H : Heap} {Q : AV → Heap → Prop} {K : AV → Heap → List Nat → Prop}
end Go.Proofs.YtbkhffakhggdaaaDoor.Code
end
section
namespace Go.Proofs.YtbkhffakhggdaaaDoor.Code
open Go Go.Ab Go.RowKit Go.ChangeShapes Go.WideShapes
variable {H : Type} {enc : TypeId × Value → H} {P : Program} {W : World} {spare : Nat → Bool} {held : Bool}
end Go.Proofs.YtbkhffakhggdaaaDoor.Code
end
end
section
set_option linter.all false
section
namespace Go.Proofs.YtbkhffakhggdaaaDoor.Code
open Go Go.Ab
variable {pure : Bool} {base bar : Nat} {H : Heap} {Q : AV → Heap → Prop} {K : AV → Heap → List Nat → Prop}
/-! 116, 106, 77: the dyes of a set, by the lowest bit -/
def dyN (s : Nat) : List Nat := (List.range 6).filter fun i => s.testBit i
def tzS (s : Nat) : Nat := (dyN s).headD 0
def t64l : List AV := [(.int .u8 0), (.int .u8 1), (.int .u8 56), (.int .u8 2), (.int .u8 57), (.int .u8 49), (.int .u8 28), (.int .u8 3), (.int .u8 61), (.int .u8 58), (.int .u8 42), (.int .u8 50), (.int .u8 38), (.int .u8 29), (.int .u8 17), (.int .u8 4), (.int .u8 62), (.int .u8 47), (.int .u8 59), (.int .u8 36), (.int .u8 45), (.int .u8 43), (.int .u8 51), (.int .u8 22), (.int .u8 53), (.int .u8 39), (.int .u8 33), (.int .u8 30), (.int .u8 24), (.int .u8 18), (.int .u8 12), (.int .u8 5), (.int .u8 63), (.int .u8 55), (.int .u8 48), (.int .u8 27), (.int .u8 60), (.int .u8 41), (.int .u8 37), (.int .u8 16), (.int .u8 46), (.int .u8 35), (.int .u8 44), (.int .u8 21), (.int .u8 52), (.int .u8 32), (.int .u8 23), (.int .u8 11), (.int .u8 54), (.int .u8 26), (.int .u8 40), (.int .u8 15), (.int .u8 34), (.int .u8 20), (.int .u8 31), (.int .u8 10), (.int .u8 25), (.int .u8 14), (.int .u8 19), (.int .u8 9), (.int .u8 13), (.int .u8 8), (.int .u8 7), (.int .u8 6)]
def t64 : AV := .agg t64l
def q116 (s : Nat) : Option AV := (aun .neg (.int .u64 (s : Int))).bind fun a => (abin .and (.int .u64 (s : Int)) a).bind fun b => (abin .mul b (.int .u64 285870213051353865)).bind fun c => abin .shr c (.int .u64 58)
def w116 (z : Nat) : Nat := (2 ^ z * 285870213051353865 % 18446744073709551616) / 288230376151711744
def kk116 (s : Nat) : Bool := okJ .u64 (q116 s) (w116 (tzS s)) && Nat.blt (tzS s) 6 && Nat.blt (w116 (tzS s)) 64
theorem kk116_all : (List.range' 1 63).all kk116 = true := by kernel_rfl
theorem t64_get {z : Nat} (hz : z < 6) : t64l[w116 z]? = some (.int .u8 (z : Int)) := by
  have : z = 0 ∨ z = 1 ∨ z = 2 ∨ z = 3 ∨ z = 4 ∨ z = 5 := by omega
  rcases this with rfl | rfl | rfl | rfl | rfl | rfl <;> rfl
theorem c116_eq : c116 = (AFun.mk 14 [(.tmp 2)] 0 false (.seq (.reg [o 2 (.mv (.c (.int .i64 0)))] [0]) (.seq (.seq (.reg [o 3 (.mv (.t 0)), o 4 (.eq false .int (.t 3) (.c (.int .u64 0)))] [0, 4]) (.cond (.t 4) (.seq (.reg [o 2 (.mv (.c (.int .i64 64)))] [2]) .ret) .skip)) (.seq (.reg [o 5 (.mv (.t 0)), o 6 (.mv (.t 0)), o 7 (.un .neg (.t 6)), o 8 (.bin .and (.t 5) (.t 7)), o 9 (.bin .mul (.t 8) (.c (.int .u64 285870213051353865))), o 10 (.bin .shr (.t 9) (.c (.int .u64 58))), o 11 (.ixaA 64 (TI.mk false 1) (.c (.fp t64)) (.t 10)), o 12 (.load (TI.mk false 1) (.t 11)), o 13 (.conv .i64 (.t 12)), o 2 (.mv (.t 13))] [2]) .ret)))) := rfl
theorem ixa_t64 {k : IntKind} {i : Int} : ixaAWp 64 ⟨false, 1⟩ (some (.fp t64)) (some (.int k i)) H K = (0 ≤ i ∧ i.toNat < 64 ∧ valWp ((t64l[i.toNat * 1]?).map .fp) H K) := (rfl)
theorem ixa_get {k : IntKind} {w : Nat} {v : AV} (hw : w < 64) (hz : t64l[w]? = some v) : ixaAWp 64 ⟨false, 1⟩ (some (.fp t64)) (some (.int k (w : Int))) H K = K (.fp v) H [] := by
  rw [ixa_t64]
  have e : (t64l[(w : Int).toNat * 1]?).map AV.fp = some (.fp v) := by
    rw [Int.toNat_natCast, Nat.mul_one, hz]; rfl
  rw [e, valWp_some]
  have h1 : (0 : Int) ≤ (w : Int) := Int.natCast_nonneg _
  have h2 : (w : Int).toNat < 64 := by rw [Int.toNat_natCast]; exact hw
  exact propext ⟨fun h => h.2.2, fun h => ⟨h1, h2, h⟩⟩
theorem k116 {s : Nat} (h1 : 1 ≤ s) (h6 : s < 64) (h : Q (.int .i64 (tzS s : Nat)) H) : WpCall E pure base bar 116 [.int .u64 (s : Int)] H Q := by
  have hk : kk116 s = true := List.all_eq_true.1 kk116_all s (List.mem_range'_1.2 ⟨h1, by omega⟩)
  simp only [kk116, Bool.and_eq_true, Nat.blt_eq] at hk
  obtain ⟨⟨hq, htz⟩, hw64⟩ := hk
  have hq := okJ_u hq
  have hz := t64_get htz
  generalize w116 (tzS s) = w at *
  generalize tzS s = z at *
  simp only [q116, Option.bind_eq_some_iff] at hq
  obtain ⟨a, e1, b, e2, c, e3, e4⟩ := hq
  have hs0 : ¬ (s = 0) := by omega
  have ea : a = .int .u64 (IntKind.u64.wrap (-(s : Int))) := by
    rw [aun_neg] at e1
    simp at e1
    exact e1.symm
  subst ea
  rw [call116, c116_eq]
  simp [go_sem, WpFun, hs0, e2, e3, e4]
  rw [ixa_get hw64 hz]
  have ld : aload H ⟨false, 1⟩ (.fp (.int .u8 (z : Int))) = some (.int .u8 (z : Int)) := rfl
  simp [go_sem, ld]
  rw [i64_nat (by omega)]
  exact h
theorem k106 {s : Nat} (h1 : 1 ≤ s) (h6 : s < 64) (h : Q (.int .i64 (tzS s : Nat)) H) : WpCall E pure base bar 106 [.int .u64 (s : Int)] H Q := by
  rw [call106]
  simp [go_sem, WpFun, c106]
  refine k116 h1 h6 ?_
  simp [go_sem]
  exact h
end Go.Proofs.YtbkhffakhggdaaaDoor.Code
end
section
namespace Go.Proofs.YtbkhffakhggdaaaDoor.Code
open Go Go.Ab
variable {pure : Bool} {base bar : Nat} {H : Heap} {Q : AV → Heap → Prop} {K : AV → Heap → List Nat → Prop}
theorem dyN_step {s : Nat} (h1 : 1 ≤ s) (h6 : s < 64) : dyN s = tzS s :: dyN (Nat.land s (s - 1)) ∧ Nat.land s (s - 1) < s ∧ tzS s < 6 := by
  have : ∀ s, s < 64 → 1 ≤ s → dyN s = tzS s :: dyN (Nat.land s (s - 1)) ∧ Nat.land s (s - 1) < s ∧ tzS s < 6 := by decide +kernel
  exact this s h6 h1
theorem andl_a : ((List.range 64).all fun x => (List.range 64).all fun z => okJ .u64 (abin .and (.int .u64 (x : Int)) (.int .u64 (z : Int))) (Nat.land x z)) = true := by kernel_rfl
theorem andl_u {x z : Nat} (hx : x < 64) (hz : z < 64) : abin .and (.int .u64 (x : Int)) (.int .u64 (z : Int)) = some (.int .u64 ((Nat.land x z : Nat) : Int)) :=
  okJ_u (List.all_eq_true.1 (List.all_eq_true.1 andl_a x (List.mem_range.2 hx)) z (List.mem_range.2 hz))
theorem dyN_len {s : Nat} : (dyN s).length ≤ 6 := Nat.le_trans (List.length_filter_le _ _) (by simp)
theorem l77 {H0 : Heap} (hb : bar ≤ H0.length) (hbase : base ≤ H0.length) {R : PQ} : ∀ (f s : Nat) (acc : List Nat) (v : AV) (H : Heap), s < 64 → s ≤ f → acc.length + (dyN s).length ≤ 6 → Grow 1 (nats acc) H0 v H →
    (∀ v' H', Grow 1 (nats (acc ++ dyN s)) H0 v' H' → R (.exit 0) [(0, .int .u64 0), (3, v'), (5, .bool false)] H') →
    Wp E base bar (.loop c77_l0) [(0, .int .u64 (s : Int)), (3, v)] H R := by
  intro f
  induction f with
  | zero =>
    intro s acc v H hs hf hl g h
    obtain rfl : s = 0 := by omega
    rw [wp_round c77_l0.eq_1]
    simp [go_sem]
    exact h _ _ (by rw [show dyN 0 = [] from by decide, List.append_nil]; exact g)
  | succ f ih =>
    intro s acc v H hs hf hl g h
    by_cases h0 : s = 0
    · subst h0
      rw [wp_round c77_l0.eq_1]
      simp [go_sem]
      exact h _ _ (by rw [show dyN 0 = [] from by decide, List.append_nil]; exact g)
    · obtain ⟨e, hlt, htz⟩ := dyN_step (s := s) (by omega) hs
      have hw : IntKind.u64.wrap ((s : Int) - 1) = ((s - 1 : Nat) : Int) := by rw [show (s : Int) - 1 = ((s - 1 : Nat) : Int) by omega, u64n (by omega)]
      have ha := andl_u (x := s) (z := s - 1) hs (by omega)
      rw [e] at h hl
      rw [wp_round c77_l0.eq_1]
      simp [go_sem, h0]
      refine k106 (by omega) hs ?_
      simp [go_sem, aop, fillA, setCells, chunks, AV.noVec.noVecs, AV.noVec]
      rw [wpop_app]
      simp [Opd.ev, go_sem]
      refine g.nat hb hbase (by simp at hl; omega) fun v' H' tc g' => ?_
      have next := ih (Nat.land s (s - 1)) (acc ++ [tzS s]) v' H' (by omega) (by omega) (by simp at hl ⊢; omega) g' (by rw [List.append_assoc]; exact h)
      simp [go_sem, hw, ha]
      exact next
/-- the dyes of a set, as a list that is handed out -/
theorem k77 {s : Nat} (hs : s < 64) (hbar : bar ≤ H.length) (hbase : base ≤ H.length) (h : ∀ v H', Grow 1 (nats (dyN s)) H v H' → Q v H') : WpCall E false base bar 77 [.int .u64 (s : Int)] H Q := by
  rw [call77]
  simp [go_sem, WpFun, c77]
  refine l77 (H0 := H) hbar hbase s s [] .nils H hs (Nat.le_refl _) (by have := dyN_len (s := s); simpa using this) (by exact Grow.nil) fun v' H' g => ?_
  simp [go_sem]
  exact h v' H' (by simpa using g)
end Go.Proofs.YtbkhffakhggdaaaDoor.Code
end
section
namespace Go.Proofs.YtbkhffakhggdaaaDoor.Code
open Go Go.Ab
variable {pure : Bool} {base bar : Nat} {H : Heap} {Q : AV → Heap → Prop} {K : AV → Heap → List Nat → Prop}
/-! 39: how many orders pass a tray, by a table -/
/-- how many ways lead to a set past the shelf -/
def pS (S : List Nat) : Nat → Nat → Nat
  | 0 => fun u => if u = 0 then 1 else 0
  | t + 1 => upd (pS S t) t (if S.contains t then 0 else if t = 0 then 1 else ((dyN t).map fun x => pS S t (cl6 t (pw x))).sum)
/-- how many ways lead to each set -/
def aS : Nat → Nat → Nat
  | 0 => fun u => if u = 0 then 1 else 0
  | t + 1 => upd (aS t) t (if t = 0 then 1 else ((dyN t).map fun x => aS t (cl6 t (pw x))).sum)
theorem ix_vec' {id ver len i : Nat} {k : IntKind} {K : AV → Heap → List Nat → Prop} (hi : i < len) : ixaSWp 1 (some (.vec id ver 0 len 1)) (some (.int k (i : Int))) H K = K (.ptr id ver i) H [] := by
  simp [go_sem, hi]
theorem gix {l : List Nat} {H0 : Heap} {v : AV} {i : Nat} (g : Grow 1 (nats l) H0 v H) (hi : i < l.length) : ∃ p, (∀ (k : IntKind) (K : AV → Heap → List Nat → Prop), ixaSWp 1 (some v) (some (.int k (i : Int))) H K = K p H []) ∧ aload H ⟨false, 1⟩ p = some (.int .i64 ((l[i] : Nat) : Int)) := by
  rcases g with ⟨h1, _, _⟩ | ⟨ver, fz, _, _, rfl, rfl⟩
  · have : l = [] := by cases l with | nil => rfl | cons a b => simp [nats] at h1
    subst this; simp at hi
  · refine ⟨.ptr H0.length ver i, fun k K => ?_, ?_⟩
    · rw [nats_length, Nat.div_one]; exact ix_vec' hi
    · rw [aload_ptr (own_get0 (l := [.row ver (nats l) fz false]) |>.trans rfl)]
      simp [Ab.part, nats_get hi]
/-- the blocks of the tables -/
structure DPst (k n P : Nat) (q : AV) (A B : Nat → Nat) (H0 : Heap) : Prop where
  box : H0[k]? = some (.row 0 [.int .i64 (n : Int), q] 0 true)
  ra : H0[k + 1]? = some (.row 0 (fcells P A) 0 true)
  rb : H0[k + 2]? = some (.row 0 (fcells P B) 0 true)
def sumF (f : Nat → Nat) (t : Nat) (l : List Nat) : Nat := (l.map fun x => f (cl6 t (pw x))).sum
theorem dyN_mem {t x : Nat} (ht : t < 64) (hx : x ∈ dyN t) : x < 6 ∧ cl6 t (pw x) < t := by
  have : ∀ t, t < 64 → ∀ x ∈ dyN t, x < 6 ∧ cl6 t (pw x) < t := by decide +kernel
  exact this t ht x hx
theorem sumF_upd {f : Nat → Nat} {t a : Nat} (ht : t < 64) : ∀ {l : List Nat}, (∀ x ∈ l, x ∈ dyN t) → sumF (upd f t a) t l = sumF f t l
  | [], _ => rfl
  | x :: r, h => by
    have h1 := (dyN_mem ht (h x (List.mem_cons_self ..))).2
    have := sumF_upd (f := f) (a := a) ht (l := r) fun y hy => h y (List.mem_cons_of_mem _ hy)
    simp only [sumF, List.map_cons, List.sum_cons] at this ⊢
    rw [this]
    congr 1
    simp only [upd]
    rw [if_neg (by omega)]
theorem upd_upd {f : Nat → Nat} {t a b : Nat} : upd (upd f t a) t b = upd f t b := by
  funext u
  simp only [upd]
  split <;> rfl
theorem l39_0 {k n P t : Nat} {q w vl : AV} {l : List Nat} (ht : t < P) (hP : P ≤ 64) (hl : ∀ x ∈ l, x ∈ dyN t) (hl6 : l.length ≤ 6) (hb : bar ≤ k) {R : PQ} : ∀ (c j : Nat) (A B : Nat → Nat) (H0 H : Heap), j + c = l.length → DPst k n P q A B H0 → Grow 1 (nats l) H0 vl H →
    (∀ u, u ≠ t → A u ≤ 720) → A t ≤ 720 * j + 1 → (∀ u, u ≠ t → B u ≤ 720) → B t ≤ 720 * j + 1 →
    (∀ H0' H', DPst k n P q (upd A t (A t + sumF A t (l.drop j))) (upd B t (B t + sumF B t (l.drop j))) H0' → H0'.take k = H0.take k → H0'.length = H0.length → Grow 1 (nats l) H0' vl H' →
      R (.exit 2) [(1, .ptr k 0 0), (4, w), (6, .vec (k + 1) 0 0 P 1), (7, .vec (k + 2) 0 0 P 1), (34, .int .u64 (P : Int)), (35, .int .u64 (t : Int)), (8, .int .u64 (t : Int)), (39, vl), (40, .int .i64 (l.length : Nat)), (41, .int .i64 (l.length : Nat)), (42, .bool false)] H') →
    Wp E base bar (.loop c39_l0) [(1, .ptr k 0 0), (4, w), (6, .vec (k + 1) 0 0 P 1), (7, .vec (k + 2) 0 0 P 1), (34, .int .u64 (P : Int)), (35, .int .u64 (t : Int)), (8, .int .u64 (t : Int)), (39, vl), (40, .int .i64 (l.length : Nat)), (41, .int .i64 (j : Nat))] H R := by
  intro c
  induction c with
  | zero =>
    intro j A B H0 H hj st g hA hAt hB hBt h
    obtain rfl : j = l.length := by omega
    rw [List.drop_length] at h
    have e : ∀ f : Nat → Nat, upd f t (f t + sumF f t []) = f := fun f => by
      funext u; simp only [upd, sumF, List.map_nil, List.sum_nil, Nat.add_zero]; split
      · rename_i hu; rw [hu]
      · rfl
    rw [e, e] at h
    rw [wp_round c39_l0.eq_1]
    simp [go_sem]
    exact h H0 H st rfl rfl g
  | succ c ih =>
    intro j A B H0 H hj st g hA hAt hB hBt h
    have hlt : j < l.length := by omega
    rw [List.drop_eq_getElem_cons hlt] at h
    obtain ⟨p, hix, hld⟩ := gix g hlt
    have hxm := hl _ (List.getElem_mem hlt)
    have hdr : ∀ y ∈ l.drop (j + 1), y ∈ dyN t := fun y hy => hl y (List.mem_of_mem_drop hy)
    generalize l[j] = x at *
    obtain ⟨hx6, hlt2⟩ := dyN_mem (show t < 64 by omega) hxm
    have hcl := cl6_u (x := t) (z := pw x) (by omega) (pw64 hx6)
    have hcne : cl6 t (pw x) ≠ t := by omega
    generalize hce : cl6 t (pw x) = u at *
    have hu : u < P := by omega
    have a1 := hA u hcne
    have b1 := hB u hcne
    have hgA := g.get st.ra
    have hgB := g.get st.rb
    have lA := fun i hi => loadF (s := 1) (i := i) hgA hi
    have lB := fun i hi => loadF (s := 1) (i := i) hgB hi
    have wA : IntKind.i64.wrap ((A t : Int) + (A u : Int)) = ((A t + A u : Nat) : Int) := by rw [show (A t : Int) + (A u : Int) = ((A t + A u : Nat) : Int) by omega, i64_nat (by omega)]
    have wB : IntKind.i64.wrap ((B t : Int) + (B u : Int)) = ((B t + B u : Nat) : Int) := by rw [show (B t : Int) + (B u : Int) = ((B t + B u : Nat) : Int) by omega, i64_nat (by omega)]
    have sA := fun (K : AV → Heap → List Nat → Prop) => storeF (base := base) (bar := bar) (i := t) (x := A t + A u) (K := K) hgA ht (by omega) (by omega)
    have g1 := g.set (i := k + 1) (b := .row 0 (fcells P (upd A t (A t + A u))) 0 true) (List.getElem?_eq_some_iff.1 st.ra).1
    have hgB1 := g1.get (i := k + 2) (b := .row 0 (fcells P B) 0 true) (by rw [List.getElem?_set_ne (by omega)]; exact st.rb)
    have lB1 := fun i hi => loadF (s := 1) (i := i) hgB1 hi
    have sB := fun (K : AV → Heap → List Nat → Prop) => storeF (base := base) (bar := bar) (i := t) (x := B t + B u) (K := K) hgB1 ht (by omega) (by omega)
    have g2 := g1.set (i := k + 2) (b := .row 0 (fcells P (upd B t (B t + B u))) 0 true) (by rw [List.length_set]; exact (List.getElem?_eq_some_iff.1 st.rb).1)
    have st2 : DPst k n P q (upd A t (A t + A u)) (upd B t (B t + B u)) ((H0.set (k + 1) (.row 0 (fcells P (upd A t (A t + A u))) 0 true)).set (k + 2) (.row 0 (fcells P (upd B t (B t + B u))) 0 true)) := by
      have la := (List.getElem?_eq_some_iff.1 st.ra).1
      have lb := (List.getElem?_eq_some_iff.1 st.rb).1
      refine ⟨?_, ?_, ?_⟩
      · rw [List.getElem?_set_ne (by omega), List.getElem?_set_ne (by omega)]; exact st.box
      · rw [List.getElem?_set_ne (by omega), List.getElem?_set_self la]
      · rw [List.getElem?_set_self (by rw [List.length_set]; exact lb)]
    have next := ih (j + 1) _ _ _ _ (by omega) st2 g2 (fun v hv => by simp only [upd]; rw [if_neg hv]; exact hA v hv) (by simp only [upd, if_true]; omega) (fun v hv => by simp only [upd]; rw [if_neg hv]; exact hB v hv) (by simp only [upd, if_true]; omega) (fun H0' H' s1 s2 s3 s4 => by
      refine h H0' H' ?_ ?_ ?_ s4
      · rw [upd_upd, upd_upd, sumF_upd (by omega) hdr, sumF_upd (by omega) hdr] at s1
        simp only [upd, if_true] at s1
        have e1 : A t + A u + sumF A t (l.drop (j + 1)) = A t + sumF A t (x :: l.drop (j + 1)) := by simp only [sumF, List.map_cons, List.sum_cons, hce]; omega
        have e2 : B t + B u + sumF B t (l.drop (j + 1)) = B t + sumF B t (x :: l.drop (j + 1)) := by simp only [sumF, List.map_cons, List.sum_cons, hce]; omega
        rw [e1, e2] at s1
        exact s1
      · rw [s2]
        apply take_same
        intro i hi
        rw [List.getElem?_set_ne (by omega), List.getElem?_set_ne (by omega)]
      · rw [s3]; simp)
    generalize hsa : A t + A u = sa at *
    generalize hsb : B t + B u = sb at *
    have hg1l : (H.set (k + 1) (.row 0 (fcells P (upd A t sa)) 0 true)).length = H.length := by simp
    rw [wp_round c39_l0.eq_1]
    simp [go_sem, hlt, hix, hld, ht, hu, lA, lB, lB1, shl_u64 hx6, hcl, wA, wB, sA, sB, i64_suc (show j < 1000000 by omega)]
    exact next
end Go.Proofs.YtbkhffakhggdaaaDoor.Code
end
section
namespace Go.Proofs.YtbkhffakhggdaaaDoor.Code
open Go Go.Ab
variable {pure : Bool} {base bar : Nat} {H : Heap} {Q : AV → Heap → Prop} {K : AV → Heap → List Nat → Prop}
theorem dyN_fac {t : Nat} (h1 : 1 ≤ t) (ht : t < 64) : sumF (fun u => fac (pc u)) t (dyN t) = fac (pc t) := by
  have : ∀ t, t < 64 → 1 ≤ t → sumF (fun u => fac (pc u)) t (dyN t) = fac (pc t) := by decide +kernel
  exact this t ht h1
theorem sumF_congr {f g : Nat → Nat} {t : Nat} : ∀ {l : List Nat}, (∀ x ∈ l, f (cl6 t (pw x)) = g (cl6 t (pw x))) → sumF f t l = sumF g t l
  | [], _ => rfl
  | x :: r, h => by
    simp only [sumF, List.map_cons, List.sum_cons]
    have := sumF_congr (f := f) (g := g) (l := r) fun y hy => h y (List.mem_cons_of_mem _ hy)
    simp only [sumF] at this
    rw [h x (List.mem_cons_self ..), this]
theorem sumF_le {f g : Nat → Nat} {t : Nat} : ∀ {l : List Nat}, (∀ x ∈ l, f (cl6 t (pw x)) ≤ g (cl6 t (pw x))) → sumF f t l ≤ sumF g t l
  | [], _ => Nat.le_refl _
  | x :: r, h => by
    simp only [sumF, List.map_cons, List.sum_cons]
    have := sumF_le (f := f) (g := g) (l := r) fun y hy => h y (List.mem_cons_of_mem _ hy)
    simp only [sumF] at this
    have := h x (List.mem_cons_self ..)
    omega
theorem aS_eq : ∀ {T u : Nat}, T ≤ 64 → aS T u = if u < T then fac (pc u) else if u = 0 then 1 else 0
  | 0, u, _ => by simp [aS]
  | T + 1, u, hT => by
    simp only [aS, upd]
    by_cases hu : u = T
    · subst hu
      by_cases h0 : u = 0
      · subst h0; rfl
      · have e1 : (if u < u + 1 then fac (pc u) else if u = 0 then 1 else 0) = fac (pc u) := if_pos (by omega)
        rw [if_pos rfl, if_neg h0, e1, ← dyN_fac (t := u) (by omega) (by omega)]
        show sumF (aS u) u (dyN u) = _
        refine sumF_congr fun x hx => ?_
        have := (dyN_mem (show u < 64 by omega) hx).2
        rw [aS_eq (by omega), if_pos this]
    · rw [if_neg hu, aS_eq (by omega)]
      by_cases h : u < T
      · rw [if_pos h, if_pos (show u < T + 1 by omega)]
      · rw [if_neg h, if_neg (show ¬ u < T + 1 by omega)]
theorem fac_le {m : Nat} (h : m ≤ 6) : fac m ≤ 720 := by
  have : ∀ m, m ≤ 6 → fac m ≤ 720 := by decide
  exact this m h
theorem aS_le {T u : Nat} (hT : T ≤ 64) : aS T u ≤ 720 := by
  rw [aS_eq hT]
  split
  · exact fac_le pc_le
  · split <;> omega
theorem pS_le {S : List Nat} : ∀ {T u : Nat}, pS S T u ≤ aS T u
  | 0, u => Nat.le_refl _
  | T + 1, u => by
    simp only [pS, aS, upd]
    split
    · split
      · exact Nat.zero_le _
      · split
        · exact Nat.le_refl _
        · exact sumF_le fun x _ => pS_le
    · exact pS_le
theorem pS_ge {S : List Nat} : ∀ {T u : Nat}, T ≤ u → pS S T u = if u = 0 then 1 else 0
  | 0, u, _ => rfl
  | T + 1, u, h => by
    simp only [pS, upd]
    rw [if_neg (by omega), pS_ge (by omega)]
theorem grow_take {cells : List AV} {H0 : Heap} {v : AV} {k : Nat} (g : Grow 1 cells H0 v H) (hk : k ≤ H0.length) : H.take k = H0.take k := by
  rcases g with ⟨_, _, rfl⟩ | ⟨_, _, _, _, _, rfl⟩
  · rfl
  · rw [List.take_append_of_le_length hk]
theorem DPst.grow {k n P : Nat} {q v : AV} {A B : Nat → Nat} {cells : List AV} {H0 : Heap} (s : DPst k n P q A B H0) (g : Grow 1 cells H0 v H) : DPst k n P q A B H := ⟨g.get s.box, g.get s.ra, g.get s.rb⟩
theorem glenw {l : List Nat} {H0 : Heap} {v : AV} (g : Grow 1 (nats l) H0 v H) : lenWp (some v) H K = K (.int .i64 (l.length : Int)) H [] := by
  rcases g with ⟨h, rfl, rfl⟩ | ⟨ver, fz, _, _, rfl, rfl⟩
  · have : l = [] := by cases l with | nil => rfl | cons a b => simp [nats] at h
    subst this; rfl
  · simp [lenWp, nats_length]
theorem l39_1 {k n P : Nat} {q w : AV} {S : List Nat} (hP : P ≤ 64) (hw : isU w S) (hSl : S.length < 1000000) (hb : bar ≤ k) (hbase : base ≤ k) {R : PQ} : ∀ (c t : Nat) (H : Heap), t + c = P → DPst k n P q (aS t) (pS S t) H →
    (∀ H', DPst k n P q (aS P) (pS S P) H' → H'.take k = H.take k → R (.exit 0) [(1, .ptr k 0 0), (4, w), (6, .vec (k + 1) 0 0 P 1), (7, .vec (k + 2) 0 0 P 1), (34, .int .u64 (P : Int)), (35, .int .u64 (P : Int)), (36, .bool false)] H') →
    Wp E base bar (.loop c39_l1) [(1, .ptr k 0 0), (4, w), (6, .vec (k + 1) 0 0 P 1), (7, .vec (k + 2) 0 0 P 1), (34, .int .u64 (P : Int)), (35, .int .u64 (t : Int))] H R := by
  intro c
  induction c with
  | zero =>
    intro t H ht st h
    obtain rfl : t = P := by omega
    rw [wp_round c39_l1.eq_1]
    simp [go_sem]
    exact h H st rfl
  | succ c ih =>
    intro t H ht st h
    have hlt : t < P := by omega
    have hkl : k + 2 < H.length := (List.getElem?_eq_some_iff.1 st.rb).1
    have hws : IntKind.u64.wrap ((t : Int) + 1) = ((t + 1 : Nat) : Int) := by rw [show (t : Int) + 1 = ((t + 1 : Nat) : Int) by omega, u64n (by omega)]
    rw [wp_round c39_l1.eq_1]
    simp [go_sem, hlt]
    refine k77 (by omega) (by omega) (by omega) fun v H1 g => ?_
    simp [go_sem, glenw g]
    have hAt : aS t t ≤ 1 := by rw [aS_eq (by omega), if_neg (by omega)]; split <;> omega
    have hBt : pS S t t ≤ 1 := Nat.le_trans pS_le hAt
    refine l39_0 (k := k) (n := n) (q := q) hlt hP (fun x hx => hx) dyN_len hb (dyN t).length 0 (aS t) (pS S t) H H1 (by omega) st g (fun u _ => aS_le (by omega)) (by omega) (fun u _ => Nat.le_trans pS_le (aS_le (by omega))) (by omega) fun H0' H' st' hk' hl' g' => ?_
    rw [List.drop_zero] at st'
    have eA : upd (aS t) t (aS t t + sumF (aS t) t (dyN t)) = aS (t + 1) := by
      simp only [aS]
      congr 1
      by_cases h0 : t = 0
      · subst h0; rfl
      · rw [if_neg h0, aS_eq (by omega), if_neg (by omega), if_neg h0, Nat.zero_add]; rfl
    rw [eA] at st'
    have st2 := st'.grow g'
    have hk2 : H'.take k = H.take k := by rw [grow_take g' (by omega), hk']
    have hlen2 : k + 2 < H'.length := (List.getElem?_eq_some_iff.1 st2.rb).1
    simp [go_sem]
    refine k93 hw hSl ?_
    cases hc : S.contains t
    · have eB : upd (pS S t) t (pS S t t + sumF (pS S t) t (dyN t)) = pS S (t + 1) := by
        simp only [pS, hc]
        congr 1
        by_cases h0 : t = 0
        · subst h0; rfl
        · rw [if_neg h0, pS_ge (Nat.le_refl _), if_neg h0, Nat.zero_add]; rfl
      rw [eB] at st2
      have next := ih (t + 1) H' (by omega) st2 (fun H2 s2 h2 => h H2 s2 (by rw [h2, hk2]))
      simp [go_sem, hws]
      exact next
    · have eB : upd (upd (pS S t) t (pS S t t + sumF (pS S t) t (dyN t))) t 0 = pS S (t + 1) := by
        simp only [pS, hc, if_true]
        rw [upd_upd]
      have sB := fun (K : AV → Heap → List Nat → Prop) => storeF (base := base) (bar := bar) (i := t) (x := 0) (K := K) st2.rb hlt (by omega) (by omega)
      rw [eB] at sB
      have sB0 : ∀ K : AV → Heap → List Nat → Prop, storeWp base bar 1 (.ptr (k + 2) 0 t) (.int .i64 0) H' K = K (.tup []) (H'.set (k + 2) (.row 0 (fcells P (pS S (t + 1))) 0 true)) [k + 2] := fun K => sB K
      have st3 : DPst k n P q (aS (t + 1)) (pS S (t + 1)) (H'.set (k + 2) (.row 0 (fcells P (pS S (t + 1))) 0 true)) := by
        refine ⟨?_, ?_, ?_⟩
        · rw [List.getElem?_set_ne (by omega)]; exact st2.box
        · rw [List.getElem?_set_ne (by omega)]; exact st2.ra
        · rw [List.getElem?_set_self hlen2]
      have next := ih (t + 1) _ (by omega) st3 (fun H2 s2 h2 => h H2 s2 (by
        rw [h2, ← hk2]
        apply take_same
        intro i hi
        rw [List.getElem?_set_ne (by omega)]))
      simp [go_sem, hlt, sB0, hws]
      exact next
theorem pw_le {n : Nat} (h : n ≤ 6) : pw n ≤ 64 := Nat.le_trans (Nat.pow_le_pow_right (by decide) h) (by decide : 2 ^ 6 ≤ 64)
theorem k39 {n : Nat} {q : AV} {ls : List (List Int)} (h1 : 1 ≤ n) (hn : n ≤ 6) (hq : isVV q ls) (hl : ls.length < 1000) (hll : ∀ l ∈ ls, l.length < 1000) (hbar : bar ≤ H.length)
    (he : (opS n [] ls).1 ≠ 0 → Q (.tup [.int .i64 0, .int .i64 (opS n [] ls).1]) H)
    (h0 : (opS n [] ls).1 = 0 → Q (.tup [.int .i64 ((fac n - pS (opS n [] ls).2 (pw n) (pw n - 1) : Nat) : Int), .int .i64 0]) H) : WpCall E pure base bar 39 [.agg [.int .i64 (n : Int), q]] H Q := by
  have hsh := shl_i64 (n := n) (by omega)
  have hshu : abin .shl (.int .u64 1) (.int .i64 (n : Int)) = some (.int .u64 ((pw n : Nat) : Int)) := by
    have : n = 1 ∨ n = 2 ∨ n = 3 ∨ n = 4 ∨ n = 5 ∨ n = 6 := by omega
    rcases this with rfl | rfl | rfl | rfl | rfl | rfl <;> rfl
  have hP := pw_le hn
  have hPp : 0 < pw n := pw_pos
  have hlen := opS_len (n := n) (ls := ls) (done := [])
  have hbp : (if pure = true then H.length else bar) ≤ H.length := by cases pure <;> simp <;> omega
  rw [call39]
  simp [go_sem, WpFun, c39, hq.frz, box2]
  refine k68 h1 hn hq hl hll (by cases pure <;> simp <;> omega) (fun e => ?_) (fun e => ?_)
  · have := he e
    simp [go_sem, e]
    exact this
  · have hu : isU (outL 1 (us (opS n [] ls).2)) (opS n [] ls).2 := isU.out
    generalize outL 1 (us (opS n [] ls).2) = w at *
    generalize hS : (opS n [] ls).2 = S at *
    have h0 := h0 e
    have hp8 : pw n * 8 ≤ 140737488355328 := by omega
    have h1w : pw n - 1 < pw n := by omega
    simp [go_sem]
    rw [wp_twin]
    simp [go_sem, wptwin_cons, wptwin_nil, aop, twWp, box0, hsh, AV.asNat, AV.top, AV.vlen, own_get0, own_set0, hp8, hPp]
    generalize (if pure = true then H.length else bar) = bar' at *
    have ez : List.replicate (pw n) (AV.int .i64 0) = fcells (pw n) (fun _ => 0) := fcells_zero.symm
    rw [ez]
    have u0 : upd (fun _ => 0) 0 1 = aS 0 := rfl
    have u1 : upd (fun _ => 0) 0 1 = pS S 0 := rfl
    have s1 : ∀ K : AV → Heap → List Nat → Prop, storeWp H.length bar' 1 (.ptr (H.length + 1) 0 0) (.int .i64 1) (H ++ [.row 0 [.int .i64 (n : Int), q] 0 true, .row 0 (fcells (pw n) fun _ => 0) 0 true, .row 0 (fcells (pw n) fun _ => 0) 0 true]) K =
        K (.tup []) (H ++ [.row 0 [.int .i64 (n : Int), q] 0 true, .row 0 (fcells (pw n) (aS 0)) 0 true, .row 0 (fcells (pw n) fun _ => 0) 0 true]) [H.length + 1] := fun K => by
      have := storeF (base := H.length) (bar := bar') (i := 0) (x := 1) (K := K) (H := H ++ [.row 0 [.int .i64 (n : Int), q] 0 true, .row 0 (fcells (pw n) fun _ => 0) 0 true, .row 0 (fcells (pw n) fun _ => 0) 0 true]) (own_get (k := 1) |>.trans rfl) hPp (by omega) (by omega)
      rw [own_set, u0] at this
      exact this
    have s2 : ∀ K : AV → Heap → List Nat → Prop, storeWp H.length bar' 1 (.ptr (H.length + 2) 0 0) (.int .i64 1) (H ++ [.row 0 [.int .i64 (n : Int), q] 0 true, .row 0 (fcells (pw n) (aS 0)) 0 true, .row 0 (fcells (pw n) fun _ => 0) 0 true]) K =
        K (.tup []) (H ++ [.row 0 [.int .i64 (n : Int), q] 0 true, .row 0 (fcells (pw n) (aS 0)) 0 true, .row 0 (fcells (pw n) (pS S 0)) 0 true]) [H.length + 2] := fun K => by
      have := storeF (base := H.length) (bar := bar') (i := 0) (x := 1) (K := K) (H := H ++ [.row 0 [.int .i64 (n : Int), q] 0 true, .row 0 (fcells (pw n) (aS 0)) 0 true, .row 0 (fcells (pw n) fun _ => 0) 0 true]) (own_get (k := 2) |>.trans rfl) hPp (by omega) (by omega)
      rw [own_set, u1] at this
      exact this
    have st : DPst H.length n (pw n) q (aS 0) (pS S 0) (H ++ [.row 0 [.int .i64 (n : Int), q] 0 true, .row 0 (fcells (pw n) (aS 0)) 0 true, .row 0 (fcells (pw n) (pS S 0)) 0 true]) :=
      ⟨own_get0 |>.trans rfl, own_get (k := 1) |>.trans rfl, own_get (k := 2) |>.trans rfl⟩
    have ld0 : aload (H ++ [.row 0 [.int .i64 (n : Int), q] 0 true, .row 0 (fcells (pw n) (aS 0)) 0 true, .row 0 (fcells (pw n) (pS S 0)) 0 true]) ⟨false, 1⟩ (.ptr H.length 0 0) = some (.int .i64 (n : Int)) := by rw [aload_ptr st.box]; rfl
    have htk : (H ++ [Blk.row 0 [.int .i64 (n : Int), q] 0 true, .row 0 (fcells (pw n) (aS 0)) 0 true, .row 0 (fcells (pw n) (pS S 0)) 0 true]).take H.length = H := by simp
    rw [s1]
    simp [go_sem, hPp]
    rw [s2]
    generalize H ++ [Blk.row 0 [.int .i64 (n : Int), q] 0 true, .row 0 (fcells (pw n) (aS 0)) 0 true, .row 0 (fcells (pw n) (pS S 0)) 0 true] = H1 at *
    simp [go_sem, ld0, hshu]
    refine l39_1 (n := n) (q := q) hP hu (by simp at hlen; omega) hbp (Nat.le_refl _) (pw n) 0 H1 (by omega) st fun H2 st2 hk2 => ?_
    have ld2 : aload H2 ⟨false, 1⟩ (.ptr H.length 0 0) = some (.int .i64 (n : Int)) := by rw [aload_ptr st2.box]; rfl
    have hsub : IntKind.i64.wrap (((pw n : Nat) : Int) - 1) = ((pw n - 1 : Nat) : Int) := by rw [show ((pw n : Nat) : Int) - 1 = ((pw n - 1 : Nat) : Int) by omega, i64_nat (by omega)]
    have lA := loadF (s := 1) (i := pw n - 1) st2.ra h1w
    have lB := loadF (s := 1) (i := pw n - 1) st2.rb h1w
    have hA : aS (pw n) (pw n - 1) = fac n := by
      have : ∀ n, n ≤ 6 → fac (pc (pw n - 1)) = fac n := by decide +kernel
      rw [aS_eq hP, if_pos h1w, this n hn]
    have hBA : pS S (pw n) (pw n - 1) ≤ fac n := by rw [← hA]; exact pS_le
    have hf := fac_le hn
    rw [hA] at lA
    have hres : IntKind.i64.wrap ((fac n : Int) - (pS S (pw n) (pw n - 1) : Int)) = ((fac n - pS S (pw n) (pw n - 1) : Nat) : Int) := by
      rw [show (fac n : Int) - (pS S (pw n) (pw n - 1) : Int) = ((fac n - pS S (pw n) (pw n - 1) : Nat) : Int) by omega, i64_nat (by omega)]
    generalize pS S (pw n) (pw n - 1) = pB at *
    generalize pw n - 1 = full at *
    generalize hfb : fac n - pB = fb at *
    simp [go_sem, ld2, hsh, hsub, h1w, lA, lB, hres]
    rw [hk2, htk]
    exact h0
end Go.Proofs.YtbkhffakhggdaaaDoor.Code
end
section
namespace Go.Proofs.YtbkhffakhggdaaaDoor.Code
open Go Go.Ab
/-! orders, and the ways of the table -/
/-- the set of a list -/
def setN (l : List Nat) : Nat := l.foldl (fun s x => bor s (pw x)) 0
/-- the sets that an order passes on its way from a set on -/
def sets (s : Nat) : List Nat → List Nat
  | [] => []
  | x :: r => bor s (pw x) :: sets (bor s (pw x)) r
def pass (D : List Nat) (l : List Nat) : Bool := D.contains 0 || (sets 0 l).any D.contains
/-- all orders that go on from a list -/
def extO (n : Nat) : Nat → List Nat → List (List Nat)
  | 0, l => [l]
  | k + 1, l => (List.range n).flatMap fun x => if l.contains x then [] else extO n k (l ++ [x])
/-- all orders of a set, by the last one -/
def plist : Nat → Nat → List (List Nat)
  | 0, _ => []
  | f + 1, t => if t = 0 then [[]] else (dyN t).flatMap fun x => (plist f (cl6 t (pw x))).map (· ++ [x])
theorem perm_all : ((List.range' 1 5).all fun n => (extO n n []).isPerm (plist 64 (pw n - 1))) = true := by decide +kernel
theorem sets_append {s x : Nat} : ∀ {l : List Nat}, sets s (l ++ [x]) = sets s l ++ [bor (l.foldl (fun s x => bor s (pw x)) s) (pw x)]
  | [] => rfl
  | y :: r => by
    simp only [List.cons_append, sets, List.foldl_cons]
    rw [sets_append]
theorem setN_append {l : List Nat} {x : Nat} : setN (l ++ [x]) = bor (setN l) (pw x) := by simp [setN]
theorem pass_append {D l : List Nat} {x : Nat} : pass D (l ++ [x]) = (pass D l || D.contains (setN (l ++ [x]))) := by
  unfold pass
  rw [sets_append, setN_append, List.any_append, Bool.or_assoc]
  simp [setN]
theorem bor_cl : ((List.range 64).all fun t => (dyN t).all fun x => Nat.beq (bor (cl6 t (pw x)) (pw x)) t) = true := by decide +kernel
theorem plist_set : ∀ {f t : Nat}, t < 64 → ∀ l ∈ plist f t, setN l = t
  | 0, t, _, l, h => by simp [plist] at h
  | f + 1, t, ht, l, h => by
    simp only [plist] at h
    by_cases h0 : t = 0
    · subst h0; simp at h; subst h; rfl
    · rw [if_neg h0] at h
      obtain ⟨x, hx, h⟩ := List.mem_flatMap.1 h
      obtain ⟨m, hm, rfl⟩ := List.mem_map.1 h
      have hl := (dyN_mem ht hx).2
      rw [setN_append, plist_set (by omega) m hm]
      exact Nat.eq_of_beq_eq_true (List.all_eq_true.1 (List.all_eq_true.1 bor_cl t (List.mem_range.2 ht)) x hx)
theorem pS_stay {S : List Nat} {t : Nat} : ∀ {T : Nat}, t < T → pS S T t = pS S (t + 1) t
  | 0, h => by omega
  | T + 1, h => by
    by_cases e : t = T
    · subst e; rfl
    · simp only [pS, upd]
      rw [if_neg (by omega), pS_stay (by omega)]
      simp [pS, upd]
/-- the table counts the orders that pass none -/
theorem plist_count {S : List Nat} : ∀ {f t : Nat}, t < 64 → t < f → (plist f t).countP (fun l => !pass S l) = pS S (t + 1) t
  | 0, t, _, h => by omega
  | f + 1, t, ht, hf => by
    simp only [plist, pS, upd, if_true]
    by_cases h0 : t = 0
    · subst h0
      simp only [if_true]
      by_cases hc : S.contains 0 = true
      · rw [if_pos hc]
        simp [pass, sets, show 0 ∈ S by simpa using hc]
      · rw [if_neg hc]
        have : 0 ∉ S := by simpa using hc
        simp [pass, sets, this]
    · rw [if_neg h0, if_neg h0]
      by_cases hc : S.contains t = true
      · rw [if_pos hc]
        rw [List.countP_eq_zero]
        intro l hl
        obtain ⟨x, hx, h⟩ := List.mem_flatMap.1 hl
        obtain ⟨m, hm, rfl⟩ := List.mem_map.1 h
        have e : setN (m ++ [x]) = t := by
          rw [setN_append, plist_set (by have := (dyN_mem ht hx).2; omega) m hm]
          exact Nat.eq_of_beq_eq_true (List.all_eq_true.1 (List.all_eq_true.1 bor_cl t (List.mem_range.2 ht)) x hx)
        rw [pass_append, e, hc]
        simp
      · rw [if_neg hc]
        rw [List.countP_flatMap]
        congr 1
        apply List.map_congr_left
        intro x hx
        have hl := (dyN_mem ht hx).2
        simp only [Function.comp]
        rw [List.countP_map]
        rw [pS_stay hl, ← plist_count (S := S) (f := f) (t := cl6 t (pw x)) (by omega) (by omega)]
        apply List.countP_congr
        intro m hm
        have e : setN (m ++ [x]) = t := by
          rw [setN_append, plist_set (by omega) m hm]
          exact Nat.eq_of_beq_eq_true (List.all_eq_true.1 (List.all_eq_true.1 bor_cl t (List.mem_range.2 ht)) x hx)
        simp only [Function.comp]
        rw [pass_append, e]
        have hcf : S.contains t = false := by simpa using hc
        rw [hcf, Bool.or_false]
end Go.Proofs.YtbkhffakhggdaaaDoor.Code
end
section
namespace Go.Proofs.YtbkhffakhggdaaaDoor.Code
open Go Go.Ab
variable {pure : Bool} {base bar : Nat} {H : Heap} {Q : AV → Heap → Prop} {K : AV → Heap → List Nat → Prop}
end Go.Proofs.YtbkhffakhggdaaaDoor.Code
end
section
namespace Go.Proofs.YtbkhffakhggdaaaDoor.Code
open Go Go.Ab
variable {pure : Bool} {base bar : Nat} {H : Heap} {Q : AV → Heap → Prop} {K : AV → Heap → List Nat → Prop}
end Go.Proofs.YtbkhffakhggdaaaDoor.Code
end
section
namespace Go.Proofs.YtbkhffakhggdaaaDoor.Code
open Go Go.Ab
end Go.Proofs.YtbkhffakhggdaaaDoor.Code
end
section
namespace Go.Proofs.YtbkhffakhggdaaaDoor.Code
open Go Go.Ab
variable {pure : Bool} {base bar : Nat} {H : Heap} {Q : AV → Heap → Prop} {K : AV → Heap → List Nat → Prop}
end Go.Proofs.YtbkhffakhggdaaaDoor.Code
end
section
namespace Go.Proofs.YtbkhffakhggdaaaDoor.Code
open Go Go.Ab
variable {pure : Bool} {base bar : Nat} {H : Heap} {Q : AV → Heap → Prop} {K : AV → Heap → List Nat → Prop}
end Go.Proofs.YtbkhffakhggdaaaDoor.Code
end
section
namespace Go.Proofs.YtbkhffakhggdaaaDoor.Code
open Go Go.Ab
variable {pure : Bool} {base bar : Nat} {H : Heap} {Q : AV → Heap → Prop} {K : AV → Heap → List Nat → Prop}
end Go.Proofs.YtbkhffakhggdaaaDoor.Code
end
end
section
set_option linter.all false
namespace Go.Ab
/-- the same slots in another order, each once -/
def FR (a b : Frame) : Prop := a.Perm b ∧ (a.map (·.1)).Nodup
theorem FR.refl {a : Frame} (h : (a.map (·.1)).Nodup) : FR a a := ⟨.refl _, h⟩
theorem FR.symm {a b : Frame} (h : FR a b) : FR b a := ⟨h.1.symm, (h.1.map _).nodup_iff.1 h.2⟩
theorem fget_mem : ∀ {a : Frame} {t : Nat} {v : AV}, (a.map (·.1)).Nodup → (fget t a = some v ↔ (t, v) ∈ a)
  | [], t, v, _ => by simp [fget]
  | (u, x) :: r, t, v, h => by
    simp only [List.map_cons, List.nodup_cons] at h
    simp only [fget]
    split
    · rename_i e; subst e
      constructor
      · intro e; cases e; exact List.mem_cons_self
      · intro e
        rcases List.mem_cons.1 e with e | e
        · cases e; rfl
        · exact (h.1 (List.mem_map.2 ⟨_, e, rfl⟩)).elim
    · rename_i e
      rw [fget_mem h.2]
      constructor
      · exact fun m => List.mem_cons_of_mem _ m
      · intro m
        rcases List.mem_cons.1 m with m | m
        · cases m; exact (e rfl).elim
        · exact m
theorem FR.get {a b : Frame} (h : FR a b) (t : Nat) : fget t a = fget t b := by
  apply Option.ext
  intro v
  rw [fget_mem h.2, fget_mem h.symm.2]
  exact h.1.mem_iff
theorem fkeep_filter (ts : List Nat) : ∀ a : Frame, fkeep ts a = a.filter fun p => ts.contains p.1
  | [] => rfl
  | (u, x) :: r => by
    simp only [fkeep, List.filter_cons]
    split <;> simp [fkeep_filter ts r]
theorem FR.keep {a b : Frame} (h : FR a b) (ts : List Nat) : FR (fkeep ts a) (fkeep ts b) := by
  rw [fkeep_filter, fkeep_filter]
  exact ⟨h.1.filter _, (List.filter_sublist.map _).nodup h.2⟩
theorem fset_keys (t : Nat) (v : AV) : ∀ a : Frame, (fset t v a).map (·.1) = if t ∈ a.map (·.1) then a.map (·.1) else a.map (·.1) ++ [t]
  | [] => rfl
  | (u, x) :: r => by
    simp only [fset]
    split
    · rename_i e; subst e; simp
    · rename_i e
      simp only [List.map_cons, fset_keys t v r, List.mem_cons, e, false_or]
      split <;> rfl
theorem fset_nodup {t : Nat} {v : AV} {a : Frame} (h : (a.map (·.1)).Nodup) : ((fset t v a).map (·.1)).Nodup := by
  rw [fset_keys]
  split
  · exact h
  · rename_i hn
    rw [List.nodup_append]
    exact ⟨h, by simp, fun x hx y hy => by simp at hy; subst hy; intro e; subst e; exact hn hx⟩
theorem fset_fget {t u : Nat} {v : AV} : ∀ {a : Frame}, fget u (fset t v a) = if u = t then some v else fget u a
  | [] => by simp [fset, fget]
  | (w, x) :: r => by
    simp only [fset]
    split
    · rename_i e; subst e
      simp only [fget]
      split <;> rfl
    · rename_i e
      simp only [fget, fset_fget (a := r)]
      by_cases hu : u = w
      · subst hu
        rw [if_pos rfl, if_pos rfl, if_neg (fun c => e c.symm)]
      · rw [if_neg hu, if_neg hu]
theorem nodup_of_keys {a : Frame} (h : (a.map (·.1)).Nodup) : a.Nodup := by
  have := List.pairwise_map.1 h
  exact this.imp fun hne e => hne (by rw [e])
/-- frames with the same slots -/
theorem FR.of_get {a b : Frame} (ha : (a.map (·.1)).Nodup) (hb : (b.map (·.1)).Nodup) (h : ∀ t, fget t a = fget t b) : FR a b := by
  refine ⟨?_, ha⟩
  have na : a.Nodup := nodup_of_keys ha
  have nb : b.Nodup := nodup_of_keys hb
  refine (List.perm_ext_iff_of_nodup na nb).2 fun p => ?_
  obtain ⟨t, v⟩ := p
  rw [← fget_mem ha, ← fget_mem hb, h]
theorem FR.set {a b : Frame} (h : FR a b) (t : Nat) (v : AV) : FR (fset t v a) (fset t v b) :=
  .of_get (fset_nodup h.2) (fset_nodup h.symm.2) fun u => by rw [fset_fget, fset_fget, h.get]
theorem FR.put {a b : Frame} (h : FR a b) (d : Option Nat) (v : AV) : FR (fput d v a) (fput d v b) := by
  cases d with
  | none => exact h
  | some t => exact h.set t v
theorem FR.top {a b : Frame} (h : FR a b) : ftop a = ftop b := by
  have : ∀ {a b : Frame}, a.Perm b → ftop a = ftop b := by
    intro a b h
    induction h with
    | nil => rfl
    | cons x _ ih => obtain ⟨_, _⟩ := x; simp only [ftop, ih]
    | swap x y l => obtain ⟨_, _⟩ := x; obtain ⟨_, _⟩ := y; simp only [ftop]; omega
    | trans _ _ h1 h2 => exact h1.trans h2
  exact this h.1
theorem FR.ev {a b : Frame} (h : FR a b) (x : Opd) : x.ev a = x.ev b := by cases x <;> simp [Opd.ev, h.get]
theorem FR.evs {a b : Frame} (h : FR a b) : ∀ l : List Opd, Go.Ab.evs a l = Go.Ab.evs b l
  | [] => rfl
  | x :: r => by simp only [Go.Ab.evs, h.ev, h.evs r]
theorem FR.want {a b : Frame} (h : FR a b) (g : Option (Nat × Bool)) : wantA g a = wantA g b := by
  cases g with
  | none => rfl
  | some p => obtain ⟨t, b⟩ := p; simp only [wantA, h.get]
theorem FR.aop {a b : Frame} (h : FR a b) (base bar : Nat) (op : AOp) (H : Heap) : Go.Ab.aop base bar op a H = Go.Ab.aop base bar op b H := by
  have he := h.ev
  have hs := h.evs
  have ho : ∀ x, Opd.evo a x = Opd.evo b x := fun x => by cases x <;> simp only [Opd.evo, he]
  cases op <;> simp only [Go.Ab.aop, he, hs, ho]
theorem FR.aopC {a b : Frame} (h : FR a b) (env : Env) (ex : Ex) (pure : Bool) (base bar : Nat) (op : AOp) (H : Heap) : Go.Ab.aopC env ex pure base bar op a H = Go.Ab.aopC env ex pure base bar op b H := by
  cases op <;> simp only [Go.Ab.aopC, h.ev, h.evs, h.aop]
theorem FR.read {a b : Frame} (h : FR a b) (op : AOp) : readOf op a = readOf op b := by
  cases op <;> simp only [readOf, h.ev, h.evs]
theorem FR.ops {env : Env} {ex : Ex} {base bar : Nat} : ∀ {ops : List AOper} {a b : Frame} {H : Heap} {s : St}, FR a b → runOps env ex base bar ops ⟨a, H⟩ = some s → ∃ b', runOps env ex base bar ops ⟨b, H⟩ = some ⟨b', s.H⟩ ∧ FR s.fr b'
  | [], a, b, H, s, h, hr => by
    simp only [runOps, Option.some.injEq] at hr; subst hr
    exact ⟨b, rfl, h⟩
  | o :: r, a, b, H, s, h, hr => by
    unfold runOps at hr ⊢
    simp only [← h.want, ← h.aopC] at hr ⊢
    split at hr
    · split at hr <;> try (cases hr; done)
      exact FR.ops (h.put _ _) hr
    · exact FR.ops (h.put _ _) hr
    · cases hr
theorem FR.draw {env : Env} {ex : Ex} {base bar : Nat} : ∀ {ops : List AOper} {a b : Frame} {hs : List Heap} {tcs : List (List Nat)} {pend : List (Nat × Nat × Nat)} {s : St}, FR a b → runDraw env ex base bar ops a hs tcs pend = some s →
    ∃ b', runDraw env ex base bar ops b hs tcs pend = some ⟨b', s.H⟩ ∧ FR s.fr b'
  | [], a, b, hs, tcs, pend, s, h, hr => by
    unfold runDraw at hr ⊢
    split at hr <;> try (cases hr; done)
    rename_i hp
    rw [if_pos hp]
    split at hr <;> try (cases hr; done)
    rename_i e
    simp only [Option.some.injEq] at hr; subst hr
    exact ⟨b, rfl, h⟩
  | o :: r, a, b, hs, tcs, pend, s, h, hr => by
    unfold runDraw at hr ⊢
    simp only [← (h.keep o.looks).want, ← (h.keep o.looks).aopC, ← (h.keep o.looks).read] at hr ⊢
    split at hr
    · cases hr
    · split at hr <;> try (cases hr; done)
      split at hr
      · rename_i he; simp only [he, if_true]; exact FR.draw (h.put _ _) hr
      · rename_i he; simp only [he]; exact FR.draw (h.put _ _) hr
    · split at hr
      · rename_i he
        split at hr <;> try (cases hr; done)
        split at hr <;> try (cases hr; done)
        simp only [he, if_true]
        exact FR.draw (h.put _ _) hr
      · rename_i he
        split at hr <;> try (cases hr; done)
        split at hr <;> try (cases hr; done)
        split at hr <;> try (cases hr; done)
        rename_i ht
        simp only [he, ht, and_self, if_true]
        split at hr
        · rename_i hlo; simp only [hlo, if_true]; exact FR.draw (h.put _ _) hr
        · rename_i hlo
          simp only [hlo, if_false]
          split at hr
          · exact FR.draw (h.put _ _) hr
          · exact FR.draw (h.put _ _) hr
          · cases hr
theorem FR.twin {base bar : Nat} {H0 : Heap} : ∀ {ops : List (Nat × AOper)} {m : Nat} {a b : Frame} {H : Heap} {s : St}, FR a b → runTwin base bar H0 m ops a H = some s → ∃ b', runTwin base bar H0 m ops b H = some ⟨b', s.H⟩ ∧ FR s.fr b'
  | [], m, a, b, H, s, h, hr => by
    simp only [runTwin, Option.some.injEq] at hr; subst hr
    exact ⟨b, rfl, h⟩
  | (k, o) :: r, m, a, b, H, s, h, hr => by
    unfold runTwin at hr ⊢
    simp only [← (h.keep o.looks).aop] at hr ⊢
    split at hr <;> try (cases hr; done)
    split at hr <;> try (cases hr; done)
    rename_i hn
    rw [if_neg hn]
    exact FR.twin (h.put _ _) hr
theorem FR.slots {bar : Nat} : ∀ {ts : List Nat} {a b : Frame} {H : Heap} {s : St}, FR a b → frzSlots bar ts ⟨a, H⟩ = some s → ∃ b', frzSlots bar ts ⟨b, H⟩ = some ⟨b', s.H⟩ ∧ FR s.fr b'
  | [], a, b, H, s, h, hr => by
    simp only [frzSlots, Option.some.injEq] at hr; subst hr
    exact ⟨b, rfl, h⟩
  | t :: r, a, b, H, s, h, hr => by
    unfold frzSlots at hr ⊢
    simp only [← h.get] at hr ⊢
    split at hr <;> try (cases hr; done)
    split at hr <;> try (cases hr; done)
    exact FR.slots (h.set _ _) hr
def ExFR (ex : Ex) : Prop := ∀ base bar c a b H e s, FR a b → ex base bar c ⟨a, H⟩ = some (e, s) → ∃ b', ex base bar c ⟨b, H⟩ = some (e, ⟨b', s.H⟩) ∧ FR s.fr b'
theorem FR.execC {env : Env} {ex : Ex} (hx : ExFR ex) : ∀ (c : ACode) {base bar : Nat} {a b : Frame} {H : Heap} {e : AExit} {s : St}, FR a b → Go.Ab.execC env ex c base bar ⟨a, H⟩ = some (e, s) →
    ∃ b', Go.Ab.execC env ex c base bar ⟨b, H⟩ = some (e, ⟨b', s.H⟩) ∧ FR s.fr b'
  | .skip, _, _, a, b, H, e, s, h, hr => by
    simp only [Go.Ab.execC, Option.some.injEq, Prod.mk.injEq] at hr; obtain ⟨rfl, rfl⟩ := hr
    exact ⟨b, rfl, h⟩
  | .reg ops keep, _, _, a, b, H, e, s, h, hr => by
    unfold Go.Ab.execC at hr ⊢
    split at hr <;> try (cases hr; done)
    rename_i hc
    simp only [Option.some.injEq, Prod.mk.injEq] at hr; obtain ⟨rfl, rfl⟩ := hr
    obtain ⟨b', h1, h2⟩ := h.ops hc
    rw [h1]
    exact ⟨_, rfl, h2.keep keep⟩
  | .dreg ops keep, _, _, a, b, H, e, s, h, hr => by
    unfold Go.Ab.execC at hr ⊢
    split at hr <;> try (cases hr; done)
    rename_i hc
    simp only [Option.some.injEq, Prod.mk.injEq] at hr; obtain ⟨rfl, rfl⟩ := hr
    obtain ⟨b', h1, h2⟩ := h.draw hc
    rw [h1]
    exact ⟨_, rfl, h2.keep keep⟩
  | .twin ops keep, _, _, a, b, H, e, s, h, hr => by
    unfold Go.Ab.execC at hr ⊢
    split at hr <;> try (cases hr; done)
    rename_i hc
    simp only [Option.some.injEq, Prod.mk.injEq] at hr; obtain ⟨rfl, rfl⟩ := hr
    obtain ⟨b', h1, h2⟩ := h.twin hc
    rw [h1]
    exact ⟨_, rfl, h2.keep keep⟩
  | .seq c d, _, _, a, b, H, e, s, h, hr => by
    unfold Go.Ab.execC at hr ⊢
    split at hr
    · rename_i st hc
      obtain ⟨b', h1, h2⟩ := FR.execC hx c h hc
      rw [h1]
      exact FR.execC hx d h2 hr
    · rename_i hne
      obtain ⟨b', h1, h2⟩ := FR.execC hx c h hr
      rw [h1]
      cases e with
      | normal => exact absurd hr (hne _)
      | _ => exact ⟨b', rfl, h2⟩
  | .cond c d1 d2, _, _, a, b, H, e, s, h, hr => by
    unfold Go.Ab.execC at hr ⊢
    simp only [← h.ev] at hr ⊢
    split at hr
    · exact FR.execC hx d1 h hr
    · exact FR.execC hx d2 h hr
    · cases hr
  | .block id c, _, _, a, b, H, e, s, h, hr => by
    unfold Go.Ab.execC at hr ⊢
    split at hr
    · rename_i i st hc
      obtain ⟨b', h1, h2⟩ := FR.execC hx c h hc
      rw [h1]
      simp only
      split at hr <;> rename_i hi <;> simp only [Option.some.injEq, Prod.mk.injEq] at hr <;> obtain ⟨rfl, rfl⟩ := hr
      · rw [if_pos hi]; exact ⟨b', rfl, h2⟩
      · rw [if_neg hi]; exact ⟨b', rfl, h2⟩
    · rename_i hne
      obtain ⟨b', h1, h2⟩ := FR.execC hx c h hr
      rw [h1]
      cases e with
      | exit => exact absurd hr (hne _ _)
      | _ => exact ⟨b', rfl, h2⟩
  | .loop c, _, _, a, b, H, e, s, h, hr => by
    unfold Go.Ab.execC at hr ⊢
    split at hr
    · rename_i st hc
      obtain ⟨b', h1, h2⟩ := FR.execC hx c h hc
      rw [h1]
      exact hx _ _ _ _ _ _ _ _ h2 hr
    · rename_i hne
      obtain ⟨b', h1, h2⟩ := FR.execC hx c h hr
      rw [h1]
      cases e with
      | normal => exact absurd hr (hne _)
      | _ => exact ⟨b', rfl, h2⟩
  | .fresh keep c, _, _, a, b, H, e, s, h, hr => by
    unfold Go.Ab.execC at hr ⊢
    split at hr
    · rename_i st hc
      simp only [Option.some.injEq, Prod.mk.injEq] at hr; obtain ⟨rfl, rfl⟩ := hr
      obtain ⟨b', h1, h2⟩ := FR.execC hx c h hc
      rw [h1]
      exact ⟨b', rfl, h2⟩
    · rename_i e1 st hne hc
      obtain ⟨b', h1, h2⟩ := FR.execC hx c h hc
      rw [h1]
      simp only at hr
      split at hr <;> try (cases hr; done)
      rename_i ht
      simp only [Option.some.injEq, Prod.mk.injEq] at hr; obtain ⟨rfl, rfl⟩ := hr
      have ht' : ftop (fkeep keep b') ≤ H.length := by rw [← (h2.keep keep).top]; exact ht
      cases e1 with
      | ret => exact absurd rfl hne
      | _ => simp only [ht', if_true]; exact ⟨_, rfl, h2.keep keep⟩
    · cases hr
  | .frz ts c, _, _, a, b, H, e, s, h, hr => by
    unfold Go.Ab.execC at hr ⊢
    split at hr <;> try (cases hr; done)
    rename_i st hc
    obtain ⟨b', h1, h2⟩ := h.slots hc
    rw [h1]
    exact FR.execC hx c h2 hr
  | .exit id, _, _, a, b, H, e, s, h, hr => by
    simp only [Go.Ab.execC, Option.some.injEq, Prod.mk.injEq] at hr; obtain ⟨rfl, rfl⟩ := hr
    exact ⟨b, rfl, h⟩
  | .scope body cur, _, _, a, b, H, e, s, h, hr => by
    unfold Go.Ab.execC at hr ⊢
    split at hr
    · rename_i l st hc
      obtain ⟨b', h1, h2⟩ := FR.execC hx cur h hc
      rw [h1]
      simp only
      split at hr
      · exact hx _ _ _ _ _ _ _ _ h2 hr
      · simp only [Option.some.injEq, Prod.mk.injEq] at hr; obtain ⟨rfl, rfl⟩ := hr
        exact ⟨b', rfl, h2⟩
    · rename_i hne
      obtain ⟨b', h1, h2⟩ := FR.execC hx cur h hr
      rw [h1]
      cases e with
      | goto => exact absurd hr (hne _ _)
      | _ => exact ⟨b', rfl, h2⟩
  | .label _, _, _, a, b, H, e, s, h, hr => by
    simp only [Go.Ab.execC, Option.some.injEq, Prod.mk.injEq] at hr; obtain ⟨rfl, rfl⟩ := hr
    exact ⟨b, rfl, h⟩
  | .goto _, _, _, a, b, H, e, s, h, hr => by
    simp only [Go.Ab.execC, Option.some.injEq, Prod.mk.injEq] at hr; obtain ⟨rfl, rfl⟩ := hr
    exact ⟨b, rfl, h⟩
  | .ret, _, _, a, b, H, e, s, h, hr => by
    simp only [Go.Ab.execC, Option.some.injEq, Prod.mk.injEq] at hr; obtain ⟨rfl, rfl⟩ := hr
    exact ⟨b, rfl, h⟩
theorem exec_FR {env : Env} : ∀ n, ExFR (exec env n)
  | 0 => fun _ _ _ _ _ _ _ _ _ h => by simp [exec] at h
  | n + 1 => fun base bar c a b H e s h hr => by
    simp only [exec] at hr ⊢
    exact FR.execC (exec_FR n) c h hr
/-- code from the same slots in another order, where what comes later does not look at the order -/
theorem Wp.perm {env : Env} {base bar : Nat} {c : ACode} {a b : Frame} {H : Heap} {Q : PQ} (h : FR a b) (hq : ∀ e x y H', FR x y → Q e x H' → Q e y H') (hw : Wp env base bar c a H Q) : Wp env base bar c b H Q := by
  obtain ⟨n, e, s, h1, h2⟩ := hw
  obtain ⟨b', h3, h4⟩ := exec_FR n _ _ _ _ _ _ _ _ h h1
  exact ⟨n, e, _, h3, hq _ _ _ _ h4 h2⟩
end Go.Ab
end
section
namespace Go.Proofs.YtbkhffakhggdaaaDoor.Code
open Go Go.Ab Go.Sort
variable {p : Bool} {base bar : Nat} {H : Heap} {Q : AV → Heap → Prop} {K : AV → Heap → List Nat → Prop}
variable {α : Type} [Inhabited α] {val : α → AV} {lt : α → α → Bool} {cv : FuncId} {id ver n : Nat} {ex : Bool}
def acells (val : α → AV) (d : Array α) : List AV := d.toList.map val
/-- the heap, with the elements in their block -/
def putA (val : α → AV) (id ver : Nat) (ex : Bool) (H : Heap) (d : Array α) : Heap := H.set id (.row ver (acells val d) 0 ex)
theorem putA_len {d : Array α} : (putA val id ver ex H d).length = H.length := by simp [putA]
theorem putA_self {d : Array α} : (putA val id ver ex H d).take H.length = putA val id ver ex H d := List.take_of_length_le (by rw [putA_len]; exact Nat.le_refl _)
theorem w64 {x : Int} (h : -4611686018427387904 ≤ x ∧ x < 4611686018427387904) : IntKind.i64.wrap x = x := Go.IntWalk.i64_in _ (by omega)
end Go.Proofs.YtbkhffakhggdaaaDoor.Code
end
section
namespace Go.Proofs.YtbkhffakhggdaaaDoor.Code
open Go Go.Ab Go.Sort
variable {p : Bool} {base bar : Nat} {H : Heap} {Q : AV → Heap → Prop} {K : AV → Heap → List Nat → Prop}
variable {α : Type} [Inhabited α] {val : α → AV} {lt : α → α → Bool} {cv : FuncId} {id ver n : Nat} {ex : Bool}
end Go.Proofs.YtbkhffakhggdaaaDoor.Code
end
section
namespace Go.Proofs.YtbkhffakhggdaaaDoor.Code
open Go Go.Ab Go.Sort
variable {p : Bool} {base bar : Nat} {H : Heap} {Q : AV → Heap → Prop} {K : AV → Heap → List Nat → Prop}
variable {α : Type} [Inhabited α] {val : α → AV} {lt : α → α → Bool} {cv : FuncId} {id ver n : Nat} {ex : Bool}
end Go.Proofs.YtbkhffakhggdaaaDoor.Code
end
section
namespace Go.Proofs.YtbkhffakhggdaaaDoor.Code
open Go Go.Ab Go.Sort
variable {p : Bool} {base bar : Nat} {H : Heap} {Q : AV → Heap → Prop} {K : AV → Heap → List Nat → Prop}
variable {α : Type} [Inhabited α] {val : α → AV} {lt : α → α → Bool} {cv : FuncId} {id ver n : Nat} {ex : Bool}
end Go.Proofs.YtbkhffakhggdaaaDoor.Code
end
section
namespace Go.Proofs.YtbkhffakhggdaaaDoor.Code
open Go Go.Ab Go.Sort
variable {p : Bool} {base bar : Nat} {H : Heap} {Q : AV → Heap → Prop} {K : AV → Heap → List Nat → Prop}
variable {α : Type} [Inhabited α] {val : α → AV} {lt : α → α → Bool} {cv : FuncId} {id ver n : Nat} {ex : Bool}
end Go.Proofs.YtbkhffakhggdaaaDoor.Code
end
section
namespace Go.Proofs.YtbkhffakhggdaaaDoor.Code
open Go Go.Ab Go.Sort
variable {p : Bool} {base bar : Nat} {H : Heap} {Q : AV → Heap → Prop} {K : AV → Heap → List Nat → Prop}
variable {α : Type} [Inhabited α] {val : α → AV} {lt : α → α → Bool} {cv : FuncId} {id ver n : Nat} {ex : Bool}
end Go.Proofs.YtbkhffakhggdaaaDoor.Code
end
section
namespace Go.Proofs.YtbkhffakhggdaaaDoor.Code
open Go Go.Ab Go.Sort
variable {p : Bool} {base bar : Nat} {H : Heap} {Q : AV → Heap → Prop} {K : AV → Heap → List Nat → Prop}
variable {α : Type} [Inhabited α] {val : α → AV} {lt : α → α → Bool} {cv : FuncId} {id ver n : Nat} {ex : Bool}
end Go.Proofs.YtbkhffakhggdaaaDoor.Code
end
section
namespace Go.Proofs.YtbkhffakhggdaaaDoor.Code
open Go Go.Ab Go.Sort
variable {p : Bool} {base bar : Nat} {H : Heap} {Q : AV → Heap → Prop} {K : AV → Heap → List Nat → Prop}
variable {α : Type} [Inhabited α] {val : α → AV} {lt : α → α → Bool} {cv : FuncId} {id ver n : Nat} {ex : Bool}
end Go.Proofs.YtbkhffakhggdaaaDoor.Code
end
section
namespace Go.Proofs.YtbkhffakhggdaaaDoor.Code
open Go Go.Ab Go.Sort
variable {p : Bool} {base bar : Nat} {H : Heap} {Q : AV → Heap → Prop} {K : AV → Heap → List Nat → Prop}
variable {α : Type} [Inhabited α] {val : α → AV} {lt : α → α → Bool} {cv : FuncId} {id ver n : Nat} {ex : Bool}
end Go.Proofs.YtbkhffakhggdaaaDoor.Code
end
section
namespace Go.Proofs.YtbkhffakhggdaaaDoor.Code
open Go Go.Ab Go.Sort
variable {p : Bool} {base bar : Nat} {H : Heap} {Q : AV → Heap → Prop} {K : AV → Heap → List Nat → Prop}
variable {α : Type} [Inhabited α] {val : α → AV} {lt : α → α → Bool} {cv : FuncId} {id ver n : Nat} {ex : Bool}
/-! 114: pdqsort -/
def F114 (id ver n : Nat) (cv : FuncId) (a b limit : Nat) (wb wp : Bool) : Ab.Frame :=
  [(0, .vec id ver 0 n 1), (1, .int .i64 (a : Int)), (2, .int .i64 (b : Int)), (3, .int .i64 (limit : Int)), (4, .fn cv [] []), (10, .bool wb), (11, .bool wp)]
def LoopOK (val : α → AV) (lt : α → α → Bool) (cv : FuncId) (id ver n : Nat) (ex : Bool) (bar : Nat) (H : Heap) (m : Nat) : Prop :=
  ∀ (a b limit : Nat) (wb wp : Bool) (d : Array α) (base : Nat), d.size = n → a ≤ b → b ≤ n → b - a ≤ m → limit < 1000 →
    Wp E base bar (.loop c114_l0) (F114 id ver n cv a b limit wb wp) (putA val id ver ex H d) (fun e _ H' => e = .ret ∧ H' = putA val id ver ex H (pdq lt d a b limit wb wp))
theorem LoopOK.go {m : Nat} (ih : LoopOK val lt cv id ver n ex bar H m) {a b limit : Nat} {wb wp : Bool} {d : Array α} {fr : Ab.Frame} {R : PQ} (hd : d.size = n) (hab : a ≤ b) (hbn : b ≤ n) (hm : b - a ≤ m) (hl : limit < 1000)
    (hn : (fr.map (·.1)).Nodup) (hf : ∀ t, fget t (F114 id ver n cv a b limit wb wp) = fget t fr)
    (h : ∀ fr, R .ret fr (putA val id ver ex H (pdq lt d a b limit wb wp))) : Wp E base bar (.loop c114_l0) fr (putA val id ver ex H d) R := by
  have h1 := ih a b limit wb wp d base hd hab hbn hm hl
  have h0 : ((F114 id ver n cv a b limit wb wp).map (·.1)).Nodup := (show ([0, 1, 2, 3, 4, 10, 11] : List Nat).Nodup by decide)
  have h2 := Wp.perm (FR.of_get h0 hn hf) (fun _ _ _ _ _ h => h) h1
  exact h2.mono fun e fr H ⟨e1, e2⟩ => by subst e1 e2; exact h fr
theorem LoopOK.call {m : Nat} (ih : LoopOK val lt cv id ver n ex bar H m) {a b limit : Nat} {d : Array α} (hd : d.size = n) (hab : a ≤ b) (hbn : b ≤ n) (hm : b - a ≤ m) (hl : limit < 1000)
    (h : Q (.tup []) (putA val id ver ex H (pdq lt d a b limit true true))) :
    WpCall E false base bar 114 [.vec id ver 0 n 1, .int .i64 (a : Int), .int .i64 (b : Int), .int .i64 (limit : Int), .fn cv [] []] (putA val id ver ex H d) Q := by
  rw [call114]
  simp [go_sem, WpFun, c114]
  refine ih.go hd hab hbn hm hl (show ([0, 1, 2, 3, 4, 10, 11] : List Nat).Nodup by decide) (fun t => rfl) fun fr => ?_
  simp [go_sem, putA_len, putA_self]
  exact h
end Go.Proofs.YtbkhffakhggdaaaDoor.Code
end
section
namespace Go.Proofs.YtbkhffakhggdaaaDoor.Code
open Go Go.Ab Go.Sort
variable {p : Bool} {base bar : Nat} {H : Heap} {Q : AV → Heap → Prop} {K : AV → Heap → List Nat → Prop}
variable {α : Type} [Inhabited α] {val : α → AV} {lt : α → α → Bool} {cv : FuncId} {id ver n : Nat} {ex : Bool}
end Go.Proofs.YtbkhffakhggdaaaDoor.Code
end
section
namespace Go.Proofs.YtbkhffakhggdaaaDoor.Code
open Go Go.Ab Go.Sort
variable {pure : Bool} {base bar : Nat} {H : Heap} {Q : AV → Heap → Prop} {K : AV → Heap → List Nat → Prop}
/-! the order of trays -/
def key (x : Nat) : Nat := (allS 6).idxOf x
end Go.Proofs.YtbkhffakhggdaaaDoor.Code
end
section
namespace Go.Proofs.YtbkhffakhggdaaaDoor.Code
open Go Go.Ab
variable {pure : Bool} {base bar : Nat} {H : Heap} {Q : AV → Heap → Prop} {K : AV → Heap → List Nat → Prop}
end Go.Proofs.YtbkhffakhggdaaaDoor.Code
end
section
namespace Go.Proofs.YtbkhffakhggdaaaDoor.Code
open Go Go.Ab Go.Sort
variable {pure : Bool} {base bar : Nat} {H : Heap} {Q : AV → Heap → Prop} {K : AV → Heap → List Nat → Prop}
/-- a list of trays under construction, wherever its block lies -/
def OwnZ (k : Nat) (S : List Nat) (v : AV) (H : Heap) : Prop :=
  (S = [] ∧ v = .nils) ∨ ∃ id ver, S ≠ [] ∧ k ≤ id ∧ v = .vec id ver 0 S.length 1 ∧ H[id]? = some (.row ver (dys S) 0 false)
theorem OwnZ.app {k x : Nat} {S : List Nat} {acc : AV} {H2 : Heap} {bytes : Nat} (g : OwnZ k S acc H2) (hk : k ≤ H2.length) (hb : bar ≤ k) (hbase : base ≤ k) (hlen : (S.length + 1) * bytes ≤ 140737488355328) :
    ∃ v' H' tc, aappend base bar H2 1 bytes acc [dy x] = some (v', H', tc) ∧ OwnZ k (S ++ [x]) v' H' ∧ k ≤ H'.length ∧ H'.take k = H2.take k := by
  rcases g with ⟨rfl, rfl⟩ | ⟨id, ver, hne, hid, rfl, hrow⟩
  · refine ⟨.vec H2.length 0 0 1 1, H2 ++ [.row 0 [dy x] 0 false], [], ?_, .inr ⟨H2.length, 0, by simp, hk, rfl, by simp [dys]⟩, by simp; omega, ?_⟩
    · simp only [aappend]
      rw [if_neg (by simp), if_pos (by simpa using hlen)]
      simp
    · rw [List.take_append_of_le_length hk]
  · have hlt := (List.getElem?_eq_some_iff.1 hrow).1
    refine ⟨.vec id (ver + 1) 0 (S.length + 1) 1, H2.set id (.row (ver + 1) (dys (S ++ [x])) 0 false), [id], ?_, .inr ⟨id, ver + 1, by simp, hid, by simp, by simp [hlt]⟩, by simp; omega, ?_⟩
    · simp only [aappend, if_neg (show ¬ (1 : Nat) ≠ 1 by simp), hrow]
      have hl : (dys S).length = S.length := dys_length
      rw [if_neg (by simp [hl]; omega), if_neg (by simp), if_neg (by simp [hl])]
      simp only [Bool.false_eq_true, if_false]
      rw [if_pos ⟨trivial, by simp, by omega, .inl (by omega)⟩]
      simp only [Nat.mul_one, Nat.zero_add, List.length_singleton, Nat.div_one, dys_append]
      have e1 : (dys S).take S.length ++ [dy x] = dys S ++ dys [x] := by
        rw [List.take_of_length_le (by rw [hl]; exact Nat.le_refl _)]; rfl
      rw [e1]
    · rw [List.take_set]
      rw [List.set_eq_of_length_le (by simp; omega)]
end Go.Proofs.YtbkhffakhggdaaaDoor.Code
end
section
namespace Go.Proofs.YtbkhffakhggdaaaDoor.Code
open Go Go.Ab
end Go.Proofs.YtbkhffakhggdaaaDoor.Code
end
section
namespace Go.Proofs.YtbkhffakhggdaaaDoor.Code
open Go Go.Ab Go.Sort
variable {pure : Bool} {base bar : Nat} {H : Heap} {Q : AV → Heap → Prop} {K : AV → Heap → List Nat → Prop}
/-! 16, 18: shadow and shade -/
theorem opS_nodup {n : Int} : ∀ {ls : List (List Int)} {done : List Nat}, done.Nodup → (opS n done ls).2.Nodup
  | [], done, h => by simpa [opS] using h
  | l :: r, done, h => by
    simp only [opS]
    split
    · simp
    · split
      · simp
      · rename_i hc
        refine opS_nodup ?_
        rw [List.nodup_append]
        refine ⟨h, by simp, fun a ha b hb => ?_⟩
        simp at hb; subst hb
        intro e; subst e
        exact hc (by simpa using ha)
theorem len64 {l : List Nat} (hn : l.Nodup) (h : ∀ x ∈ l, x < 64) : l.length ≤ 64 := by
  have := List.Nodup.length_le_of_subset hn (l₂ := List.range 64) fun x hx => List.mem_range.2 (h x hx)
  simpa using this
theorem pw_64 {n x : Nat} (hn : n ≤ 6) (h : x < pw n) : x < 64 := Nat.lt_of_lt_of_le h (Nat.pow_le_pow_right (by decide) hn)
end Go.Proofs.YtbkhffakhggdaaaDoor.Code
end
section
namespace Go.Proofs.YtbkhffakhggdaaaDoor.Code
open Go Go.Ab Go.Sort
variable {pure : Bool} {base bar : Nat} {H : Heap} {Q : AV → Heap → Prop} {K : AV → Heap → List Nat → Prop}
theorem beqN {a b : Nat} : Nat.beq a b = decide (a = b) := by
  by_cases h : a = b
  · subst h; simp
  · rw [decide_eq_false h]
    cases hb : Nat.beq a b
    · rfl
    · exact (h (Nat.eq_of_beq_eq_true hb)).elim
end Go.Proofs.YtbkhffakhggdaaaDoor.Code
end
section
namespace Go.Proofs.YtbkhffakhggdaaaDoor.Code
open Go Go.Ab Go.Sort
variable {pure : Bool} {base bar : Nat} {H : Heap} {Q : AV → Heap → Prop} {K : AV → Heap → List Nat → Prop}
theorem ownNat {k bytes x : Nat} {A : List Nat} {v : AV} {ex : Bool} (g : Own k 1 (nats A) v H) (hk : k ≤ H.length) (hb : bar ≤ k) (hbase : base ≤ k) (hlen : (A.length + 1) * bytes ≤ 140737488355328)
    (h : ∀ v' H' tc, Own k 1 (nats (A ++ [x])) v' H' → Kept1 v v' H H' tc → K v' H' tc) : appWp base bar 1 bytes (some v) (some (.lst 1 ex [.int .i64 (x : Int)])) H K := by
  refine g.app hk (by omega) (Nat.one_dvd _) (fun c hc => ?_) rfl (Nat.one_dvd _) hb hbase ?_ fun v' H' tc g' kp => h v' H' tc ?_ kp
  · simp [AV.cells] at hc; subst hc; exact Plain.int
  · simpa [nats, AV.cells] using hlen
  · simpa [nats, AV.cells] using g'
end Go.Proofs.YtbkhffakhggdaaaDoor.Code
end
section
namespace Go.Proofs.YtbkhffakhggdaaaDoor.Code
open Go Go.Ab Go.Sort
variable {pure : Bool} {base bar : Nat} {H : Heap} {Q : AV → Heap → Prop} {K : AV → Heap → List Nat → Prop}
end Go.Proofs.YtbkhffakhggdaaaDoor.Code
end
section
namespace Go.Proofs.YtbkhffakhggdaaaDoor.Code
open Go Go.Ab
variable {pure : Bool} {base bar : Nat} {H : Heap} {Q : AV → Heap → Prop} {K : AV → Heap → List Nat → Prop}
/-! 42: the reference's check of any shelf -/
def rfC (n : Int) : List (List Int) → List (List Int) → Int
  | _, [] => 0
  | done, l :: r => if errT n (-1) l ≠ 0 then errT n (-1) l else if done.contains l then 6 else rfC n (done ++ [l]) r
theorem rfC_opS {n : Nat} (h1 : 1 ≤ n) (hn : n ≤ 6) : ∀ {ls : List (List Int)} {S : List Nat}, (∀ x ∈ S, x < 64) → rfC n (S.map dyL) ls = (opS n S ls).1
  | [], S, _ => by simp [rfC, opS]
  | l :: r, S, hS => by
    simp only [rfC, opS]
    by_cases he : errT n (-1) l = 0
    · simp only [he, ne_eq, not_true_eq_false, if_false]
      obtain ⟨e1, e2⟩ := dyL_of h1 hn he
      have e64 : orT 0 l < 64 := pw_64 hn e1
      have hc : (S.map dyL).contains l = S.contains (orT 0 l) := by
        rw [Bool.eq_iff_iff, List.contains_iff_mem, List.contains_iff_mem, List.mem_map]
        constructor
        · rintro ⟨x, hx, e⟩
          rw [e2] at e
          rwa [← dyL_inj (hS x hx) e64 e]
        · exact fun h => ⟨_, h, e2.symm⟩
      rw [hc]
      split
      · rfl
      · have := rfC_opS h1 hn (ls := r) (S := S ++ [orT 0 l]) (fun x hx => by
          rcases List.mem_append.1 hx with hx | hx
          · exact hS x hx
          · simp at hx; omega)
        rw [← this, List.map_append, List.map_singleton, ← e2]
    · rw [if_pos he, if_pos he]
theorem l42_1 {id ver fz i : Nat} {ex : Bool} {n : Int} {q v : AV} {l : List Int} {ls : List (List Int)} (hq : isVV q ls) (hv : isV v l) (hl : l.length < 1000) (hll : ∀ l ∈ ls, l.length < 1000) (hi : i < ls.length) (hi2 : i < 1000) (hid : H[id]? = some (.row ver [.int .i64 n, q] fz ex)) {R : PQ} :
    ∀ (c k : Nat), k + c = i →
    (((ls.take i).drop k).contains l = true → R .ret [(2, .int .i64 6)] H) →
    (((ls.take i).drop k).contains l = false → R (.exit 4) [(1, .ptr id ver 0), (3, .int .i64 (i : Int)), (4, v), (6, .int .i64 (i : Int)), (54, .bool false)] H) →
    Wp E base bar (.loop c42_l1) [(1, .ptr id ver 0), (3, .int .i64 (i : Int)), (4, v), (6, .int .i64 (k : Int))] H R := by
  have ld : aload H ⟨false, 1⟩ (.ptr id ver 1) = some q := by rw [aload_ptr hid]; rfl
  have hlt' := (List.getElem?_eq_some_iff.1 hid).1
  intro c
  induction c with
  | zero =>
    intro k hk h1 h2
    obtain rfl : k = i := by omega
    rw [List.drop_eq_nil_of_le (by rw [List.length_take]; omega)] at h2
    rw [wp_round c42_l1.eq_1]
    simp [go_sem]
    exact h2 rfl
  | succ c ih =>
    intro k hk h1 h2
    have hki : k < i := by omega
    have hkl : k < (ls.take i).length := by simp; omega
    rw [List.drop_eq_getElem_cons hkl, List.contains_cons] at h1 h2
    obtain ⟨w, hw, hix⟩ := hq.ix (i := k) (by omega)
    have hwl : (ls[k]'(by omega)).length < 1000 := hll _ (List.getElem_mem _)
    rw [show (ls.take i)[k] = ls[k]'(by omega) by simp] at h1 h2
    generalize ls[k]'(by omega) = m at *
    have hs := i64_suc (show k < 1000000 by omega)
    rw [wp_round c42_l1.eq_1]
    simp [go_sem, hki, ld, hix, hw.fp]
    refine k86 hw hv hwl hl ?_
    by_cases he : m = l
    · subst he
      simp at h1
      simp [go_sem]
      exact h1
    · rw [show (l == m) = false by simpa using fun e => he e.symm, Bool.false_or] at h1 h2
      have next := ih (k + 1) (by omega) h1 h2
      simp [go_sem, he, hs]
      exact next
theorem l42_2 {id ver fz : Nat} {ex : Bool} {n : Nat} {q : AV} {ls : List (List Int)} (hn1 : 1 ≤ n) (hn : n ≤ 6) (hq : isVV q ls) (hl : ls.length < 1000) (hll : ∀ l ∈ ls, l.length < 1000) (hid : H[id]? = some (.row ver [.int .i64 (n : Int), q] fz ex)) {R : PQ} :
    ∀ (c i : Nat), i + c = ls.length →
    (rfC n (ls.take i) (ls.drop i) ≠ 0 → R .ret [(2, .int .i64 (rfC n (ls.take i) (ls.drop i)))] H) →
    (rfC n (ls.take i) (ls.drop i) = 0 → R (.exit 0) [(1, .ptr id ver 0), (3, .int .i64 (ls.length : Nat)), (15, .bool false)] H) →
    Wp E base bar (.loop c42_l2) [(1, .ptr id ver 0), (3, .int .i64 (i : Int))] H R := by
  have ld : aload H ⟨false, 1⟩ (.ptr id ver 1) = some q := by rw [aload_ptr hid]; rfl
  have hlt' := (List.getElem?_eq_some_iff.1 hid).1
  intro c
  induction c with
  | zero =>
    intro i hi h1 h2
    obtain rfl : i = ls.length := by omega
    rw [List.drop_length] at h2
    rw [wp_round c42_l2.eq_1]
    simp [go_sem, ld, hq.len]
    exact h2 rfl
  | succ c ih =>
    intro i hi h1 h2
    have hlt : i < ls.length := by omega
    have htk : ls.take (i + 1) = ls.take i ++ [ls[i]] := by rw [List.take_succ_eq_append_getElem hlt]
    rw [List.drop_eq_getElem_cons hlt] at h1 h2
    obtain ⟨v, hv, hix⟩ := hq.ix (i := i) hlt
    have hvl := hll _ (List.getElem_mem hlt)
    have ih' := ih (i + 1) (by omega)
    rw [htk] at ih'
    generalize ls[i] = l at *
    have hs := i64_suc (show i < 1000000 by omega)
    simp only [rfC] at h1 h2
    rw [wp_round c42_l2.eq_1]
    simp [go_sem, hlt, ld, hq.len, hix, hv.fp]
    refine l42_0 (q := q) hn1 hn hv hvl hid l.length 0 (-1) (by omega) (.inl ⟨rfl, rfl⟩) (fun e => ?_) (fun e => ?_)
    · rw [List.drop_zero] at e
      rw [if_pos e] at h1
      rw [List.drop_zero]
      simp [go_sem]
      exact h1 e
    · rw [List.drop_zero] at e
      rw [if_neg (by simp [e])] at h1 h2
      simp [go_sem]
      refine l42_1 hq hv hvl hll hlt (by omega) hid i 0 (by omega) (fun ec => ?_) (fun ec => ?_)
      · rw [List.drop_zero] at ec
        rw [if_pos ec] at h1
        simp [go_sem]
        exact h1 (by decide)
      · rw [List.drop_zero] at ec
        rw [if_neg (by simpa using ec)] at h1 h2
        have next := ih' h1 h2
        simp [go_sem, hs]
        exact next
theorem k42w {n : Nat} {q : AV} {ls : List (List Int)} (h1 : 1 ≤ n) (hn : n ≤ 6) (hq : isVV q ls) (hl : ls.length < 1000) (hll : ∀ l ∈ ls, l.length < 1000) (h : Q (.int .i64 (opS n [] ls).1) H) : WpCall E pure base bar 42 [.agg [.int .i64 (n : Int), q]] H Q := by
  have hr := rfC_opS h1 hn (ls := ls) (S := []) (by simp)
  rw [← hr] at h
  have hb : (decide (1 ≤ (n : Int)) && decide ((n : Int) ≤ 6)) = true := by
    rw [Bool.and_eq_true, decide_eq_true_eq, decide_eq_true_eq]; omega
  rw [call42]
  simp [go_sem, WpFun, c42, hq.frz, hq.cells, box0, box1]
  refine k84 ?_
  rw [hb]
  simp [go_sem]
  refine l42_2 (id := H.length) (ver := 0) (fz := 0) (ex := true) h1 hn hq hl hll (by rw [own_get0]; rfl) ls.length 0 (by omega) (fun e => ?_) (fun e => ?_)
  · rw [List.take_zero, List.drop_zero] at e ⊢
    simp [go_sem]
    exact h
  · rw [List.take_zero, List.drop_zero] at e
    have h' : Q (.int .i64 0) H := by rw [← e]; exact h
    simp [go_sem]
    exact h'
end Go.Proofs.YtbkhffakhggdaaaDoor.Code
end
section
namespace Go.Proofs.YtbkhffakhggdaaaDoor.Code
open Go Go.Ab
variable {pure : Bool} {base bar : Nat} {H : Heap} {Q : AV → Heap → Prop} {K : AV → Heap → List Nat → Prop}
/-! 71: near, of any shelf's trays -/
theorem k92v {a b : Nat} {v w : AV} (ha : a < 64) (hb : b < 64) (hv : isV v (dyL a)) (hw : isV w (dyL b)) (h : Q (.bool (subB a b)) H) : WpCall E pure base bar 92 [v, w] H Q := by
  refine k92 hv hw (dyL_lt ha) (dyL_lt hb) ?_
  rw [dyL_sub ha hb]; exact h
end Go.Proofs.YtbkhffakhggdaaaDoor.Code
end
section
namespace Go.Proofs.YtbkhffakhggdaaaDoor.Code
open Go Go.Ab
variable {pure : Bool} {base bar : Nat} {H : Heap} {Q : AV → Heap → Prop} {K : AV → Heap → List Nat → Prop}
/-! any shelf as an argument -/
/-- the error of a shelf -/
def errZ (z : Int) (ls : List (List Int)) : Int := if 1 ≤ z ∧ z ≤ 6 then (opS z [] ls).1 else 1
theorem nearS_lt {z : Int} {ls : List (List Int)} (h : 1 ≤ z ∧ z ≤ 6) (he : (opS z [] ls).1 = 0) : ∀ x ∈ (opS z [] ls).2, x < pw z.toNat := by
  obtain ⟨n, rfl⟩ := Int.eq_ofNat_of_zero_le (show 0 ≤ z by omega)
  rw [Int.toNat_natCast]
  exact opS_lt (n := n) (by omega) (by omega) (by simp) he
/-- the lists that were checked are those of their sets -/
theorem opS_map {n : Nat} (h1 : 1 ≤ n) (hn : n ≤ 6) : ∀ {ls : List (List Int)} {S : List Nat}, (opS n S ls).1 = 0 → S.map dyL ++ ls = (opS n S ls).2.map dyL
  | [], S, _ => by simp [opS]
  | l :: r, S, h => by
    simp only [opS] at h ⊢
    by_cases he : errT n (-1) l = 0
    · simp only [he, ne_eq, not_true_eq_false, if_false] at h ⊢
      by_cases hc : S.contains (orT 0 l) = true
      · rw [if_pos hc] at h; cases h
      · rw [if_neg hc] at h ⊢
        have := opS_map h1 hn (ls := r) (S := S ++ [orT 0 l]) h
        rw [← this, List.map_append, List.map_singleton, ← (dyL_of h1 hn he).2, List.append_assoc]
        rfl
    · rw [if_pos he] at h
      exact (he h).elim
theorem k42z {z : Int} {q : AV} {ls : List (List Int)} (hq : isVV q ls) (hl : ls.length < 1000) (hll : ∀ l ∈ ls, l.length < 1000) (h : Q (.int .i64 (errZ z ls)) H) : WpCall E pure base bar 42 [.agg [.int .i64 z, q]] H Q := by
  unfold errZ at h
  by_cases hz : 1 ≤ z ∧ z ≤ 6
  · rw [if_pos hz] at h
    obtain ⟨n, rfl⟩ := Int.eq_ofNat_of_zero_le (show 0 ≤ z by omega)
    exact k42w (by omega) (by omega) hq hl hll h
  · rw [if_neg hz] at h
    exact k42o hz (fun _ _ _ => hq.frz) hq.cells h
/-! 14: much too large? -/
def lg (ls : List (List Int)) : Bool := decide (80 < ls.length) || ls.any fun l => decide (30 < l.length)
theorem l14 {z : Int} {q : AV} {ls : List (List Int)} {id ver fz : Nat} {ex : Bool} (hq : isVV q ls) (hl : ls.length ≤ 80) (hid : H[id]? = some (.row ver [.int .i64 z, q] fz ex)) {R : PQ} : ∀ (k i : Nat), i + k = ls.length →
    ((ls.drop i).any (fun l => decide (30 < l.length)) = true → R .ret [(2, .bool true)] H) →
    ((ls.drop i).any (fun l => decide (30 < l.length)) = false → R (.exit 0) [(1, .ptr id ver 0), (3, .int .i64 (ls.length : Nat)), (12, .bool false)] H) →
    Wp E base bar (.loop c14_l0) [(1, .ptr id ver 0), (3, .int .i64 (i : Int))] H R := by
  have ld : aload H ⟨false, 1⟩ (.ptr id ver 1) = some q := by rw [aload_ptr hid]; rfl
  intro k
  induction k with
  | zero =>
    intro i hi h1 h2
    obtain rfl : i = ls.length := by omega
    rw [List.drop_length] at h2
    rw [wp_round c14_l0.eq_1]
    simp [go_sem, ld, hq.len]
    exact h2 rfl
  | succ k ih =>
    intro i hi h1 h2
    have hlt : i < ls.length := by omega
    rw [List.drop_eq_getElem_cons hlt, List.any_cons] at h1 h2
    obtain ⟨v, hv, hix⟩ := hq.ix (i := i) hlt
    generalize ls[i] = l at *
    have hs := i64_suc (show i < 1000000 by omega)
    rw [wp_round c14_l0.eq_1]
    by_cases hb : 30 < l.length
    · have hb1 : (30 : Int) < (l.length : Int) := by omega
      have := h1 (by simp [hb])
      simp [go_sem, ld, hq.len, hlt, hix, hv.fp, hv.len, hb1]
      exact this
    · have hb1 : ¬ (30 : Int) < (l.length : Int) := by omega
      rw [show decide (30 < l.length) = false from decide_eq_false hb, Bool.false_or] at h1 h2
      simp [go_sem, ld, hq.len, hlt, hix, hv.fp, hv.len, hb1, hs]
      exact ih (i + 1) (by omega) h1 h2
theorem k14 {z : Int} {q : AV} {ls : List (List Int)} (hq : isVV q ls) (h : Q (.bool (lg ls)) H) : WpCall E pure base bar 14 [.agg [.int .i64 z, q]] H Q := by
  unfold lg at h
  rw [call14]
  by_cases hb : 80 < ls.length
  · have hb1 : (80 : Int) < (ls.length : Int) := by omega
    rw [show decide (80 < ls.length) = true from decide_eq_true hb, Bool.true_or] at h
    simp [go_sem, WpFun, c14, hq.frz, box1, hq.len, hb1]
    exact h
  · have hb1 : ¬ (80 : Int) < (ls.length : Int) := by omega
    rw [show decide (80 < ls.length) = false from decide_eq_false hb, Bool.false_or] at h
    simp [go_sem, WpFun, c14, hq.frz, box1, hq.len, hb1]
    refine l14 (id := H.length) (ver := 0) (fz := 0) (ex := true) (z := z) hq (by omega) (by rw [own_get0]; rfl) ls.length 0 (by omega) (fun e => ?_) (fun e => ?_)
    all_goals
      rw [List.drop_zero] at e
      rw [e] at h
      simp [go_sem]
      exact h
end Go.Proofs.YtbkhffakhggdaaaDoor.Code
end
section
namespace Go.Proofs.YtbkhffakhggdaaaDoor.Code
open Go Go.Ab Go.RowKit Go.ChangeShapes Go.WideShapes
variable {H : Type} {enc : TypeId × Value → H} {P : Program} {W : World} {spare : Nat → Bool} {held : Bool}
/-! a shelf as an argument: lists of lists -/
theorem allV_get : ∀ {vs : List AV} {ls : List (List Int)}, vs.length = ls.length → (∀ (i : Nat) (v : AV) (l : List Int), vs[i]? = some v → ls[i]? = some l → isV v l) → allV vs ls
  | [], [], _, _ => trivial
  | v :: vs, l :: ls, h, g => ⟨g 0 v l rfl rfl, allV_get (by simpa using h) fun i v l hv hl => g (i + 1) v l hv hl⟩
  | [], _ :: _, h, _ => by simp at h
  | _ :: _, [], h, _ => by simp at h
theorem isV.one {v : AV} {l : List Int} (h : isV v l) : v.one = true := by
  rcases h with ⟨rfl, rfl⟩ | rfl <;> rfl
theorem addr_add (b o n : Nat) : (⟨b, o, none⟩ : Addr).add n = ⟨b, o + n, none⟩ := by
  unfold Addr.add
  split <;> simp_all
theorem cell_block {b o : Nat} {u : Value} (hu : W.cell? ⟨b, o, none⟩ = some u) : b < W.heap.size := by
  unfold World.cell? at hu
  split at hu
  · rename_i hh; exact (Array.getElem?_eq_some_iff.1 hh).1
  · cases hu
/-- a list of numbers in a cell -/
theorem vints_cell {t e : TypeId} {v : Value} {fuel : Nat} {x : DataW H × List MemPlace} (ht : P.underlying t = some (.slice e)) (he : P.underlying e = some (.int .i64)) (ce : P.cellsOf e = 1)
    (h : DataW.trod enc P W 0 spare held fuel t [v] = some x) : ∃ q l, VR (ctx0 W) q v ∧ isV q l := by
  rcases DataW.trod_slice ht h with ⟨h1, _⟩ | ⟨a, len, cap, elems, rest, k, rfl, h1, h2, h3, h4, h5, h6, h7, h8⟩
  · simp only [List.cons.injEq, and_true] at h1
    subst h1
    exact ⟨.nils, [], .nils, .inl ⟨rfl, rfl⟩⟩
  · simp only [List.cons.injEq, and_true] at h1
    subst h1
    rw [ce] at h7
    by_cases h0 : len = 0
    · subst h0
      exact ⟨.lst 1 false [], [], .emp 1 false a cap (by simp), .inr rfl⟩
    have hcell : ∀ i, i < len → ∃ z : Int, W.cell? (a.add (i * 1)) = some (.int .i64 z) := fun i hi => by
      have hbind := h7 i hi
      rw [List.getElem?_eq_getElem (by omega)] at hbind
      simp only [Option.bind_eq_some_iff] at hbind
      obtain ⟨cs, hc1, hc2⟩ := hbind
      obtain ⟨_, hlen, hcell⟩ := World.cells?_some hc1
      obtain ⟨z, hz, _, _⟩ := DataW.trod_int he hc2
      have := hcell 0 (by omega)
      rw [hz] at this
      refine ⟨z, ?_⟩
      have e1 : ∀ x : Addr, x.add 0 = x := fun x => by unfold Addr.add; rw [if_pos rfl]
      rwa [e1] at this
    have hs : a.spot = none := by
      obtain ⟨z, hz⟩ := hcell 0 (by omega)
      have := World.cell?_spot hz
      simpa [Addr.add] using this
    obtain ⟨b, o, sp⟩ := a
    simp only at hs
    subst hs
    obtain ⟨Y, hY⟩ := Go.Deep.choose_lt hcell
    let l : List Int := (List.range len).map Y
    have hll : l.length = len := by simp [l]
    have hli : ∀ i y, (ints l)[i]? = some y → i < len ∧ y = .int .i64 (Y i) := fun i y hy => by
      have hlt : i < (ints l).length := (List.getElem?_eq_some_iff.1 hy).1
      have hlt' : i < len := by simpa [ints, hll] using hlt
      refine ⟨hlt', ?_⟩
      simp [ints, l, hlt'] at hy
      exact hy.symm
    refine ⟨.lst 1 false (ints l), l, ?_, .inr rfl⟩
    have hv := VR.lst (Γ := ctx0 W) 1 false (ints l) b o cap (fun i j => (W.cell? ⟨b, o + i * 1 + j, none⟩).getD default) (by simp [ints, hll]; omega) (by simp) (fun y hy => by
        obtain ⟨i, hi⟩ := List.getElem?_of_mem hy
        obtain ⟨_, rfl⟩ := hli i y hi
        exact ⟨rfl, fun c hc => by simp [AV.cells] at hc; subst hc; rfl⟩) (fun i y j c hy hc => by
        obtain ⟨hlt, rfl⟩ := hli i y hy
        have hj : j = 0 := by
          have := (List.getElem?_eq_some_iff.1 hc).1
          simp [AV.cells] at this; omega
        subst hj
        have hu := hY i hlt
        rw [addr_add] at hu
        rw [Nat.add_zero]
        exact ⟨by show W.cell? _ = _; rw [hu]; rfl, cell_block hu⟩) (fun i y j c hy hc => by
        obtain ⟨hlt, rfl⟩ := hli i y hy
        have hj : j = 0 := by
          have := (List.getElem?_eq_some_iff.1 hc).1
          simp [AV.cells] at this; omega
        subst hj
        simp [AV.cells] at hc
        subst hc
        have hu := hY i hlt
        rw [addr_add] at hu
        simp only [Nat.add_zero, hu, Option.getD_some]
        exact .int _ _)
    have hx : (ints l).length = len := by simp [ints, hll]
    rw [hx] at hv
    exact hv
/-- a list of lists -/
theorem vvints_vr {t t2 e : TypeId} {v : Value} {fuel : Nat} {x : DataW H × List MemPlace} (ht : P.underlying t = some (.slice t2)) (h2 : P.underlying t2 = some (.slice e)) (c2 : P.cellsOf t2 = 1) (he : P.underlying e = some (.int .i64)) (ce : P.cellsOf e = 1)
    (h : DataW.trod enc P W 0 spare held fuel t [v] = some x) {r : Reach} {b0 : Nat} (hok : Cell.okWide P W r b0 t v) : ∃ q ls, VR (ctx0 W) q v ∧ isVV q ls := by
  rcases DataW.trod_slice ht h with ⟨h1, _⟩ | ⟨a, len, cap, elems, rest, k, rfl, h1, h2', h3, h4, h5, h6, h7, h8⟩
  · simp only [List.cons.injEq, and_true] at h1
    subst h1
    exact ⟨.nils, [], .nils, .inl ⟨rfl, rfl⟩⟩
  · simp only [List.cons.injEq, and_true] at h1
    subst h1
    rw [c2] at h7
    have hs : a.spot = none := by
      unfold Cell.okWide at hok
      rw [ht] at hok
      simp only at hok
      unfold Cell.ok at hok
      rw [ht] at hok
      exact hok.2.2.2.1
    obtain ⟨b, o, sp⟩ := a
    simp only at hs
    subst hs
    have hcell : ∀ i, i < len → ∃ p : (AV × List Int), isV p.1 p.2 ∧ ∃ u, W.cell? ⟨b, o + i * 1, none⟩ = some u ∧ VR (ctx0 W) p.1 u := fun i hi => by
      have hbind := h7 i hi
      rw [List.getElem?_eq_getElem (by omega)] at hbind
      simp only [Option.bind_eq_some_iff] at hbind
      obtain ⟨cs, hc1, hc2⟩ := hbind
      obtain ⟨_, hlen, hcell⟩ := World.cells?_some hc1
      obtain ⟨u, rfl⟩ : ∃ u, cs = [u] := by
        match cs, hlen with
        | [u], _ => exact ⟨u, rfl⟩
      obtain ⟨q, l, q1, q2⟩ := vints_cell h2 he ce hc2
      have := hcell 0 (by omega)
      rw [addr_add, addr_add, Nat.add_zero] at this
      exact ⟨(q, l), q2, u, this, q1⟩
    obtain ⟨Y, hY⟩ := Go.Deep.choose_lt hcell
    let xs : List AV := (List.range len).map fun i => (Y i).1
    let ls : List (List Int) := (List.range len).map fun i => (Y i).2
    have hxl : xs.length = len := by simp [xs]
    have hxi : ∀ i y, xs[i]? = some y → i < len ∧ y = (Y i).1 := fun i y hy => by
      have hlt : i < xs.length := (List.getElem?_eq_some_iff.1 hy).1
      rw [List.getElem?_eq_getElem hlt] at hy
      refine ⟨by omega, ?_⟩
      simp [xs] at hy
      exact hy.symm
    refine ⟨.lst 1 false xs, ls, ?_, .inr ⟨false, xs, rfl, allV_get (by simp [xs, ls]) fun i v l hv hl => ?_⟩⟩
    · have hv := VR.lst (Γ := ctx0 W) 1 false xs b o cap (fun i j => (W.cell? ⟨b, o + i * 1 + j, none⟩).getD default) (by omega) (by simp) (fun y hy => by
          obtain ⟨i, hi⟩ := List.getElem?_of_mem hy
          obtain ⟨hlt, rfl⟩ := hxi i y hi
          obtain ⟨g1, _⟩ := hY i hlt
          rw [g1.cells]
          exact ⟨rfl, fun c hc => by simp at hc; subst hc; exact g1.one⟩) (fun i y j c hy hc => by
          obtain ⟨hlt, rfl⟩ := hxi i y hy
          obtain ⟨g1, u, hu, _⟩ := hY i hlt
          rw [g1.cells] at hc
          have hj : j = 0 := by
            have := (List.getElem?_eq_some_iff.1 hc).1
            simp at this; omega
          subst hj
          rw [Nat.add_zero]
          exact ⟨by show W.cell? _ = _; rw [hu]; rfl, cell_block hu⟩) (fun i y j c hy hc => by
          obtain ⟨hlt, rfl⟩ := hxi i y hy
          obtain ⟨g1, u, hu, hvr⟩ := hY i hlt
          rw [g1.cells] at hc
          have hj : j = 0 := by
            have := (List.getElem?_eq_some_iff.1 hc).1
            simp at this; omega
          subst hj
          simp at hc
          subst hc
          simp only [Nat.add_zero, hu, Option.getD_some]
          exact hvr)
      rw [hxl] at hv
      exact hv
    · obtain ⟨hlt, rfl⟩ := hxi i v hv
      have : l = (Y i).2 := by
        simp [ls, hlt] at hl
        exact hl.symm
      subst this
      exact (hY i hlt).1
theorem shelf_vr {t t2 e : TypeId} {f0 f1 : Field} {v : Value} {d : DataW H} {ps : List MemPlace} {r : Reach} {b0 : Nat}
    (ht : P.underlying t = some (.struct #[f0, f1])) (o0 : f0.offset = 0) (o1 : f1.offset = 1) (c0 : P.cellsOf f0.type = 1) (c1 : P.cellsOf f1.type = 1) (ct : P.cellsOf t = 2)
    (h0 : P.underlying f0.type = some (.int .i64)) (h1 : P.underlying f1.type = some (.slice t2)) (h2 : P.underlying t2 = some (.slice e)) (c2 : P.cellsOf t2 = 1) (he : P.underlying e = some (.int .i64)) (ce : P.cellsOf e = 1)
    (hct : P.cellTypes P.depth t = some [f0.type, f1.type]) (hval : Value.okWide P W r b0 t v) (hd : DataW.Trod enc P W 0 spare held t v d ps) :
    ∃ (z : Int) (q : AV) (ls : List (List Int)), VR (ctx0 W) (.agg [.int .i64 z, q]) v ∧ isVV q ls := by
  unfold Value.okWide at hval
  rw [ht] at hval
  obtain ⟨cs, rfl, hcs, ts, hts, _, hcell⟩ := hval
  rw [hct] at hts
  cases hts
  obtain ⟨fuel, hd⟩ := hd
  obtain ⟨xs, m, _, _, hl, hxl, hx⟩ := DataW.trod_struct ht hd
  have g0 := hx 0 f0 rfl
  have g1 := hx 1 f1 rfl
  have hxl2 : xs.length = 2 := hxl
  rw [List.getElem?_eq_getElem (by omega), o0, c0] at g0
  rw [List.getElem?_eq_getElem (by omega), o1, c1] at g1
  have hl2 : cs.toList.length = 2 := by simpa [ct] using hcs
  obtain ⟨u0, u1, hu⟩ : ∃ u0 u1, cs.toList = [u0, u1] := by
    match cs.toList, hl2 with
    | [a, b], _ => exact ⟨a, b, rfl⟩
  have hcl : (Value.agg cs).cells = cs := rfl
  rw [hcl, hu] at g0 g1
  simp at g0 g1
  obtain ⟨z, hn, _, hw⟩ := DataW.trod_int h0 g0
  simp at hn
  subst hn
  have hcs1 : cs[1]? = some u1 := by
    have : cs.toList[1]? = some u1 := by rw [hu]; rfl
    simpa using this
  obtain ⟨u, hu1, hok⟩ := hcell 1 u1 hcs1
  simp at hu1
  subst hu1
  obtain ⟨q, ls, q1, q2⟩ := vvints_vr h1 h2 c2 he ce g1 hok
  refine ⟨z, q, ls, ?_, q2⟩
  have e : cs = #[.int .i64 z, u1] := by
    apply Array.toList_inj.1
    rw [hu]
  subst e
  refine .agg [.int .i64 z, q] #[.int .i64 z, u1] rfl (fun c hc => ?_) fun i c v hc hv => ?_
  · simp at hc
    rcases hc with rfl | rfl
    · rfl
    · rcases q2 with ⟨rfl, _⟩ | ⟨_, _, rfl, _⟩ <;> rfl
  · match i with
    | 0 => simp at hc hv; subst hc; subst hv; exact .int _ _
    | 1 => simp at hc hv; subst hc; subst hv; exact q1
    | i + 2 => simp at hc
end Go.Proofs.YtbkhffakhggdaaaDoor.Code
end
section
namespace Go.Proofs.YtbkhffakhggdaaaDoor.Code
open Go Go.Ab
/-! the orders of six, as numbers -/
def enc6 (l : List Nat) : Nat := l.foldl (fun a x => a * 6 + x) 0
def dec6 (k : Nat) : List Nat := [k / 7776 % 6, k / 1296 % 6, k / 216 % 6, k / 36 % 6, k / 6 % 6, k % 6]
def mrg6 : Nat → List Nat → List Nat → List Nat
  | 0, a, b => a ++ b
  | _ + 1, [], b => b
  | _ + 1, a, [] => a
  | f + 1, x :: a, y :: b => if Nat.ble x y then x :: mrg6 f a (y :: b) else y :: mrg6 f (x :: a) b
def srt6 : Nat → List Nat → List Nat
  | 0, l => l
  | f + 1, l => if Nat.ble l.length 1 then l else mrg6 l.length (srt6 f (l.take (l.length / 2))) (srt6 f (l.drop (l.length / 2)))
theorem mrg6_perm : ∀ {f : Nat} {a b : List Nat}, (mrg6 f a b).Perm (a ++ b)
  | 0, a, b => .refl _
  | f + 1, [], b => by simp only [mrg6, List.nil_append]; exact .refl _
  | f + 1, x :: a, [] => by simp only [mrg6, List.append_nil]; exact .refl _
  | f + 1, x :: a, y :: b => by
    simp only [mrg6]
    split
    · exact (mrg6_perm (f := f)).cons x
    · refine ((mrg6_perm (f := f)).cons y).trans ?_
      exact List.perm_middle.symm
theorem srt6_perm : ∀ {f : Nat} {l : List Nat}, (srt6 f l).Perm l
  | 0, l => .refl _
  | f + 1, l => by
    simp only [srt6]
    split
    · exact .refl _
    · refine mrg6_perm.trans (((srt6_perm (f := f)).append (srt6_perm (f := f))).trans ?_)
      rw [List.take_append_drop]
def eqL6 : List Nat → List Nat → Bool
  | [], [] => true
  | a :: r, b :: s => Nat.beq a b && eqL6 r s
  | _, _ => false
theorem eqL6_eq : ∀ {a b : List Nat}, eqL6 a b = true → a = b
  | [], [], _ => rfl
  | a :: r, b :: s, h => by
    simp only [eqL6, Bool.and_eq_true] at h
    rw [Nat.eq_of_beq_eq_true h.1, eqL6_eq h.2]
  | [], _ :: _, h => by simp [eqL6] at h
  | _ :: _, [], h => by simp [eqL6] at h
theorem dec6_a : ((extO 6 6 []).all fun l => eqL6 (dec6 (enc6 l)) l) = true := by decide +kernel
theorem dec6_b : ((plist 64 63).all fun l => eqL6 (dec6 (enc6 l)) l) = true := by decide +kernel
theorem srt6_ok : eqL6 (srt6 12 ((plist 64 63).map enc6)) ((extO 6 6 []).map enc6) = true := by decide +kernel
theorem dec6_map {A : List (List Nat)} (h : (A.all fun l => eqL6 (dec6 (enc6 l)) l) = true) : (A.map enc6).map dec6 = A := by
  rw [List.map_map]
  conv => rhs; rw [← List.map_id A]
  apply List.map_congr_left
  intro l hl
  exact eqL6_eq (List.all_eq_true.1 h l hl)
theorem perm6 : (extO 6 6 []).Perm (plist 64 63) := by
  have h := (srt6_perm (f := 12) (l := (plist 64 63).map enc6)).map dec6
  rw [eqL6_eq srt6_ok, dec6_map dec6_a, dec6_map dec6_b] at h
  exact h
end Go.Proofs.YtbkhffakhggdaaaDoor.Code
end
section
namespace Go.Proofs.YtbkhffakhggdaaaDoor.Code
open Go Go.Ab
/-! how many orders go past all trays: forward -/
def freeX (n s : Nat) : List Nat := (List.range n).filter fun x => !s.testBit x
def npF (n : Nat) (S : List Nat) : Nat → Nat → Nat
  | 0, s => if S.contains s then 0 else 1
  | k + 1, s => if S.contains s then 0 else ((freeX n s).map fun x => npF n S k (bor s (pw x))).sum
/-- the reference's number of orders that pass a tray -/
def pR (n : Nat) (S : List Nat) : Nat → Nat → Nat
  | 0, s => if S.contains s then 1 else 0
  | k + 1, s => if S.contains s then fac (k + 1) else ((freeX n s).map fun x => pR n S k (bor s (pw x))).sum
theorem free_all : ((List.range' 1 6).all fun n => (List.range (2 ^ n)).all fun s => Nat.beq ((freeX n s).length + pc s) n && (freeX n s).all fun x => Nat.blt (bor s (pw x)) (2 ^ n) && Nat.beq (pc (bor s (pw x))) (pc s + 1)) = true := by decide +kernel
theorem free_ok {n s : Nat} (h1 : 1 ≤ n) (hn : n ≤ 6) (hs : s < pw n) : (freeX n s).length + pc s = n ∧ ∀ x ∈ freeX n s, bor s (pw x) < pw n ∧ pc (bor s (pw x)) = pc s + 1 := by
  have h := List.all_eq_true.1 (List.all_eq_true.1 free_all n (List.mem_range'_1.2 ⟨h1, by omega⟩)) s (List.mem_range.2 hs)
  simp only [Bool.and_eq_true, List.all_eq_true, Nat.blt_eq] at h
  exact ⟨Nat.eq_of_beq_eq_true h.1, fun x hx => ⟨(h.2 x hx).1, Nat.eq_of_beq_eq_true (h.2 x hx).2⟩⟩
theorem sum_const {f : Nat → Nat} {c : Nat} : ∀ {l : List Nat}, (∀ x ∈ l, f x = c) → (l.map f).sum = l.length * c
  | [], _ => by simp
  | x :: r, h => by
    rw [List.map_cons, List.sum_cons, sum_const fun y hy => h y (List.mem_cons_of_mem _ hy), h x (List.mem_cons_self ..), List.length_cons, Nat.add_mul]
    omega
theorem sum_add2 {f g : Nat → Nat} : ∀ {l : List Nat}, (l.map f).sum + (l.map g).sum = (l.map fun x => f x + g x).sum
  | [] => rfl
  | x :: r => by simp only [List.map_cons, List.sum_cons, ← sum_add2 (l := r)]; omega
theorem pR_np {n : Nat} {S : List Nat} (h1 : 1 ≤ n) (hn : n ≤ 6) : ∀ {k s : Nat}, s < pw n → pc s + k = n → pR n S k s + npF n S k s = fac k
  | 0, s, hs, hk => by
    unfold pR npF
    split <;> rfl
  | k + 1, s, hs, hk => by
    unfold pR npF
    split
    · rfl
    · obtain ⟨f1, f2⟩ := free_ok h1 hn hs
      rw [sum_add2, sum_const (c := fac k) fun x hx => pR_np h1 hn (k := k) (f2 x hx).1 (by rw [(f2 x hx).2]; omega)]
      rw [show (freeX n s).length = k + 1 by omega]
      rfl
/-- what is left of an order -/
def extR (n : Nat) : Nat → List Nat → List (List Nat)
  | 0, _ => [[]]
  | k + 1, l => (List.range n).flatMap fun x => if l.contains x then [] else (extR n k (l ++ [x])).map (x :: ·)
theorem extO_R {n : Nat} : ∀ {k : Nat} {l : List Nat}, extO n k l = (extR n k l).map (l ++ ·)
  | 0, l => by simp [extO, extR]
  | k + 1, l => by
    simp only [extO, extR, List.map_flatMap]
    congr 1
    funext x
    split
    · rfl
    · rw [extO_R (k := k), List.map_map]
      apply List.map_congr_left
      intro r _
      simp
def passS (S : List Nat) (s : Nat) (r : List Nat) : Bool := S.contains s || (sets s r).any S.contains
theorem passS_cons {S : List Nat} {s x : Nat} {r : List Nat} : passS S s (x :: r) = (S.contains s || passS S (bor s (pw x)) r) := by
  unfold passS
  simp only [sets, List.any_cons]
/-- a list that is begun, and its set -/
structure Begun (n : Nat) (l : List Nat) (s : Nat) : Prop where
  lt : s < pw n
  len : pc s = l.length
  mem : ∀ x, x < 6 → l.contains x = s.testBit x
  all : ∀ x ∈ l, x < n
theorem begun_all : ((List.range' 1 6).all fun n => (List.range (2 ^ n)).all fun s => (freeX n s).all fun x => (List.range 6).all fun y => (bor s (pw x)).testBit y == (s.testBit y || Nat.beq y x)) = true := by decide +kernel
theorem Begun.step {n s x : Nat} {l : List Nat} (h1 : 1 ≤ n) (hn : n ≤ 6) (b : Begun n l s) (hx : x < n) (hf : s.testBit x = false) : Begun n (l ++ [x]) (bor s (pw x)) := by
  have hxf : x ∈ freeX n s := List.mem_filter.2 ⟨List.mem_range.2 hx, by rw [hf]; rfl⟩
  obtain ⟨f1, f2⟩ := free_ok h1 hn b.lt
  refine ⟨(f2 x hxf).1, by rw [(f2 x hxf).2, b.len]; simp, fun y hy => ?_, fun y hy => ?_⟩
  · have h := List.all_eq_true.1 (List.all_eq_true.1 (List.all_eq_true.1 (List.all_eq_true.1 begun_all n (List.mem_range'_1.2 ⟨h1, by omega⟩)) s (List.mem_range.2 b.lt)) x hxf) y (List.mem_range.2 hy)
    rw [eq_of_beq h, ← b.mem y hy, beqN, Bool.eq_iff_iff]
    simp
  · rcases List.mem_append.1 hy with h | h
    · exact b.all y h
    · simp at h; omega
theorem Begun.nil {n : Nat} : Begun n [] 0 := ⟨pw_pos, rfl, fun x _ => by simp, fun x hx => by simp at hx⟩
theorem flat_filter {β : Type} {f : Nat → List β} {p : Nat → Bool} : ∀ {L : List Nat}, (L.flatMap fun x => if p x then [] else f x) = (L.filter fun x => !p x).flatMap f
  | [] => rfl
  | x :: r => by
    rw [List.flatMap_cons, flat_filter (L := r), List.filter_cons]
    cases p x <;> simp
theorem np_count {n : Nat} {S : List Nat} (h1 : 1 ≤ n) (hn : n ≤ 6) : ∀ {k s : Nat} {l : List Nat}, Begun n l s → (extR n k l).countP (fun r => !passS S s r) = npF n S k s
  | 0, s, l, b => by
    unfold extR npF passS
    cases S.contains s <;> simp [sets]
  | k + 1, s, l, b => by
    have hp : ((List.range n).flatMap fun x => if l.contains x then [] else (extR n k (l ++ [x])).map (x :: ·)) = (freeX n s).flatMap fun x => (extR n k (l ++ [x])).map (x :: ·) := by
      rw [flat_filter]
      unfold freeX
      congr 1
      apply List.filter_congr
      intro x hx
      rw [b.mem x (by have := List.mem_range.1 hx; omega)]
    unfold extR npF
    rw [hp, List.countP_flatMap]
    cases hc : S.contains s
    · simp only [Bool.false_eq_true, if_false]
      congr 1
      apply List.map_congr_left
      intro x hx
      have hxn := List.mem_range.1 (List.mem_filter.1 hx).1
      have hxf : s.testBit x = false := by simpa using (List.mem_filter.1 hx).2
      simp only [Function.comp]
      rw [List.countP_map, ← np_count h1 hn (b.step h1 hn hxn hxf)]
      apply List.countP_congr
      intro r _
      simp only [Function.comp]
      rw [passS_cons, hc, Bool.false_or]
    · simp only [if_true]
      rw [sum_const (c := 0) fun x hx => ?_, Nat.mul_zero]
      simp only [Function.comp]
      rw [List.countP_eq_zero]
      intro r hr
      obtain ⟨r', _, rfl⟩ := List.mem_map.1 hr
      rw [passS_cons, hc]
      simp
theorem perm_six {n : Nat} (h1 : 1 ≤ n) (hn : n ≤ 6) : (extO n n []).Perm (plist 64 (pw n - 1)) := by
  by_cases h5 : n ≤ 5
  · exact List.isPerm_iff.1 (List.all_eq_true.1 perm_all n (List.mem_range'_1.2 ⟨h1, by omega⟩))
  · obtain rfl : n = 6 := by omega
    exact perm6
/-- the reference counts what the program counts -/
theorem pR_pS {n : Nat} {S : List Nat} (h1 : 1 ≤ n) (hn : n ≤ 6) : pR n S n 0 = fac n - pS S (pw n) (pw n - 1) := by
  have hpp : 0 < pw n := pw_pos
  have hp := pw_le hn
  have hc := plist_count (S := S) (f := 64) (t := pw n - 1) (by omega) (by omega)
  rw [← (perm_six h1 hn).countP_eq, show pw n - 1 + 1 = pw n by omega] at hc
  have h2 := np_count (S := S) h1 hn (k := n) (Begun.nil (n := n))
  rw [extO_R] at hc
  simp only [List.nil_append, List.map_id'] at hc
  have h3 := pR_np (S := S) h1 hn (k := n) (s := 0) hpp (by rw [show pc 0 = 0 from by decide]; omega)
  have h4 : (extR n n []).countP (fun r => !passS S 0 r) = (extR n n []).countP (fun l => !pass S l) := rfl
  omega
end Go.Proofs.YtbkhffakhggdaaaDoor.Code
end
section
namespace Go.Proofs.YtbkhffakhggdaaaDoor.Code
open Go Go.Ab
variable {pure : Bool} {base bar : Nat} {H : Heap} {Q : AV → Heap → Prop} {K : AV → Heap → List Nat → Prop}
/-! 41, 37, 38: the check, and what contains what -/
theorem k41z {z : Int} {q : AV} {ls : List (List Int)} (hq : isVV q ls) (hl : ls.length < 1000) (hll : ∀ l ∈ ls, l.length < 1000) (hbar : bar ≤ H.length) (h : Q (.int .i64 (errZ z ls)) H) : WpCall E pure base bar 41 [.agg [.int .i64 z, q]] H Q := by
  have hbp : (if pure = true then H.length else bar) ≤ H.length := by cases pure <;> simp <;> omega
  unfold errZ at h
  rw [call41]
  simp [go_sem, WpFun, c41, hq.frz, box2]
  generalize (if pure = true then H.length else bar) = bar' at *
  by_cases hz : 1 ≤ z ∧ z ≤ 6
  · rw [if_pos hz] at h
    obtain ⟨n, rfl⟩ := Int.eq_ofNat_of_zero_le (show 0 ≤ z by omega)
    refine k68 (by omega) (by omega) hq hl hll (by simp; omega) (fun e => ?_) (fun e => ?_)
    · simp [go_sem]
      exact h
    · rw [e] at h
      simp [go_sem]
      exact h
  · rw [if_neg hz] at h
    refine k68o hz (fun _ _ _ => hq.frz) hq.cells ?_
    simp [go_sem]
    exact h
/-- the two trays that Contained answers -/
def conA (S : List Nat) : Int × Int × Int := match conS S S 0 with
  | none => (0, 0, 12)
  | some p => ((p.1 : Int), (p.2 : Int), 0)
theorem k37z {z : Int} {q : AV} {ls : List (List Int)} (hq : isVV q ls) (hl : ls.length < 1000) (hll : ∀ l ∈ ls, l.length < 1000) (hbar : bar ≤ H.length)
    (he : errZ z ls ≠ 0 → Q (.tup [.int .i64 0, .int .i64 0, .int .i64 (errZ z ls)]) H)
    (h0 : errZ z ls = 0 → 1 ≤ z ∧ z ≤ 6 → Q (.tup [.int .i64 (conA (opS z [] ls).2).1, .int .i64 (conA (opS z [] ls).2).2.1, .int .i64 (conA (opS z [] ls).2).2.2]) H) : WpCall E pure base bar 37 [.agg [.int .i64 z, q]] H Q := by
  unfold errZ at he h0
  by_cases hz : 1 ≤ z ∧ z ≤ 6
  · rw [if_pos hz] at he h0
    obtain ⟨n, rfl⟩ := Int.eq_ofNat_of_zero_le (show 0 ≤ z by omega)
    refine k37 (by omega) (by omega) hq hl hll hbar he (fun e c => ?_) (fun p e c => ?_)
    · have := h0 e hz
      unfold conA at this
      rw [c] at this
      exact this
    · have := h0 e hz
      unfold conA at this
      rw [c] at this
      exact this
  · rw [if_neg hz] at he
    have := he (by decide)
    rw [call37]
    simp [go_sem, WpFun, c37, hq.frz, box2]
    refine k68o hz (fun _ _ _ => hq.frz) hq.cells ?_
    simp [go_sem]
    exact this
/-- by places -/
def ixR (i a : Nat) : List Nat → Nat → Option Nat
  | [], _ => none
  | b :: r, k => if i ≠ k ∧ subB a b = true then some k else ixR i a r (k + 1)
theorem ixR_P {S : List Nat} (hn : S.Nodup) {i : Nat} (hi : i < S.length) : ∀ (c k : Nat), k + c = S.length → ixR i S[i] (S.drop k) k = ixP S[i] (S.drop k) k := by
  intro c
  induction c with
  | zero => intro k hk; rw [List.drop_eq_nil_of_le (by omega)]; rfl
  | succ c ih =>
    intro k hk
    have hlt : k < S.length := by omega
    rw [List.drop_eq_getElem_cons hlt]
    simp only [ixR, ixP]
    have he : i ≠ k ↔ S[i] ≠ S[k] := by
      constructor
      · intro h e
        exact h ((List.getElem_inj hn).1 e)
      · intro h e; subst e; exact h rfl
    rw [ih (k + 1) (by omega)]
    simp only [he]
theorem l38_0 {id ver fz i : Nat} {ex : Bool} {z : Int} {q : AV} {S : List Nat} (hq : isVV q (S.map dyL)) (hS : ∀ x ∈ S, x < 64) (hi : i < S.length) (hl : S.length < 1000) (hid : H[id]? = some (.row ver [.int .i64 z, q] fz ex)) {R : PQ} : ∀ (c k : Nat), k + c = S.length →
    (∀ j, ixR i S[i] (S.drop k) k = some j → R .ret [(2, .int .i64 (i : Int)), (3, .int .i64 (j : Int)), (4, .int .i64 0)] H) →
    (ixR i S[i] (S.drop k) k = none → R (.exit 2) [(1, .ptr id ver 0), (6, .int .i64 (i : Int)), (7, .int .i64 (S.length : Nat)), (24, .bool false)] H) →
    Wp E base bar (.loop c38_l0) [(1, .ptr id ver 0), (6, .int .i64 (i : Int)), (7, .int .i64 (k : Int))] H R := by
  have ld : aload H ⟨false, 1⟩ (.ptr id ver 1) = some q := by rw [aload_ptr hid]; rfl
  have hidl := (List.getElem?_eq_some_iff.1 hid).1
  have hql := fun K => hq.len (H := H) (K := K)
  simp only [List.length_map] at hql
  have ha := hS _ (List.getElem_mem hi)
  obtain ⟨va, hva, hixa⟩ := hq.ix (i := i) (by simpa using hi)
  rw [List.getElem_map] at hva
  generalize S[i] = a at *
  intro c
  induction c with
  | zero =>
    intro k hk h1 h2
    obtain rfl : k = S.length := by omega
    rw [List.drop_length] at h2
    rw [wp_round c38_l0.eq_1]
    simp [go_sem, ld, hql]
    exact h2 rfl
  | succ c ih =>
    intro k hk h1 h2
    have hlt : k < S.length := by omega
    rw [List.drop_eq_getElem_cons hlt] at h1 h2
    have hb := hS _ (List.getElem_mem hlt)
    obtain ⟨vb, hvb, hixb⟩ := hq.ix (i := k) (by simpa using hlt)
    rw [List.getElem_map] at hvb
    generalize S[k] = b at *
    have hs := i64_suc (show k < 1000000 by omega)
    simp only [ixR] at h1 h2
    rw [wp_round c38_l0.eq_1]
    by_cases hik : i = k
    · rw [if_neg (fun e => e.1 hik)] at h1 h2
      have next := ih (k + 1) (by omega) h1 h2
      have hik1 : ((i : Int) == (k : Int)) = true := by rw [beq_iff_eq]; omega
      simp [go_sem, ld, hql, hlt, hik1, hs]
      exact next
    · have hik1 : ((i : Int) == (k : Int)) = false := by rw [beq_eq_false_iff_ne]; omega
      simp [go_sem, ld, hql, hlt, hik1, hixa, hixb, hva.fp, hvb.fp]
      refine k92v ha hb hva hvb ?_
      by_cases hsub : subB a b = true
      · rw [if_pos ⟨hik, hsub⟩] at h1
        rw [hsub]
        simp [go_sem]
        exact h1 k rfl
      · rw [if_neg (fun e => hsub e.2)] at h1 h2
        have next := ih (k + 1) (by omega) h1 h2
        rw [show subB a b = false by simpa using hsub]
        simp [go_sem, hs]
        exact next
theorem l38_1 {id ver fz : Nat} {ex : Bool} {z : Int} {q : AV} {S : List Nat} (hq : isVV q (S.map dyL)) (hS : ∀ x ∈ S, x < 64) (hn : S.Nodup) (hl : S.length < 1000) (hid : H[id]? = some (.row ver [.int .i64 z, q] fz ex)) {R : PQ} : ∀ (c i : Nat), i + c = S.length →
    (∀ p : Nat × Nat, conS S (S.drop i) i = some p → R .ret [(2, .int .i64 (p.1 : Int)), (3, .int .i64 (p.2 : Int)), (4, .int .i64 0)] H) →
    (conS S (S.drop i) i = none → R (.exit 0) [(1, .ptr id ver 0), (6, .int .i64 (S.length : Nat)), (17, .bool false)] H) →
    Wp E base bar (.loop c38_l1) [(1, .ptr id ver 0), (6, .int .i64 (i : Int))] H R := by
  have ld : aload H ⟨false, 1⟩ (.ptr id ver 1) = some q := by rw [aload_ptr hid]; rfl
  have hql := fun K => hq.len (H := H) (K := K)
  simp only [List.length_map] at hql
  intro c
  induction c with
  | zero =>
    intro i hi h1 h2
    obtain rfl : i = S.length := by omega
    rw [List.drop_length] at h2
    rw [wp_round c38_l1.eq_1]
    simp [go_sem, ld, hql]
    exact h2 rfl
  | succ c ih =>
    intro i hi h1 h2
    have hlt : i < S.length := by omega
    have hs := i64_suc (show i < 1000000 by omega)
    have hR := ixR_P hn hlt S.length 0 (by omega)
    rw [List.drop_zero] at hR
    rw [List.drop_eq_getElem_cons hlt] at h1 h2
    simp only [conS, ← hR] at h1 h2
    rw [wp_round c38_l1.eq_1]
    simp [go_sem, ld, hql, hlt]
    refine l38_0 hq hS hlt hl hid S.length 0 (by omega) (fun j e => ?_) (fun e => ?_)
    · rw [List.drop_zero] at e
      rw [e] at h1
      simp [go_sem]
      exact h1 (i, j) rfl
    · rw [List.drop_zero] at e
      rw [e] at h1 h2
      simp [go_sem, hs]
      exact ih (i + 1) (by omega) h1 h2
/-- a valid shelf, as sets -/
theorem shelf_sets {z : Int} {q : AV} {ls : List (List Int)} (hq : isVV q ls) (hl : ls.length < 1000) (e : errZ z ls = 0) : ∃ n : Nat, z = (n : Int) ∧ 1 ≤ n ∧ n ≤ 6 ∧ (1 ≤ z ∧ z ≤ 6) ∧ isVV q ((opS z [] ls).2.map dyL) ∧ (∀ x ∈ (opS z [] ls).2, x < pw n) ∧ (opS z [] ls).2.Nodup ∧ (opS z [] ls).2.length ≤ 64 := by
  have hz : 1 ≤ z ∧ z ≤ 6 := Classical.byContradiction fun hc => by simp [errZ, if_neg hc] at e
  have e' : (opS z [] ls).1 = 0 := by simpa [errZ, if_pos hz] using e
  have hlt := nearS_lt hz e'
  obtain ⟨n, rfl⟩ := Int.eq_ofNat_of_zero_le (show 0 ≤ z by omega)
  have hmap : ls = (opS (n : Int) [] ls).2.map dyL := by simpa using opS_map (n := n) (by omega) (by omega) (S := []) e'
  rw [Int.toNat_natCast] at hlt
  have hnd : (opS (n : Int) [] ls).2.Nodup := opS_nodup (by simp)
  refine ⟨n, rfl, by omega, by omega, hz, ?_, hlt, hnd, len64 hnd fun x hx => pw_64 (by omega) (hlt x hx)⟩
  rw [← hmap]; exact hq
theorem k38z {z : Int} {q : AV} {ls : List (List Int)} (hq : isVV q ls) (hl : ls.length < 1000) (hll : ∀ l ∈ ls, l.length < 1000)
    (he : errZ z ls ≠ 0 → Q (.tup [.int .i64 0, .int .i64 0, .int .i64 (errZ z ls)]) H)
    (h0 : errZ z ls = 0 → 1 ≤ z ∧ z ≤ 6 → Q (.tup [.int .i64 (conA (opS z [] ls).2).1, .int .i64 (conA (opS z [] ls).2).2.1, .int .i64 (conA (opS z [] ls).2).2.2]) H) : WpCall E pure base bar 38 [.agg [.int .i64 z, q]] H Q := by
  rw [call38]
  simp [go_sem, WpFun, c38, hq.frz, box2]
  refine k42z hq hl hll ?_
  by_cases e : errZ z ls = 0
  · obtain ⟨n, hz, h1, hn, hzz, hqS, hlt, hnd, hlS⟩ := shelf_sets hq hl e
    have := h0 e hzz
    unfold conA at this
    generalize (opS z [] ls).2 = S at *
    simp [go_sem, e]
    refine l38_1 (id := H.length) (ver := 0) (fz := 0) (ex := true) (z := z) hqS (fun x hx => pw_64 hn (hlt x hx)) hnd (by omega) (by rw [own_get0]; rfl) S.length 0 (by omega) (fun p c => ?_) (fun c => ?_)
    · rw [List.drop_zero] at c
      rw [c] at this
      simp [go_sem]
      exact this
    · rw [List.drop_zero] at c
      rw [c] at this
      simp [go_sem]
      exact this
  · have := he e
    simp [go_sem, e]
    exact this
end Go.Proofs.YtbkhffakhggdaaaDoor.Code
end
section
namespace Go.Proofs.YtbkhffakhggdaaaDoor.Code
open Go Go.Ab
variable {pure : Bool} {base bar : Nat} {H : Heap} {Q : AV → Heap → Prop} {K : AV → Heap → List Nat → Prop}
/-! 94: the orders that pass, as the reference counts them -/
def isN (v : AV) (l : List Nat) : Prop := (v = .nils ∧ l = []) ∨ v = .lst 1 false (nats l)
theorem isN.v {v : AV} {l : List Nat} (h : isN v l) : isV v (l.map fun (x : Nat) => (x : Int)) := by
  rcases h with ⟨rfl, rfl⟩ | rfl
  · exact .inl ⟨rfl, rfl⟩
  · refine .inr ?_
    simp [nats, ints]
theorem isN.l {v : AV} {l : List Nat} (h : isN v l) : isL v l := by
  rcases h with ⟨rfl, rfl⟩ | rfl
  · exact .inl ⟨rfl, rfl⟩
  · exact .inr ⟨_, rfl⟩
theorem sub_pc : ((List.range 64).all fun s => (List.range 64).all fun t => !(subB s t && Nat.beq (pc s) (pc t)) || Nat.beq s t) = true := by decide +kernel
theorem dyL_has : ((List.range 64).all fun t => (List.range 6).all fun x => (dyL t).contains (x : Int) == t.testBit x) = true := by decide +kernel
theorem pc_lt_all : ((List.range' 1 6).all fun n => (List.range (2 ^ n)).all fun s => Nat.ble (pc s) n) = true := by decide +kernel
theorem Begun.le {n s : Nat} {l : List Nat} (b : Begun n l s) (h1 : 1 ≤ n) (hn : n ≤ 6) : l.length ≤ n := by
  have := List.all_eq_true.1 (List.all_eq_true.1 pc_lt_all n (List.mem_range'_1.2 ⟨h1, by omega⟩)) s (List.mem_range.2 b.lt)
  rw [b.len] at this
  exact Nat.le_of_ble_eq_true this
theorem isN.top {v : AV} {l : List Nat} (h : isN v l) : v.top = 0 := by
  rcases h with ⟨rfl, rfl⟩ | rfl
  · rfl
  · have : ∀ l : List Nat, AV.top.tops (nats l) = 0 := fun l => by
      induction l with
      | nil => rfl
      | cons x r ih => simp only [nats, List.map_cons] at ih ⊢; simp [AV.top.tops, AV.top, ih]
    simpa [AV.top] using this l
theorem isN.out {l : List Nat} : isN (outL 1 (nats l)) l := by
  rw [outL_nats]
  split
  · rename_i h; subst h; exact .inl ⟨rfl, rfl⟩
  · exact .inr rfl
/-- the tray of a list that is begun -/
theorem begun_tray {n s t : Nat} {l : List Nat} (h1 : 1 ≤ n) (hn : n ≤ 6) (b : Begun n l s) (ht : t < 64) : (decide (pc t = l.length) && (l.map fun (x : Nat) => (x : Int)).all (dyL t).contains) = decide (t = s) := by
  have hs64 := pw_64 hn b.lt
  have hall : (l.map fun (x : Nat) => (x : Int)).all (dyL t).contains = l.all fun x => t.testBit x := by
    rw [List.all_map]
    have : ∀ x ∈ l, ((dyL t).contains ∘ fun (x : Nat) => (x : Int)) x = t.testBit x := fun x hx => by
      have hx6 : x < 6 := by have := b.all x hx; omega
      exact eq_of_beq (List.all_eq_true.1 (List.all_eq_true.1 dyL_has t (List.mem_range.2 ht)) x (List.mem_range.2 hx6))
    rw [Bool.eq_iff_iff, List.all_eq_true, List.all_eq_true]
    constructor
    · intro h x hx; rw [← this x hx]; exact h x hx
    · intro h x hx; rw [this x hx]; exact h x hx
  rw [hall, Bool.eq_iff_iff, Bool.and_eq_true, decide_eq_true_eq, decide_eq_true_eq, List.all_eq_true]
  constructor
  · rintro ⟨e1, e2⟩
    have hsub : subB s t = true := by
      unfold subB
      rw [beqN, decide_eq_true_eq]
      apply Nat.eq_of_testBit_eq
      intro i
      show (s &&& t).testBit i = s.testBit i
      rw [Nat.testBit_and]
      by_cases h6 : i < 6
      · cases hb : s.testBit i
        · simp
        · rw [← b.mem i h6] at hb
          rw [e2 i (by simpa using hb)]; rfl
      · rw [Nat.testBit_lt_two_pow (Nat.lt_of_lt_of_le hs64 (show 64 ≤ 2 ^ i from Nat.pow_le_pow_right (n := 2) (by decide) (show 6 ≤ i by omega)))]
        rfl
    have h := List.all_eq_true.1 (List.all_eq_true.1 sub_pc s (List.mem_range.2 hs64)) t (List.mem_range.2 ht)
    rw [hsub, beqN, b.len, e1] at h
    simp at h
    exact h.symm
  · rintro rfl
    refine ⟨b.len, fun x hx => ?_⟩
    have hx6 : x < 6 := by have := b.all x hx; omega
    rw [← b.mem x hx6]; simpa using hx
theorem l94_0 {id ver fz n L : Nat} {ex : Bool} {q : AV} (hn : n ≤ 6) (hid : H[id]? = some (.row ver [.int .i64 (n : Int), q] fz ex)) {R : PQ} : ∀ (c j y : Nat), j + c = n → L ≤ j → y * fac c = fac (n - L) → y ≤ 720 →
    R (.exit 2) [(2, .ptr id ver 0), (6, .int .i64 (fac (n - L) : Nat)), (7, .int .i64 (n : Int)), (40, .bool false)] H → Wp E base bar (.loop c94_l0) [(2, .ptr id ver 0), (6, .int .i64 (y : Int)), (7, .int .i64 (j : Int))] H R := by
  have ld : aload H ⟨false, 1⟩ (.ptr id ver 0) = some (.int .i64 (n : Int)) := by rw [aload_ptr hid]; rfl
  intro c
  induction c with
  | zero =>
    intro j y hj hL hy _ h
    obtain rfl : j = n := by omega
    rw [← hy] at h
    simp only [fac, Nat.mul_one] at h
    rw [wp_round c94_l0.eq_1]
    simp [go_sem, ld]
    exact h
  | succ c ih =>
    intro j y hj hL hy hy7 h
    have hlt : j < n := by omega
    have e1 : IntKind.i64.wrap ((n : Int) - (j : Int)) = ((c + 1 : Nat) : Int) := by rw [w64 (by omega)]; omega
    obtain ⟨c1, hc1⟩ : ∃ x, x = c + 1 := ⟨_, rfl⟩
    rw [← hc1] at e1
    obtain ⟨y2, hy2⟩ : ∃ x, x = y * c1 := ⟨_, rfl⟩
    have hfac : fac (n - L) ≤ 720 := by
      have : ∀ m, m ≤ 6 → fac m ≤ 720 := by decide
      exact this _ (by omega)
    have hyl : y2 ≤ 720 := by
      have hpos : 1 ≤ fac c := by
        have : ∀ m, m ≤ 6 → 1 ≤ fac m := by decide
        exact this _ (by omega)
      have : y * fac (c + 1) = y2 * fac c := by rw [hy2, hc1, fac, Nat.mul_assoc]
      have h2 : y2 * 1 ≤ y2 * fac c := Nat.mul_le_mul_left _ hpos
      omega
    have e2 : IntKind.i64.wrap ((y : Int) * (c1 : Int)) = (y2 : Int) := by
      rw [hy2, ← Int.natCast_mul, w64]; constructor <;> omega
    have hs := i64_suc (show j < 1000000 by omega)
    have next := ih (j + 1) y2 (by omega) (by omega) (by rw [hy2, hc1, ← hy, fac, Nat.mul_assoc]) hyl h
    rw [wp_round c94_l0.eq_1]
    simp [go_sem, ld, hlt, e1, e2, hs]
    exact next
theorem l94_1 {id ver fz n s : Nat} {ex : Bool} {q v : AV} {l S : List Nat} (h1 : 1 ≤ n) (hn : n ≤ 6) (hq : isVV q (S.map dyL)) (hS : ∀ x ∈ S, x < 64) (hlS : S.length ≤ 64) (b : Begun n l s) (hv : isN v l) (hid : H[id]? = some (.row ver [.int .i64 (n : Int), q] fz ex)) {R : PQ} : ∀ (c i : Nat), i + c = S.length →
    ((S.drop i).contains s = true → R .ret [(4, .int .i64 (fac (n - l.length) : Nat))] H) →
    ((S.drop i).contains s = false → R (.exit 0) [(1, v), (2, .ptr id ver 0), (5, .int .i64 (S.length : Nat)), (14, .bool false)] H) →
    Wp E base bar (.loop c94_l1) [(1, v), (2, .ptr id ver 0), (5, .int .i64 (i : Int))] H R := by
  have ld1 : aload H ⟨false, 1⟩ (.ptr id ver 1) = some q := by rw [aload_ptr hid]; rfl
  have hidl := (List.getElem?_eq_some_iff.1 hid).1
  have hql := fun K => hq.len (H := H) (K := K)
  simp only [List.length_map] at hql
  have hvl := fun K => hv.l.len (H := H) (K := K)
  have hl6 : l.length ≤ 6 := by rw [← b.len]; exact pc_le
  intro c
  induction c with
  | zero =>
    intro i hi h1 h2
    obtain rfl : i = S.length := by omega
    rw [List.drop_length] at h2
    rw [wp_round c94_l1.eq_1]
    simp [go_sem, ld1, hql]
    exact h2 rfl
  | succ c ih =>
    intro i hi hr1 hr2
    have hlt : i < S.length := by omega
    rw [List.drop_eq_getElem_cons hlt, List.contains_cons] at hr1 hr2
    have ht := hS _ (List.getElem_mem hlt)
    obtain ⟨w, hw, hix⟩ := hq.ix (i := i) (by simpa using hlt)
    rw [List.getElem_map] at hw
    generalize S[i] = t at *
    have hs := i64_suc (show i < 1000000 by omega)
    have hbt := begun_tray h1 hn b ht
    have hwl := fun K => hw.len (H := H) (K := K)
    simp only [dyL_len ht] at hwl
    rw [wp_round c94_l1.eq_1]
    by_cases hp : pc t = l.length
    · rw [decide_eq_true hp, Bool.true_and] at hbt
      simp [go_sem, ld1, hql, hlt, hix, hw.fp, hwl, hvl, hp]
      refine k92 hv.v hw (by simp; omega) (dyL_lt ht) ?_
      have hln : l.length ≤ n := b.le h1 hn
      rw [hbt]
      by_cases e : t = s
      · subst e
        have := hr1 (by simp)
        simp [go_sem, hvl]
        refine l94_0 (L := l.length) hn hid (n - l.length) l.length 1 (by omega) (Nat.le_refl _) (by rw [Nat.one_mul]) (by omega) ?_
        simp [go_sem]
        exact this
      · rw [show (s == t) = false by simpa using fun h => e h.symm, Bool.false_or] at hr1 hr2
        rw [decide_eq_false e]
        simp [go_sem, hs]
        exact ih (i + 1) (by omega) hr1 hr2
    · have hp1 : ((pc t : Int) == (l.length : Int)) = false := by rw [beq_eq_false_iff_ne]; omega
      have e : ¬ t = s := fun e => hp (by rw [e]; exact b.len)
      rw [show (s == t) = false by simpa using fun h => e h.symm, Bool.false_or] at hr1 hr2
      simp [go_sem, ld1, hql, hlt, hix, hw.fp, hwl, hvl, hp1, hs]
      exact ih (i + 1) (by omega) hr1 hr2
theorem k94f {args args' : List AV} {H2 H3 : Heap} (hf : frzAll bar H2 args = some (args', H3)) (hf2 : frzAll bar H3 args' = some (args', H3)) (h : WpCall E pure base bar 94 args' H3 Q) : WpCall E pure base bar 94 args H2 Q := by
  rw [call94, hf2] at h
  rw [call94, hf]
  exact h
theorem l94_2 {id ver fz n s k : Nat} {ex : Bool} {q v : AV} {l S : List Nat} (h1 : 1 ≤ n) (hn : n ≤ 6) (hqz : ∀ (d bar : Nat) (H : Heap), Go.Ab.frz (d + 1) bar H q = some (q, H)) (hqc : q.cells = [q]) (b : Begun n l s) (hk : l.length + (k + 1) = n) (hv : isN v l) (hid : H[id]? = some (.row ver [.int .i64 (n : Int), q] fz ex)) (hbar : bar ≤ H.length)
    (ih : ∀ (l : List Nat) (s : Nat) (v : AV) (base bar : Nat) (H : Heap) (Q : AV → Heap → Prop), Begun n l s → l.length + k = n → isN v l → bar ≤ H.length → Q (.int .i64 (pR n S k s : Nat)) H → WpCall E true base bar 94 [.agg [.int .i64 (n : Int), q], v] H Q) {R : PQ} :
    ∀ (c x y : Nat), x + c = n → y ≤ 720 * x → R (.exit 4) [(1, v), (2, .ptr id ver 0), (8, .int .i64 ((y + (((List.range' x c).filter fun x => !s.testBit x).map fun x => pR n S k (bor s (pw x))).sum : Nat) : Int)), (9, .int .i64 (n : Int)), (53, .bool false)] H →
    Wp E base bar (.loop c94_l2) [(1, v), (2, .ptr id ver 0), (8, .int .i64 (y : Int)), (9, .int .i64 (x : Int))] H R := by
  have ld : aload H ⟨false, 1⟩ (.ptr id ver 0) = some (.int .i64 (n : Int)) := by rw [aload_ptr hid]; rfl
  have ld2 : aload H ⟨true, 2⟩ (.ptr id ver 0) = some (.agg [.int .i64 (n : Int), q]) := by rw [aload_ptr hid]; rfl
  have hidl := (List.getElem?_eq_some_iff.1 hid).1
  have hl6 : l.length ≤ 6 := by rw [← b.len]; exact pc_le
  intro c
  induction c with
  | zero =>
    intro x y hx hy h
    obtain rfl : x = n := by omega
    simp at h
    rw [wp_round c94_l2.eq_1]
    simp [go_sem, ld]
    exact h
  | succ c ihc =>
    intro x y hx hy h
    have hlt : x < n := by omega
    have hs := i64_suc (show x < 1000000 by omega)
    have hmem := b.mem x (by omega)
    rw [List.range'_succ, List.filter_cons] at h
    rw [wp_round c94_l2.eq_1]
    simp [go_sem, ld, hlt]
    refine k105 hv.v (by simp; omega) ?_
    have hcon : (l.map fun (x : Nat) => (x : Int)).contains (x : Int) = s.testBit x := by
      rw [← hmem, Bool.eq_iff_iff, List.contains_iff_mem, List.contains_iff_mem, List.mem_map]
      constructor
      · rintro ⟨a, ha, e⟩; rwa [show x = a by omega]
      · exact fun h => ⟨x, h, rfl⟩
    rw [hcon]
    cases hb : s.testBit x
    · rw [hb] at h
      simp at h
      have hst := b.step h1 hn hlt hb
      have hpr : pR n S k (bor s (pw x)) ≤ 720 := by
        have h1' := pR_np (S := S) h1 hn hst.lt (k := k) (by rw [hst.len]; simp; omega)
        have : ∀ m, m ≤ 6 → fac m ≤ 720 := by decide
        have := this k (by omega)
        omega
      generalize hpe : pR n S k (bor s (pw x)) = p at *
      have next := ihc (x + 1) (y + p) (by omega) (by omega) (by
        rw [show ((y + p + (((List.range' (x + 1) c).filter fun x => !s.testBit x).map fun x => pR n S k (bor s (pw x))).sum : Nat) : Int) = (y : Int) + ((p : Int) + ((((List.range' (x + 1) c).filter fun x => !s.testBit x).map fun x => pR n S k (bor s (pw x))).sum : Nat)) by omega]
        exact h)
      have ha : IntKind.i64.wrap ((y : Int) + (p : Int)) = ((y + p : Nat) : Int) := by rw [w64 (by omega)]; omega
      have hqz' : ∀ bar' (H' : Heap), frzAll bar' H' [.agg [.int .i64 (n : Int), q], outL 1 (nats (l ++ [x]))] = some ([.agg [.int .i64 (n : Int), q], outL 1 (nats (l ++ [x]))], H') := fun bar' H' => by
        have hu : isL (outL 1 (nats (l ++ [x]))) (l ++ [x]) := isL.out
        simp [frzAll, frz.frzs, frzsW, frz_agg, frz_int, hqz, hu.frz]
      have call : ∀ (v2 : AV) (H2 : Heap) {Q2 : AV → Heap → Prop}, Own H.length 1 (nats (l ++ [x])) v2 H2 → H.length ≤ H2.length → (∀ j, j < H.length → H2[j]? = H[j]?) → 
          (∀ H3 : Heap, H3.take H.length = H → (∀ j, j < H.length → H3[j]? = H[j]?) → H3.length = H2.length → Q2 (.int .i64 (p : Int)) H3) → WpCall E true H.length bar 94 [.agg [.int .i64 (n : Int), q], v2] H2 Q2 := by
        intro v2 H2 Q2 o2 hl2 hs2 hk3
        obtain ⟨H3, f1, f2, f3, f4⟩ := o2.frz (d := 5) (bar := bar) (by decide) (Nat.one_dvd _) nats_plain (by omega)
        have hall : frzAll bar H2 [.agg [.int .i64 (n : Int), q], v2] = some ([.agg [.int .i64 (n : Int), q], outL 1 (nats (l ++ [x]))], H3) := by
          simp [frzAll, frz.frzs, frzsW, frz_agg, frz_int, hqz, f1]
        have same3 : H3.take H.length = H := by
          apply List.ext_getElem?
          intro j
          rw [List.getElem?_take]
          split
          · rw [f4 j (by intro hc; have := (o2.lt hc).1; omega)]
            exact hs2 j (by omega)
          · rw [List.getElem?_eq_none (by omega)]
        refine k94f hall (hqz' _ _) (ih (l ++ [x]) (bor s (pw x)) _ _ _ H3 Q2 hst (by simp; omega) isN.out (by omega) ?_)
        rw [hpe]
        exact hk3 H3 same3 (fun j hj => by
          rw [f4 j (by intro hc; have := (o2.lt hc).1; omega)]
          exact hs2 j hj) f3
      simp [go_sem, ld2, aop, chunks]
      rw [wpop_app]
      simp [Opd.ev, go_sem]
      refine app_lst0 (bytes := 8) hv.l (by omega) (fun hb0 => ?_) (fun hb0 => ?_)
      · simp [go_sem, aop, chunks, fillA, setCells, AV.noVec.noVecs, AV.noVec]
        rw [wpop_app]
        simp [Opd.ev, go_sem]
        refine app_lst0 (b := [x]) (.inr ⟨true, rfl⟩) (by simp) (fun hc => by simp at hc) (fun _ => ?_)
        obtain ⟨v2, hv2e⟩ : ∃ v2, v2 = AV.vec H.length 0 0 [x].length 1 := ⟨_, rfl⟩
        obtain ⟨H2, hH2e⟩ : ∃ H2, H2 = H ++ [Blk.row 0 (nats [x]) 0 false] := ⟨_, rfl⟩
        rw [← hv2e, ← hH2e]
        simp [go_sem]
        refine call v2 H2 (by
          rw [hv2e, hH2e, hb0]
          exact .inr ⟨H.length, 0, 0, by simp [nats], by omega, by simp, by simp [nats], by simp⟩) (by rw [hH2e]; simp) (fun j hj => by rw [hH2e, List.getElem?_append_left hj]) fun H3 e1 e2 e3 => ?_
        simp [go_sem, ha, hs, e1, hv.top]
        exact ⟨hidl, next⟩
      · simp [go_sem, aop, chunks, fillA, setCells, AV.noVec.noVecs, AV.noVec]
        rw [wpop_app]
        simp [Opd.ev, go_sem]
        have o1 : Own H.length 1 (nats l) (.vec H.length 0 0 l.length 1) (H ++ [.row 0 (nats l) 0 false]) :=
          .inr ⟨H.length, 0, 0, by simpa [nats_eq_nil] using hb0, by omega, by simp, by simp [nats_length], by simp⟩
        refine ownNat o1 (by simp) (by omega) (Nat.le_refl _) (by omega) fun v2 H2 tc2 o2 k2 => ?_
        have hl2 : H.length ≤ H2.length := by have := k2.len; simp at this; omega
        have hs2 : ∀ j, j < H.length → H2[j]? = H[j]? := fun j hj => by
          rw [k2.same j (by simp; omega) (by simp [idOf]; omega), List.getElem?_append_left hj]
        have hc2 : id ∉ tc2 := fun hc => by
          have := k2.tc _ hc
          simp [idOf] at this
          omega
        simp [go_sem, hc2]
        refine call v2 H2 o2 hl2 hs2 fun H3 e1 e2 e3 => ?_
        simp [go_sem, hc2, ha, hs, e1, hv.top]
        exact ⟨hidl, next⟩
    · rw [hb] at h
      simp at h
      have next := ihc (x + 1) y (by omega) (by omega) h
      simp [go_sem, hs, hv.top]
      exact ⟨hidl, next⟩
theorem l94_3 {id ver fz n s : Nat} {ex : Bool} {q v : AV} {l : List Nat} (hn : n ≤ 6) (b : Begun n l s) (hall : ∀ x, x < n → s.testBit x = true) (hv : isN v l) (hid : H[id]? = some (.row ver [.int .i64 (n : Int), q] fz ex)) {R : PQ} :
    ∀ (c x : Nat), x + c = n → R (.exit 4) [(1, v), (2, .ptr id ver 0), (8, .int .i64 0), (9, .int .i64 (n : Int)), (53, .bool false)] H →
    Wp E base bar (.loop c94_l2) [(1, v), (2, .ptr id ver 0), (8, .int .i64 0), (9, .int .i64 (x : Int))] H R := by
  have ld : aload H ⟨false, 1⟩ (.ptr id ver 0) = some (.int .i64 (n : Int)) := by rw [aload_ptr hid]; rfl
  have hidl := (List.getElem?_eq_some_iff.1 hid).1
  have hl6 : l.length ≤ 6 := by rw [← b.len]; exact pc_le
  intro c
  induction c with
  | zero =>
    intro x hx h
    obtain rfl : x = n := by omega
    rw [wp_round c94_l2.eq_1]
    simp [go_sem, ld]
    exact h
  | succ c ihc =>
    intro x hx h
    have hlt : x < n := by omega
    have hs := i64_suc (show x < 1000000 by omega)
    have hmem := b.mem x (by omega)
    have next := ihc (x + 1) (by omega) h
    rw [wp_round c94_l2.eq_1]
    simp [go_sem, ld, hlt]
    refine k105 hv.v (by simp; omega) ?_
    have hcon : (l.map fun (x : Nat) => (x : Int)).contains (x : Int) = s.testBit x := by
      rw [← hmem, Bool.eq_iff_iff, List.contains_iff_mem, List.contains_iff_mem, List.mem_map]
      constructor
      · rintro ⟨a, ha, e⟩; rwa [show x = a by omega]
      · exact fun h => ⟨x, h, rfl⟩
    rw [hcon, hall x hlt]
    simp [go_sem, hs, hv.top]
    exact ⟨hidl, next⟩
theorem k94 {n : Nat} {q : AV} {S : List Nat} (h1 : 1 ≤ n) (hn : n ≤ 6) (hq : isVV q (S.map dyL)) (hS : ∀ x ∈ S, x < 64) (hlS : S.length ≤ 64) : ∀ (k : Nat) (l : List Nat) (s : Nat) (v : AV) (pure : Bool) (base bar : Nat) (H : Heap) (Q : AV → Heap → Prop), Begun n l s → l.length + k = n → isN v l → bar ≤ H.length → Q (.int .i64 (pR n S k s : Nat)) H → WpCall E pure base bar 94 [.agg [.int .i64 (n : Int), q], v] H Q := by
  intro k
  induction k with
  | zero =>
    intro l s v pure base bar H Q b hk hv hbar h
    have hbp : (if pure = true then H.length else bar) ≤ H.length := by cases pure <;> simp <;> omega
    rw [call94]
    simp [go_sem, WpFun, c94, hq.frz, hv.l.frz, box2]
    generalize (if pure = true then H.length else bar) = bar' at *
    refine l94_1 (id := H.length) (ver := 0) (fz := 0) (ex := true) h1 hn hq hS hlS b hv (by rw [own_get0]; rfl) S.length 0 (by omega) (fun e => ?_) (fun e => ?_)
    · rw [List.drop_zero] at e
      rw [show n - l.length = 0 by omega]
      simp only [pR, e, if_true] at h
      simp [go_sem, fac]
      exact h
    · rw [List.drop_zero] at e
      simp only [pR, e, Bool.false_eq_true, if_false] at h
      simp [go_sem]
      refine l94_3 (id := H.length) (ver := 0) (fz := 0) (ex := true) (q := q) hn b (fun x hx => ?_) hv (by rw [own_get0]; rfl) n 0 (by omega) ?_
      · have hf := (free_ok h1 hn b.lt).1
        have hpc := b.len
        have h0 : freeX n s = [] := List.length_eq_zero_iff.1 (by omega)
        cases ht : s.testBit x
        · have : x ∈ freeX n s := List.mem_filter.2 ⟨List.mem_range.2 hx, by rw [ht]; rfl⟩
          rw [h0] at this
          simp at this
        · rfl
      · simp [go_sem]
        exact h
  | succ k ih =>
    intro l s v pure base bar H Q b hk hv hbar h
    have hbp : (if pure = true then H.length else bar) ≤ H.length := by cases pure <;> simp <;> omega
    rw [call94]
    simp [go_sem, WpFun, c94, hq.frz, hv.l.frz, box2]
    generalize (if pure = true then H.length else bar) = bar' at *
    refine l94_1 (id := H.length) (ver := 0) (fz := 0) (ex := true) h1 hn hq hS hlS b hv (by rw [own_get0]; rfl) S.length 0 (by omega) (fun e => ?_) (fun e => ?_)
    · rw [List.drop_zero] at e
      rw [show n - l.length = k + 1 by omega]
      simp only [pR, e, if_true] at h
      simp [go_sem]
      exact h
    · rw [List.drop_zero] at e
      simp only [pR, e, Bool.false_eq_true, if_false] at h
      simp [go_sem]
      refine l94_2 (id := H.length) (ver := 0) (fz := 0) (ex := true) (S := S) (k := k) (s := s) h1 hn (fun _ _ _ => hq.frz) hq.cells b hk hv (by rw [own_get0]; rfl) (by simp; omega) (fun l s v base bar H Q => ih l s v true base bar H Q) n 0 0 (by omega) (by omega) ?_
      rw [Nat.zero_add, ← List.range_eq_range']
      simp only [freeX] at h
      simp [go_sem]
      exact h
end Go.Proofs.YtbkhffakhggdaaaDoor.Code
end
section
namespace Go.Proofs.YtbkhffakhggdaaaDoor.Code
open Go Go.Ab
variable {pure : Bool} {base bar : Nat} {H : Heap} {Q : AV → Heap → Prop} {K : AV → Heap → List Nat → Prop}
/-! 39, 40 for any shelf, and law 6 -/
def npZ (z : Int) (ls : List (List Int)) : Int := ((fac z.toNat - pS (opS z [] ls).2 (pw z.toNat) (pw z.toNat - 1) : Nat) : Int)
theorem k39z {z : Int} {q : AV} {ls : List (List Int)} (hq : isVV q ls) (hl : ls.length < 1000) (hll : ∀ l ∈ ls, l.length < 1000) (hbar : bar ≤ H.length)
    (he : errZ z ls ≠ 0 → Q (.tup [.int .i64 0, .int .i64 (errZ z ls)]) H)
    (h0 : errZ z ls = 0 → Q (.tup [.int .i64 (npZ z ls), .int .i64 0]) H) : WpCall E pure base bar 39 [.agg [.int .i64 z, q]] H Q := by
  unfold errZ at he h0
  by_cases hz : 1 ≤ z ∧ z ≤ 6
  · rw [if_pos hz] at he h0
    obtain ⟨n, rfl⟩ := Int.eq_ofNat_of_zero_le (show 0 ≤ z by omega)
    exact k39 (by omega) (by omega) hq hl hll hbar he fun e => h0 e
  · rw [if_neg hz] at he
    have := he (by decide)
    rw [call39]
    simp [go_sem, WpFun, c39, hq.frz, box2]
    refine k68o hz (fun _ _ _ => hq.frz) hq.cells ?_
    simp [go_sem]
    exact this
theorem k40z {z : Int} {q : AV} {ls : List (List Int)} (hq : isVV q ls) (hl : ls.length < 1000) (hll : ∀ l ∈ ls, l.length < 1000) (hbar : bar ≤ H.length)
    (he : errZ z ls ≠ 0 → Q (.tup [.int .i64 0, .int .i64 (errZ z ls)]) H)
    (h0 : errZ z ls = 0 → Q (.tup [.int .i64 (npZ z ls), .int .i64 0]) H) : WpCall E pure base bar 40 [.agg [.int .i64 z, q]] H Q := by
  rw [call40]
  simp [go_sem, WpFun, c40, hq.frz, box2]
  refine k42z hq hl hll ?_
  by_cases e : errZ z ls = 0
  · obtain ⟨n, hz, h1, hn, hzz, hqS, hlt, hnd, hlS⟩ := shelf_sets hq hl e
    have h := h0 e
    subst hz
    unfold npZ at h
    rw [Int.toNat_natCast] at h
    generalize (opS (n : Int) [] ls).2 = S at *
    rw [← pR_pS h1 hn] at h
    simp [go_sem, e, box2]
    refine k94 h1 hn hqS (fun x hx => pw_64 hn (hlt x hx)) hlS n [] 0 .nils _ _ _ _ _ Begun.nil (by simp) (.inl ⟨rfl, rfl⟩) (by cases pure <;> simp; omega) ?_
    simp [go_sem]
    exact h
  · have := he e
    simp [go_sem, e]
    exact this
theorem law6 {z : Int} {q : AV} {ls : List (List Int)} (hq : isVV q ls) : WpCall E false 0 0 6 [.agg [.int .i64 z, q]] [] (fun v _ => v = .bool true) := by
  rw [call6]
  simp [go_sem, WpFun, c6, hq.frz, hq.cells]
  simp [go_sem, aload, Ab.part]
  refine k14 hq ?_
  cases hlg : lg ls
  · have hl : ls.length < 1000 := by
      unfold lg at hlg
      rw [Bool.or_eq_false_iff] at hlg
      have := of_decide_eq_false hlg.1
      omega
    have hll : ∀ l ∈ ls, l.length < 1000 := fun l hl => by
      unfold lg at hlg
      rw [Bool.or_eq_false_iff, List.any_eq_false] at hlg
      have := hlg.2 l hl
      simp at this
      omega
    simp [go_sem, storeWp, astore, setCells, aload, Ab.part, hq.isTup, hq.cells, hq.top, AV.top.tops, AV.top]
    by_cases e : errZ z ls = 0
    · refine k37z hq hl hll (Nat.zero_le _) (fun c => (c e).elim) (fun _ _ => ?_)
      generalize hA : conA (opS z [] ls).2 = A
      simp [go_sem, aload, Ab.part]
      refine k38z hq hl hll (fun c => (c e).elim) (fun _ _ => ?_)
      rw [hA]
      simp [go_sem, aload, Ab.part]
      refine k39z hq hl hll (Nat.zero_le _) (fun c => (c e).elim) (fun _ => ?_)
      simp [go_sem, aload, Ab.part]
      refine k40z hq hl hll (Nat.zero_le _) (fun c => (c e).elim) (fun _ => ?_)
      simp [go_sem, aload, Ab.part]
      refine k41z hq hl hll (Nat.zero_le _) ?_
      simp [go_sem, aload, Ab.part]
      refine k42z hq hl hll ?_
      simp [go_sem]
      refine call15.2 ?_
      simp [go_sem]
      exact .inl hq.noVec
    · refine k37z hq hl hll (Nat.zero_le _) (fun _ => ?_) (fun c => (e c).elim)
      simp [go_sem, aload, Ab.part]
      refine k38z hq hl hll (fun _ => ?_) (fun c => (e c).elim)
      simp [go_sem, aload, Ab.part]
      refine k39z hq hl hll (Nat.zero_le _) (fun _ => ?_) (fun c => (e c).elim)
      simp [go_sem, aload, Ab.part]
      refine k40z hq hl hll (Nat.zero_le _) (fun _ => ?_) (fun c => (e c).elim)
      simp [go_sem, aload, Ab.part]
      refine k41z hq hl hll (Nat.zero_le _) ?_
      simp [go_sem, aload, Ab.part]
      refine k42z hq hl hll ?_
      simp [go_sem]
      refine call15.2 ?_
      simp [go_sem]
      exact .inl hq.noVec
  · simp [go_sem]
    refine call15.2 ?_
    simp [go_sem]
theorem shelves_true {z : Int} {q : AV} {ls : List (List Int)} (hq : isVV q ls) : ∃ f H', acall E f 6 [.agg [.int .i64 z, q]] [] = some (.bool true, H') := by
  obtain ⟨f, v, H', h, rfl⟩ := law6 (z := z) hq
  exact ⟨f, H', h⟩
end Go.Proofs.YtbkhffakhggdaaaDoor.Code
end
