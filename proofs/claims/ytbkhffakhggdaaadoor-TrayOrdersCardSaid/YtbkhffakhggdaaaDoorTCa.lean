/-
  Part of the proofs about this chapter: contracts of functions, answers of calls, and plain laws.
-/
import Derived.Test.YtbkhffakhggdaaaDoorTA
import Derived.Test.YtbkhffakhggdaaaDoorKit
set_option linter.all false
section
namespace Go.Proofs.YtbkhffakhggdaaaDoor.Code
open Go Go.Ab
variable {pure : Bool} {base bar : Nat} {H : Heap} {Q : AV → Heap → Prop} {K : AV → Heap → List Nat → Prop}

/-! lists of numbers with a sign -/
def ints (l : List Int) : List AV := l.map (.int .i64)
def isV (v : AV) (l : List Int) : Prop := (v = .nils ∧ l = []) ∨ v = .lst 1 false (ints l)
theorem isV.len {v : AV} {l : List Int} (h : isV v l) : lenWp (some v) H K = K (.int .i64 (l.length : Int)) H [] := by
  rcases h with ⟨rfl, rfl⟩ | rfl
  · rfl
  · rw [lenWp_lst]; simp [ints]
theorem isV.frz {v : AV} {l : List Int} (h : isV v l) {d : Nat} : Go.Ab.frz (d + 1) bar H v = some (v, H) := by
  rcases h with ⟨rfl, rfl⟩ | rfl <;> rfl
theorem isV.top {v : AV} {l : List Int} (h : isV v l) : v.top = 0 := by
  rcases h with ⟨rfl, rfl⟩ | rfl
  · rfl
  · exact tops_zero fun x hx => by
      obtain ⟨z, _, rfl⟩ := List.mem_map.1 hx
      rfl
theorem isV.isTup {v : AV} {l : List Int} (h : isV v l) : v.isTup = false := by
  rcases h with ⟨rfl, rfl⟩ | rfl <;> rfl
theorem isV.cells {v : AV} {l : List Int} (h : isV v l) : v.cells = [v] := by
  rcases h with ⟨rfl, rfl⟩ | rfl <;> rfl
theorem isV.noVec {v : AV} {l : List Int} (h : isV v l) : v.noVec = true := by
  rcases h with ⟨rfl, rfl⟩ | rfl <;> rfl
theorem isV.ix {v : AV} {l : List Int} (h : isV v l) {k : IntKind} {i : Nat} (hi : i < l.length) : ixaSWp 1 (some v) (some (.int k (i : Int))) H K = K (.fp (.int .i64 l[i])) H [] := by
  rcases h with ⟨rfl, rfl⟩ | rfl
  · simp at hi
  · rw [ixaSWp_lst]
    simp only [Int.toNat_natCast]
    rw [show (ints l)[i]? = some (.int .i64 l[i]) by simp [ints, List.getElem?_eq_getElem hi]]
    simp [valWp_some]

/-! trays: the first error of a list, and its set -/
def errT (n : Int) : Int → List Int → Int
  | _, [] => 0
  | last, x :: r => if x < 0 ∨ n ≤ x then 2 else if x ≤ last then 7 else errT n x r
def orT : Nat → List Int → Nat
  | s, [] => s
  | s, x :: r => orT (bor s (pw x.toNat)) r
def subsF : Nat → Nat → List (List Int)
  | 0, _ => [[]]
  | k + 1, f => subsF k (f + 1) ++ (subsF k (f + 1)).map (((f : Nat) : Int) :: ·)
/-- the dyes of a set -/
def dyL (x : Nat) : List Int := ((List.range 6).filter fun i => x.testBit i).map fun (i : Nat) => (i : Int)
theorem subsF_of {n : Nat} : ∀ {k f : Nat} {l : List Int} {last : Int}, f + k = n → last + 1 = (f : Int) → errT n last l = 0 → l ∈ subsF k f
  | 0, f, [], _, _, _, _ => by simp [subsF]
  | k + 1, f, [], _, _, _, _ => by
    have := subsF_of (k := k) (f := f + 1) (l := []) (n := f + 1 + k) (last := f) rfl (by omega) rfl
    exact List.mem_append_left _ this
  | 0, f, x :: r, last, hn, hl, h => by
    unfold errT at h
    split at h
    · cases h
    · split at h
      · cases h
      · omega
  | k + 1, f, x :: r, last, hn, hl, h => by
    have h' := h
    unfold errT at h
    split at h
    · cases h
    · split at h
      · cases h
      · by_cases hx : x = (f : Int)
        · subst hx
          exact List.mem_append_right _ (List.mem_map.2 ⟨r, subsF_of (k := k) (f := f + 1) (by omega) (by omega) h, rfl⟩)
        · refine List.mem_append_left _ (subsF_of (k := k) (f := f + 1) (last := f) (n := n) (by omega) (by omega) ?_)
          unfold errT
          rw [if_neg (by assumption), if_neg (by omega)]
          exact h
theorem dyL_some : ((List.range' 1 6).all fun n => (subsF n 0).all fun l => (List.range (2 ^ n)).any fun x => (l == dyL x) && Nat.beq (orT 0 l) x) = true := by decide +kernel
theorem dyL_of {n : Nat} {l : List Int} (h1 : 1 ≤ n) (h6 : n ≤ 6) (h : errT n (-1) l = 0) : orT 0 l < pw n ∧ l = dyL (orT 0 l) := by
  have hm := subsF_of (n := n) (k := n) (f := 0) (by omega) (by decide) h
  have := List.all_eq_true.1 (List.all_eq_true.1 dyL_some n (List.mem_range'_1.2 ⟨h1, by omega⟩)) l hm
  obtain ⟨x, hx, hb⟩ := List.any_eq_true.1 this
  rw [Bool.and_eq_true] at hb
  obtain ⟨e1, e2⟩ := hb
  have e2 := Nat.eq_of_beq_eq_true e2
  have e1 := eq_of_beq e1
  rw [e2]
  exact ⟨List.mem_range.1 hx, e1⟩

theorem u64n {a : Nat} (h : a < 9223372036854775808) : IntKind.u64.wrap (a : Int) = a := Go.IntWalk.u64_in _ (by omega)
theorem or_u64 {a b : Nat} (ha : a < 64) (hb : b < 64) : abin .or (.int .u64 a) (.int .u64 b) = some (.int .u64 ((bor a b : Nat) : Int)) := by
  have hl : bor a b < 64 := Nat.or_lt_two_pow (n := 6) ha hb
  have e : (BitVec.ofInt 64 (a : Int) ||| BitVec.ofInt 64 (b : Int)).toNat = bor a b := by
    rw [BitVec.toNat_or, ofInt_toNat (w := 64) (by omega), ofInt_toNat (w := 64) (by omega)]; rfl
  simp only [abin, binInt, if_true]
  rw [show IntKind.u64.bits = 64 from rfl, e, u64n (by omega)]
theorem shl_u64 {b : Nat} (hb : b < 6) : abin .shl (.int .u64 1) (.int .i64 (b : Int)) = some (.int .u64 ((pw b : Nat) : Int)) := by
  have h2 : (2 : Nat) ^ b < 64 := Nat.pow_lt_pow_right (by decide) hb
  simp only [abin]
  rw [if_neg (by omega), Int.toNat_natCast, show min b IntKind.u64.bits = b from Nat.min_eq_left (by simp [IntKind.bits]; omega)]
  rw [show (1 : Int) * 2 ^ b = ((2 ^ b : Nat) : Int) by simp, u64n (by omega)]; rfl
theorem pw64 {b : Nat} (hb : b < 6) : pw b < 64 := Nat.pow_lt_pow_right (by decide) hb
theorem bor64 {a b : Nat} (ha : a < 64) (hb : b < 64) : bor a b < 64 := Nat.or_lt_two_pow (n := 6) ha hb

/-! 102, 72: a tray as a set -/
theorem k79 {n : Int} (h : Q (.bool (decide (1 ≤ n) && decide (n ≤ 6))) H) : WpCall E pure base bar 79 [.int .i64 n] H Q := by
  rw [call79]
  by_cases h1 : 1 ≤ n <;> by_cases h2 : n ≤ 6 <;> simp [h1, h2] at h <;> simp [go_sem, WpFun, c79, h1, h2] <;> exact h
theorem l102 {n : Nat} {v : AV} {l : List Int} (hn : n ≤ 6) (hv : isV v l) (hl : l.length < 1000) {R : PQ} : ∀ (k i s : Nat) (last : Int) (fr : List (Nat × AV)), i + k = l.length → s < 64 →
    (fr = [(0, .int .i64 (n : Int)), (6, .int .u64 (s : Nat)), (7, .int .i64 last), (10, v), (11, .int .i64 (l.length : Nat)), (12, .int .i64 (i : Nat))] ∨ fr = [(0, .int .i64 (n : Int)), (6, .int .u64 (s : Nat)), (10, v), (11, .int .i64 (l.length : Nat)), (12, .int .i64 (i : Nat)), (7, .int .i64 last)]) →
    (errT n last (l.drop i) ≠ 0 → R .ret [(4, .int .u64 0), (5, .int .i64 (errT n last (l.drop i)))] H) →
    (errT n last (l.drop i) = 0 → ∀ l', R (.exit 0) [(0, .int .i64 (n : Int)), (6, .int .u64 (orT s (l.drop i) : Nat)), (7, .int .i64 l'), (10, v), (11, .int .i64 (l.length : Nat)), (12, .int .i64 (l.length : Nat)), (13, .bool false)] H) →
    (errT n last (l.drop i) = 0 → ∀ l', R (.exit 0) [(0, .int .i64 (n : Int)), (6, .int .u64 (orT s (l.drop i) : Nat)), (10, v), (11, .int .i64 (l.length : Nat)), (12, .int .i64 (l.length : Nat)), (7, .int .i64 l'), (13, .bool false)] H) →
    Wp E base bar (.loop c102_l0) fr H R := by
  intro k
  induction k with
  | zero =>
    intro i s last fr hi hs hfr h1 h2 h3
    obtain rfl : i = l.length := by omega
    rw [List.drop_length] at h2 h3
    rw [wp_round c102_l0.eq_1]
    rcases hfr with rfl | rfl <;> simp [go_sem]
    · exact h2 rfl _
    · exact h3 rfl _
  | succ k ih =>
    intro i s last fr hi hs hfr h1 h2 h3
    have hlt : i < l.length := by omega
    rw [List.drop_eq_getElem_cons hlt] at h1 h2 h3
    have hix := fun (K : AV → Heap → List Nat → Prop) (k : IntKind) => hv.ix (H := H) (K := K) (k := k) hlt
    generalize l[i] = x at *
    rw [wp_round c102_l0.eq_1]
    unfold errT at h1 h2 h3
    have hw := i64_suc (show i < 1000000 by omega)
    by_cases hx0 : x < 0
    · rw [if_pos (.inl hx0)] at h1
      have := h1 (by decide)
      rcases hfr with rfl | rfl <;> simp [go_sem, hlt, hix, hx0]
      all_goals exact this
    by_cases hxn : (n : Int) ≤ x
    · rw [if_pos (.inr hxn)] at h1
      have := h1 (by decide)
      rcases hfr with rfl | rfl <;> simp [go_sem, hlt, hix, hx0, hxn]
      all_goals exact this
    rw [if_neg (by omega)] at h1 h2 h3
    obtain ⟨y, rfl⟩ := Int.eq_ofNat_of_zero_le (show 0 ≤ x by omega)
    have hy : y < 6 := by omega
    by_cases hle : (y : Int) ≤ last
    · rw [if_pos hle] at h1
      have := h1 (by decide)
      rcases hfr with rfl | rfl <;> simp [go_sem, hlt, hix, hx0, hxn, hle]
      all_goals exact this
    · rw [if_neg hle] at h1 h2 h3
      have next := ih (i + 1) (bor s (pw y)) (y : Int) _ (by omega) (bor64 hs (pw64 hy)) (.inr rfl) h1 (by simpa only [orT, Int.toNat_natCast] using h2) (by simpa only [orT, Int.toNat_natCast] using h3)
      have hny : ¬ n ≤ y := by omega
      rcases hfr with rfl | rfl <;> simp [go_sem, hlt, hix, hx0, hxn, hle, hny, shl_u64 hy, or_u64 hs (pw64 hy), hw]
      all_goals exact next
theorem k102 {n : Nat} {v : AV} {l : List Int} (hn : n ≤ 6) (hv : isV v l) (hl : l.length < 1000)
    (h1 : errT n (-1) l ≠ 0 → Q (.tup [.int .u64 0, .int .i64 (errT n (-1) l)]) H)
    (h2 : errT n (-1) l = 0 → Q (.tup [.int .u64 (orT 0 l : Nat), .int .i64 0]) H) : WpCall E pure base bar 102 [.int .i64 (n : Int), v] H Q := by
  rw [call102]
  simp [go_sem, WpFun, c102, hv.frz, hv.len]
  refine l102 hn hv hl l.length 0 0 (-1) _ (by omega) (by decide) (.inl rfl) (fun h => ?_) (fun h l' => ?_) (fun h l' => ?_)
  · rw [List.drop_zero] at h
    have := h1 h
    simp [go_sem]
    exact this
  all_goals
    rw [List.drop_zero] at h
    have := h2 h
    simp [go_sem]
    exact this
theorem k72o {n : Int} {v : AV} {l : List Int} (hn : ¬ (1 ≤ n ∧ n ≤ 6)) (hv : isV v l) (h1 : Q (.tup [.int .u64 0, .int .i64 1]) H) : WpCall E pure base bar 72 [.int .i64 n, v] H Q := by
  have hb : (decide (1 ≤ n) && decide (n ≤ 6)) = false := by
    rw [← Bool.not_eq_true, Bool.and_eq_true, decide_eq_true_eq, decide_eq_true_eq]; exact hn
  rw [call72]
  simp [go_sem, WpFun, c72, hv.frz]
  refine k79 ?_
  rw [hb]
  simp [go_sem]
  exact h1
theorem k72e {n : Nat} {v : AV} {l : List Int} (hn1 : 1 ≤ n) (hn : n ≤ 6) (hv : isV v l) (hl : l.length < 1000)
    (he : errT n (-1) l ≠ 0) (h1 : Q (.tup [.int .u64 0, .int .i64 (errT n (-1) l)]) H) : WpCall E pure base bar 72 [.int .i64 (n : Int), v] H Q := by
  have hb : (decide (1 ≤ (n : Int)) && decide ((n : Int) ≤ 6)) = true := by
    rw [Bool.and_eq_true, decide_eq_true_eq, decide_eq_true_eq]; omega
  rw [call72]
  simp [go_sem, WpFun, c72, hv.frz]
  refine k79 ?_
  rw [hb]
  simp [go_sem, hv.frz]
  refine k102 hn hv hl (fun _ => ?_) (fun h => (he h).elim)
  simp [go_sem]
  exact h1
theorem k84 {a b c : Int} (h : Q (.bool (decide (b ≤ a) && decide (a ≤ c))) H) : WpCall E pure base bar 84 [.int .i64 a, .int .i64 b, .int .i64 c] H Q := by
  rw [call84]
  by_cases h1 : b ≤ a <;> by_cases h2 : a ≤ c <;> simp [h1, h2] at h <;> simp [go_sem, WpFun, c84, h1, h2] <;> exact h
end Go.Proofs.YtbkhffakhggdaaaDoor.Code
end

section
namespace Go.Proofs.YtbkhffakhggdaaaDoor.Code
open Go Go.Ab
variable {pure : Bool} {base bar : Nat} {H : Heap} {Q : AV → Heap → Prop} {K : AV → Heap → List Nat → Prop}

theorem isV.fp {v : AV} {l : List Int} (h : isV v l) : aload H ⟨false, 1⟩ (.fp v) = some v := by
  rcases h with ⟨rfl, rfl⟩ | rfl <;> rfl
theorem box0 {a b : AV} : aload (H ++ [.row 0 [a, b] 0 true]) ⟨false, 1⟩ (.ptr H.length 0 0) = some a := by
  rw [aload_ptr (own_get0 (l := [.row 0 [a, b] 0 true]) |>.trans rfl)]; rfl
theorem box1 {a b : AV} : aload (H ++ [.row 0 [a, b] 0 true]) ⟨false, 1⟩ (.ptr H.length 0 1) = some b := by
  rw [aload_ptr (own_get0 (l := [.row 0 [a, b] 0 true]) |>.trans rfl)]; rfl
theorem box2 {a b : AV} : aload (H ++ [.row 0 [a, b] 0 true]) ⟨true, 2⟩ (.ptr H.length 0 0) = some (.agg [a, b]) := by
  rw [aload_ptr (own_get0 (l := [.row 0 [a, b] 0 true]) |>.trans rfl)]; rfl

/-! 42: the reference's check, tray by tray -/
theorem l42_0 {id ver fz : Nat} {ex : Bool} {n : Nat} {q v : AV} {l : List Int} {j : Int} (hn1 : 1 ≤ n) (hn : n ≤ 6) (hv : isV v l) (hl : l.length < 1000) (hid : H[id]? = some (.row ver [.int .i64 (n : Int), q] fz ex)) {R : PQ} :
    ∀ (k i : Nat) (last : Int), i + k = l.length → (i = 0 ∧ last = -1 ∨ 0 < i ∧ l[i - 1]? = some last) →
    (errT n last (l.drop i) ≠ 0 → R .ret [(2, .int .i64 (errT n last (l.drop i)))] H) →
    (errT n last (l.drop i) = 0 → R (.exit 2) [(1, .ptr id ver 0), (3, .int .i64 j), (4, v), (5, .int .i64 (l.length : Nat)), (26, .bool false)] H) →
    Wp E base bar (.loop c42_l0) [(1, .ptr id ver 0), (3, .int .i64 j), (4, v), (5, .int .i64 (i : Nat))] H R := by
  have ld : aload H ⟨false, 1⟩ (.ptr id ver 0) = some (.int .i64 (n : Int)) := by rw [aload_ptr hid]; rfl
  have hlt' := (List.getElem?_eq_some_iff.1 hid).1
  intro k
  induction k with
  | zero =>
    intro i last hi hla h1 h2
    obtain rfl : i = l.length := by omega
    rw [List.drop_length] at h2
    rw [wp_round c42_l0.eq_1]
    simp [go_sem, hv.len]
    exact h2 rfl
  | succ k ih =>
    intro i last hi hla h1 h2
    have hlt : i < l.length := by omega
    have hgi : l[i + 1 - 1]? = some l[i] := by rw [Nat.add_sub_cancel, List.getElem?_eq_getElem hlt]
    rw [List.drop_eq_getElem_cons hlt] at h1 h2
    have hix := fun (K : AV → Heap → List Nat → Prop) (k : IntKind) => hv.ix (H := H) (K := K) (k := k) hlt
    have hix' := fun (j : Nat) (hj : j < l.length) (K : AV → Heap → List Nat → Prop) (k : IntKind) => hv.ix (H := H) (K := K) (k := k) hj
    generalize l[i] = x at *
    rw [wp_round c42_l0.eq_1]
    unfold errT at h1 h2
    have hw := i64_suc (show i < 1000000 by omega)
    have hn1' : IntKind.i64.wrap ((n : Int) - 1) = (n : Int) - 1 := by rw [show (n : Int) - 1 = ((n - 1 : Nat) : Int) by omega, i64_nat (by omega)]
    by_cases hx : x < 0 ∨ (n : Int) ≤ x
    · rw [if_pos hx] at h1
      have := h1 (by decide)
      have hb : (decide (0 ≤ x) && decide (x ≤ (n : Int) - 1)) = false := by
        rw [← Bool.not_eq_true, Bool.and_eq_true, decide_eq_true_eq, decide_eq_true_eq]; omega
      simp [go_sem, hv.len, hlt, hix, ld, hn1']
      refine k84 ?_
      rw [hb]
      simp [go_sem]
      exact this
    · rw [if_neg hx] at h1 h2
      have hb : (decide (0 ≤ x) && decide (x ≤ (n : Int) - 1)) = true := by
        rw [Bool.and_eq_true, decide_eq_true_eq, decide_eq_true_eq]; omega
      simp [go_sem, hv.len, hlt, hix, ld, hn1']
      refine k84 ?_
      rw [hb]
      rcases hla with ⟨rfl, rfl⟩ | ⟨hi0, hla⟩
      · rw [if_neg (by omega)] at h1 h2
        have next := ih (0 + 1) x (by omega) (.inr ⟨by omega, hgi⟩) h1 h2
        simp [go_sem]
        exact next
      · obtain ⟨hj, rfl⟩ := List.getElem?_eq_some_iff.1 hla
        have hix1 := hix' (i - 1) hj
        have hwi : IntKind.i64.wrap ((i : Int) - 1) = ((i - 1 : Nat) : Int) := by rw [show (i : Int) - 1 = ((i - 1 : Nat) : Int) by omega, i64_nat (by omega)]
        generalize l[i - 1] = y at *
        by_cases hle : x ≤ y
        · rw [if_pos hle] at h1
          have := h1 (by decide)
          simp [go_sem, hi0, hix, hix1, hwi, hle]
          exact this
        · rw [if_neg hle] at h1 h2
          have next := ih (i + 1) x (by omega) (.inr ⟨by omega, hgi⟩) h1 h2
          simp [go_sem, hi0, hix, hix1, hwi, hle, hw]
          exact next
theorem k42o {n : Int} {q : AV} (hn : ¬ (1 ≤ n ∧ n ≤ 6)) (hq : ∀ (d bar : Nat) (H : Heap), frz (d + 1) bar H q = some (q, H)) (hc : q.cells = [q]) (h1 : Q (.int .i64 1) H) : WpCall E pure base bar 42 [.agg [.int .i64 n, q]] H Q := by
  have hb : (decide (1 ≤ n) && decide (n ≤ 6)) = false := by
    rw [← Bool.not_eq_true, Bool.and_eq_true, decide_eq_true_eq, decide_eq_true_eq]; exact hn
  rw [call42]
  simp [go_sem, WpFun, c42, hq, hc, box0, box1]
  refine k84 ?_
  rw [hb]
  simp [go_sem]
  exact h1
/-- one tray alone, with an error -/
theorem k42e {n : Nat} {v : AV} {l : List Int} {ex : Bool} (hn1 : 1 ≤ n) (hn : n ≤ 6) (hv : isV v l) (hl : l.length < 1000) (he : errT n (-1) l ≠ 0) (h1 : Q (.int .i64 (errT n (-1) l)) H) :
    WpCall E pure base bar 42 [.agg [.int .i64 (n : Int), .lst 1 ex [v]]] H Q := by
  have hb : (decide (1 ≤ (n : Int)) && decide ((n : Int) ≤ 6)) = true := by
    rw [Bool.and_eq_true, decide_eq_true_eq, decide_eq_true_eq]; omega
  rw [call42]
  simp [go_sem, WpFun, c42, box0, box1]
  refine k84 ?_
  rw [hb]
  simp [go_sem]
  rw [wp_round c42_l2.eq_1]
  simp [go_sem, box0, box1, hv.fp]
  refine l42_0 (id := H.length) (ver := 0) (fz := 0) (ex := true) (q := .lst 1 ex [v]) hn1 hn hv hl (own_get0 (l := [.row 0 [.int .i64 (n : Int), .lst 1 ex [v]] 0 true]) |>.trans rfl) l.length 0 (-1) (by omega) (.inl ⟨rfl, rfl⟩) (fun h => ?_) (fun h => ?_)
  · simp [go_sem]
    exact h1
  · exact (he h).elim
/-- one tray alone, without an error -/
theorem k42v {n : Nat} {v : AV} {l : List Int} {ex : Bool} (hn1 : 1 ≤ n) (hn : n ≤ 6) (hv : isV v l) (hl : l.length < 1000) (he : errT n (-1) l = 0) (h1 : Q (.int .i64 0) H) :
    WpCall E pure base bar 42 [.agg [.int .i64 (n : Int), .lst 1 ex [v]]] H Q := by
  have hb : (decide (1 ≤ (n : Int)) && decide ((n : Int) ≤ 6)) = true := by
    rw [Bool.and_eq_true, decide_eq_true_eq, decide_eq_true_eq]; omega
  rw [call42]
  simp [go_sem, WpFun, c42, box0, box1]
  refine k84 ?_
  rw [hb]
  simp [go_sem]
  rw [wp_round c42_l2.eq_1]
  simp [go_sem, box0, box1, hv.fp]
  refine l42_0 (id := H.length) (ver := 0) (fz := 0) (ex := true) (q := .lst 1 ex [v]) hn1 hn hv hl (own_get0 (l := [.row 0 [.int .i64 (n : Int), .lst 1 ex [v]] 0 true]) |>.trans rfl) l.length 0 (-1) (by omega) (.inl ⟨rfl, rfl⟩) (fun h => (h he).elim) (fun h => ?_)
  simp [go_sem]
  rw [wp_round c42_l1.eq_1]
  simp [go_sem, i64_suc (show 0 < 1000000 by omega)]
  rw [wp_round c42_l2.eq_1]
  simp [go_sem, box0, box1, hv.fp]
  exact h1
def lst0 : AV := .lst 1 false []
/-- a tray without an error is one of the sets' -/
theorem isV_dy {n : Nat} {v : AV} {l : List Int} (h1 : 1 ≤ n) (h6 : n ≤ 6) (hv : isV v l) (he : errT n (-1) l = 0) : ∃ x, x < pw n ∧ (v = dy x ∨ (x = 0 ∧ v = lst0)) := by
  obtain ⟨hx, hl⟩ := dyL_of h1 h6 he
  refine ⟨orT 0 l, hx, ?_⟩
  have hx6 : orT 0 l < 64 := Nat.lt_of_lt_of_le hx (Nat.le_trans (Nat.pow_le_pow_right (by decide) h6) (by decide : 2 ^ 6 ≤ 64))
  generalize orT 0 l = x at *
  have key : ∀ x, x < 64 → x ≠ 0 → dyL x ≠ [] := by decide +kernel
  rcases hv with ⟨rfl, rfl⟩ | rfl
  · by_cases h0 : x = 0
    · subst h0; exact .inl rfl
    · exact (key x hx6 h0 hl.symm).elim
  · by_cases h0 : x = 0
    · subst h0
      refine .inr ⟨rfl, ?_⟩
      rw [hl]; rfl
    · refine .inl ?_
      unfold dy
      rw [if_neg h0, hl]
      simp [ints, dyL]

end Go.Proofs.YtbkhffakhggdaaaDoor.Code
end

section
namespace Go.Proofs.YtbkhffakhggdaaaDoor.Code
open Go Go.Ab
variable {pure : Bool} {base bar : Nat} {H : Heap} {Q : AV → Heap → Prop} {K : AV → Heap → List Nat → Prop}

/-! 105, 92: has, inside -/
theorem l105 {v : AV} {l : List Int} {z : Int} (hv : isV v l) (hl : l.length < 1000) {R : PQ} : ∀ (k i : Nat), i + k = l.length →
    ((l.drop i).contains z = false → R (.exit 0) [(0, v), (1, .int .i64 z), (5, .int .i64 (l.length : Nat)), (9, .bool false)] H) →
    ((l.drop i).contains z = true → R .ret [(4, .bool true)] H) →
    Wp E base bar (.loop c105_l0) [(0, v), (1, .int .i64 z), (5, .int .i64 (i : Nat))] H R := by
  intro k
  induction k with
  | zero =>
    intro i hi h1 h2
    obtain rfl : i = l.length := by omega
    rw [List.drop_length] at h1
    rw [wp_round c105_l0.eq_1]
    simp [go_sem, hv.len]
    exact h1 rfl
  | succ k ih =>
    intro i hi h1 h2
    have hlt : i < l.length := by omega
    rw [List.drop_eq_getElem_cons hlt, List.contains_cons] at h1 h2
    have hix := fun (K : AV → Heap → List Nat → Prop) (k : IntKind) => hv.ix (H := H) (K := K) (k := k) hlt
    generalize l[i] = x at *
    have hw := i64_suc (show i < 1000000 by omega)
    rw [wp_round c105_l0.eq_1]
    by_cases hx : x = z
    · subst hx
      have := h2 (by simp)
      simp [go_sem, hv.len, hlt, hix]
      exact this
    · have hb : (z == x) = false := by simpa using fun h => hx h.symm
      rw [hb] at h1 h2
      simp only [Bool.false_or] at h1 h2
      have next := ih (i + 1) (by omega) h1 h2
      simp [go_sem, hv.len, hlt, hix, hx, hw]
      exact next
theorem k105 {v : AV} {l : List Int} {z : Int} (hv : isV v l) (hl : l.length < 1000) (h : Q (.bool (l.contains z)) H) : WpCall E pure base bar 105 [v, .int .i64 z] H Q := by
  rw [call105]
  simp [go_sem, WpFun, c105, hv.frz]
  refine l105 hv hl l.length 0 (by omega) (fun hc => ?_) (fun hc => ?_)
  all_goals
    rw [List.drop_zero] at hc
    rw [hc] at h
    simp [go_sem]
    exact h
theorem l92 {v w : AV} {l m : List Int} (hv : isV v l) (hw : isV w m) (hl : l.length < 1000) (hm : m.length < 1000) {R : PQ} : ∀ (k i : Nat), i + k = l.length →
    ((l.drop i).all m.contains = true → R (.exit 0) [(0, v), (1, w), (5, .int .i64 (l.length : Nat)), (9, .bool false)] H) →
    ((l.drop i).all m.contains = false → R .ret [(4, .bool false)] H) →
    Wp E base bar (.loop c92_l0) [(0, v), (1, w), (5, .int .i64 (i : Nat))] H R := by
  intro k
  induction k with
  | zero =>
    intro i hi h1 h2
    obtain rfl : i = l.length := by omega
    rw [List.drop_length] at h1
    rw [wp_round c92_l0.eq_1]
    simp [go_sem, hv.len]
    exact h1 rfl
  | succ k ih =>
    intro i hi h1 h2
    have hlt : i < l.length := by omega
    rw [List.drop_eq_getElem_cons hlt, List.all_cons] at h1 h2
    have hix := fun (K : AV → Heap → List Nat → Prop) (k : IntKind) => hv.ix (H := H) (K := K) (k := k) hlt
    generalize l[i] = x at *
    have hs := i64_suc (show i < 1000000 by omega)
    rw [wp_round c92_l0.eq_1]
    simp [go_sem, hv.len, hlt, hix]
    refine k105 hw hm ?_
    cases hc : m.contains x
    · rw [hc] at h2
      have := h2 (by simp)
      simp [go_sem]
      exact this
    · rw [hc] at h1 h2
      simp only [Bool.true_and] at h1 h2
      have next := ih (i + 1) (by omega) h1 h2
      simp [go_sem, hs]
      exact next
theorem k92 {v w : AV} {l m : List Int} (hv : isV v l) (hw : isV w m) (hl : l.length < 1000) (hm : m.length < 1000) (h : Q (.bool (l.all m.contains)) H) : WpCall E pure base bar 92 [v, w] H Q := by
  rw [call92]
  simp [go_sem, WpFun, c92, hv.frz, hw.frz]
  refine l92 hv hw hl hm l.length 0 (by omega) (fun hc => ?_) (fun hc => ?_)
  all_goals
    rw [List.drop_zero] at hc
    rw [hc] at h
    simp [go_sem]
    exact h

/-! sets as lists -/
theorem isV_dyL {x : Nat} (hx : x < 64) : isV (dy x) (dyL x) := by
  by_cases h0 : x = 0
  · subst h0; exact .inl ⟨rfl, rfl⟩
  · refine .inr ?_
    unfold dy
    rw [if_neg h0]
    simp [ints, dyL]
theorem dyL_len {x : Nat} (hx : x < 64) : (dyL x).length = pc x := by
  have : ∀ x, x < 64 → (dyL x).length = pc x := by decide +kernel
  exact this x hx
theorem pc_le {x : Nat} : pc x ≤ 6 := Nat.le_trans (List.length_filter_le _ _) (by simp)
/-- one set is inside another -/
def subB (a b : Nat) : Bool := Nat.beq (Nat.land a b) a
theorem subB_all : ((List.range 64).all fun a => (List.range 64).all fun b => (dyL a).all (dyL b).contains == subB a b) = true := by decide +kernel
theorem dyL_sub {a b : Nat} (ha : a < 64) (hb : b < 64) : (dyL a).all (dyL b).contains = subB a b :=
  eq_of_beq (List.all_eq_true.1 (List.all_eq_true.1 subB_all a (List.mem_range.2 ha)) b (List.mem_range.2 hb))
theorem k92s {a b : Nat} (ha : a < 64) (hb : b < 64) (h : Q (.bool (subB a b)) H) : WpCall E pure base bar 92 [dy a, dy b] H Q := by
  refine k92 (isV_dyL ha) (isV_dyL hb) ?_ ?_ ?_
  · rw [dyL_len ha]; have := pc_le (x := a); omega
  · rw [dyL_len hb]; have := pc_le (x := b); omega
  · rw [dyL_sub ha hb]; exact h
theorem dy_len {x : Nat} (hx : x < 64) : lenWp (some (dy x)) H K = K (.int .i64 (pc x : Nat)) H [] := by
  rw [(isV_dyL hx).len, dyL_len hx]
theorem dy_plain {x : Nat} : Plain (dy x) := by
  unfold dy; split
  · exact Plain.nils
  · exact Plain.lst
theorem dy_isTup {x : Nat} : (dy x).isTup = false := by unfold dy; split <;> rfl
theorem dy_cells {x : Nat} : (dy x).cells = [dy x] := by unfold dy; split <;> rfl
theorem dy_noVec {x : Nat} : (dy x).noVec = true := by unfold dy; split <;> rfl
theorem dy_top {x : Nat} : (dy x).top = 0 := by
  unfold dy; split
  · rfl
  · exact tops_zero fun y hy => by
      obtain ⟨z, _, rfl⟩ := List.mem_map.1 hy
      rfl
theorem dy_fp {x : Nat} : aload H ⟨false, 1⟩ (.fp (dy x)) = some (dy x) := by unfold dy; split <;> rfl
theorem dy_frz {x d : Nat} : frz (d + 1) bar H (dy x) = some (dy x, H) := by unfold dy; split <;> rfl
/-- trays as lists -/
def dys (S : List Nat) : List AV := S.map dy
theorem dys_plain {S : List Nat} : ∀ c ∈ dys S, Plain c := fun c hc => by
  obtain ⟨x, _, rfl⟩ := List.mem_map.1 hc
  exact dy_plain
theorem dys_tops {S : List Nat} : AV.top.tops (dys S) = 0 := tops_zero fun c hc => by
  obtain ⟨x, _, rfl⟩ := List.mem_map.1 hc
  exact dy_top
theorem dys_length {S : List Nat} : (dys S).length = S.length := by simp [dys]
theorem dys_append {S T : List Nat} : dys (S ++ T) = dys S ++ dys T := by simp [dys]
theorem dys_get {S : List Nat} {i : Nat} (hi : i < S.length) : (dys S)[i]? = some (dy S[i]) := by simp [dys, List.getElem?_eq_getElem hi]
/-- a value is a list of trays -/
def isS (v : AV) (S : List Nat) : Prop := (v = .nils ∧ S = []) ∨ ∃ ex, v = .lst 1 ex (dys S)
theorem isS.len {v : AV} {S : List Nat} (h : isS v S) : lenWp (some v) H K = K (.int .i64 (S.length : Int)) H [] := by
  rcases h with ⟨rfl, rfl⟩ | ⟨ex, rfl⟩
  · rfl
  · rw [lenWp_lst, dys_length]
theorem isS.frz {v : AV} {S : List Nat} (h : isS v S) {d : Nat} : frz (d + 1) bar H v = some (v, H) := by
  rcases h with ⟨rfl, rfl⟩ | ⟨ex, rfl⟩ <;> rfl
theorem isS.isTup {v : AV} {S : List Nat} (h : isS v S) : v.isTup = false := by
  rcases h with ⟨rfl, rfl⟩ | ⟨ex, rfl⟩ <;> rfl
theorem isS.cells {v : AV} {S : List Nat} (h : isS v S) : v.cells = [v] := by
  rcases h with ⟨rfl, rfl⟩ | ⟨ex, rfl⟩ <;> rfl
theorem isS.noVec {v : AV} {S : List Nat} (h : isS v S) : v.noVec = true := by
  rcases h with ⟨rfl, rfl⟩ | ⟨ex, rfl⟩ <;> rfl
theorem isS.top {v : AV} {S : List Nat} (h : isS v S) : v.top = 0 := by
  rcases h with ⟨rfl, rfl⟩ | ⟨ex, rfl⟩
  · rfl
  · exact dys_tops
theorem isS.ix {v : AV} {S : List Nat} (h : isS v S) {k : IntKind} {i : Nat} (hi : i < S.length) : ixaSWp 1 (some v) (some (.int k (i : Int))) H K = K (.fp (dy S[i])) H [] := by
  rcases h with ⟨rfl, rfl⟩ | ⟨ex, rfl⟩
  · simp at hi
  · rw [ixaSWp_lst]
    simp only [Int.toNat_natCast]
    rw [dys_get hi]
    simp [valWp_some]
theorem outL_dys {S : List Nat} : outL 1 (dys S) = if S = [] then .nils else .lst 1 false (dys S) := by
  unfold outL
  by_cases h : S = []
  · subst h; rfl
  · rw [if_neg (by simpa [dys] using h), if_neg h, Nat.div_one, chunks_one]
theorem isS.out {S : List Nat} : isS (outL 1 (dys S)) S := by
  rw [outL_dys]
  split
  · rename_i h; exact .inl ⟨rfl, h⟩
  · exact .inr ⟨_, rfl⟩
theorem gdys {H : Heap} {base bar bytes : Nat} {S : List Nat} {H0 : Heap} {v : AV} {ex : Bool} {x : Nat} {K : AV → Heap → List Nat → Prop} (g : Grow 1 (dys S) H0 v H) (hb : bar ≤ H0.length) (hbase : base ≤ H0.length)
    (hlen : (S.length + 1) * bytes ≤ 140737488355328)
    (h : ∀ v' H' tc, Grow 1 (dys (S ++ [x])) H0 v' H' → K v' H' tc) : appWp base bar 1 bytes (some v) (some (.lst 1 ex [dy x])) H K := by
  refine g.app (by omega) (Nat.one_dvd _) (fun c hc => ?_) (Nat.one_dvd _) hb hbase ?_ fun v' H' tc g' => h v' H' tc ?_
  · simp [dy_cells] at hc; subst hc; exact dy_plain
  · simpa [dys_length, dy_cells] using hlen
  · simpa [dys_append, dys, dy_cells] using g'
theorem goutD {H : Heap} {base bar : Nat} {S : List Nat} {H0 : Heap} {v : AV} {K : AV → Heap → Prop} (g : Grow 1 (dys S) H0 v H) (hb : bar ≤ H0.length) (hbase : base ≤ H0.length)
    (h : K (outL 1 (dys S)) (H0.take base)) : outWp (leave 0 base bar [v] H) K := by
  obtain ⟨H', h1, h2, h3, h4⟩ := g.frz (d := 5) (bar := bar) (by omega) (Nat.one_dvd _) dys_plain hb
  have e : leave 0 base bar [v] H = some (outL 1 (dys S), H0.take base) := by
    rw [leave_0]
    simp only [frzAll, frz.frzs, frzsW, h1, leave0_some, tupled_one]
    rw [if_pos]
    · rw [show H'.take base = (H'.take H0.length).take base by rw [List.take_take, Nat.min_eq_left hbase], h4]
    · rw [outL_dys]; split <;> simp [tops_cons, tops_nil, top_nils, top_lst, dys_tops]
  rw [e]; exact h
end Go.Proofs.YtbkhffakhggdaaaDoor.Code
end

section
namespace Go.Proofs.YtbkhffakhggdaaaDoor.Code
open Go Go.Ab
variable {pure : Bool} {base bar : Nat} {H : Heap} {Q : AV → Heap → Prop} {K : AV → Heap → List Nat → Prop}

/-! 71: all trays near to those of a shelf -/
def relB (m : Int) (u t : Nat) : Bool := decide ((pc u : Int) = (pc t : Int) + m) && (subB u t || subB t u)
def nearS (n : Nat) (S : List Nat) (m : Int) : List Nat := (allS n).filter fun u => S.any (relB m u)
theorem allS_lt {n : Nat} (h1 : 1 ≤ n) (h6 : n ≤ 6) : ∀ u ∈ allS n, u < 64 := by
  have : ∀ n, n ≤ 6 → ∀ u ∈ allS n, u < 64 := by decide +kernel
  exact this n h6
theorem allS_len {n : Nat} (h6 : n ≤ 6) : (allS n).length ≤ 64 := by
  have : ∀ n, n ≤ 6 → (allS n).length ≤ 64 := by decide +kernel
  exact this n h6
theorem isS_al {n : Nat} : isS (al n) (allS n) := .inr ⟨_, rfl⟩
theorem wrap_pc {t : Nat} {m : Int} (hm : m = 1 ∨ m = -1) : IntKind.i64.wrap ((pc t : Int) + m) = (pc t : Int) + m := by
  have := pc_le (x := t)
  exact Go.IntWalk.i64_in _ (by omega)
theorem l71_0 {id ver fz : Nat} {ex : Bool} {n i u : Nat} {m : Int} {q v5 v6 : AV} {S : List Nat} (hm : m = 1 ∨ m = -1) (hq : isS q S) (hS : ∀ t ∈ S, t < 64) (hl : S.length < 1000) (hu : u < 64) (hid : H[id]? = some (.row ver [.int .i64 (n : Int), q] fz ex))
    (h6 : ∀ (k : IntKind) (K : AV → Heap → List Nat → Prop), ixaSWp 1 (some v6) (some (.int k (i : Int))) H K = K (.fp (dy u)) H []) {R : PQ} : ∀ (k j : Nat) (is : Bool), j + k = S.length →
    R (.exit 2) [(1, .int .i64 m), (2, .ptr id ver 0), (5, v5), (6, v6), (7, .int .i64 (i : Nat)), (8, .bool (is || (S.drop j).any (relB m u))), (9, .int .i64 (S.length : Nat)), (24, .bool false)] H →
    Wp E base bar (.loop c71_l0) [(1, .int .i64 m), (2, .ptr id ver 0), (5, v5), (6, v6), (7, .int .i64 (i : Nat)), (8, .bool is), (9, .int .i64 (j : Nat))] H R := by
  have ld : aload H ⟨false, 1⟩ (.ptr id ver 1) = some q := by rw [aload_ptr hid]; rfl
  intro k
  induction k with
  | zero =>
    intro j is hj h
    obtain rfl : j = S.length := by omega
    rw [List.drop_length] at h
    simp only [List.any_nil, Bool.or_false] at h
    rw [wp_round c71_l0.eq_1]
    simp [go_sem, ld, hq.len]
    exact h
  | succ k ih =>
    intro j is hj h
    have hlt : j < S.length := by omega
    rw [List.drop_eq_getElem_cons hlt, List.any_cons, ← Bool.or_assoc] at h
    have ht := hS _ (List.getElem_mem hlt)
    have hix := fun (K : AV → Heap → List Nat → Prop) (k : IntKind) => hq.ix (H := H) (K := K) (k := k) hlt
    generalize S[j] = t at *
    have hs := i64_suc (show j < 1000000 by omega)
    have next := ih (j + 1) _ (by omega) h
    rw [wp_round c71_l0.eq_1]
    cases is
    · simp only [Bool.false_or, relB] at next
      have hw := wrap_pc (t := t) hm
      by_cases hp : (pc u : Int) = (pc t : Int) + m
      · simp [hp] at next
        simp [go_sem, ld, hq.len, hlt, hix, h6, dy_fp, dy_len hu, dy_len ht, hw, hp]
        refine k92s hu ht ?_
        cases h1 : subB u t
        · rw [h1] at next
          simp only [Bool.false_or] at next
          simp [go_sem]
          simp [go_sem, hix, h6, dy_fp]
          refine k92s ht hu ?_
          simp [go_sem, hs]
          exact next
        · rw [h1] at next
          simp only [Bool.true_or] at next
          simp [go_sem, hs]
          exact next
      · simp [hp] at next
        simp [go_sem, ld, hq.len, hlt, hix, h6, dy_fp, dy_len hu, dy_len ht, hw, hp, hs]
        exact next
    · simp only [Bool.true_or] at next
      simp [go_sem, ld, hq.len, hlt, hix, dy_fp, hs]
      exact next
theorem l71_1 {id ver fz : Nat} {ex : Bool} {n : Nat} {m : Int} {q : AV} {S : List Nat} {H0 : Heap} (h1 : 1 ≤ n) (hn : n ≤ 6) (hm : m = 1 ∨ m = -1) (hq : isS q S) (hS : ∀ t ∈ S, t < 64) (hl : S.length < 1000) (hid : H0[id]? = some (.row ver [.int .i64 (n : Int), q] fz ex))
    (hb : bar ≤ H0.length) (hbase : base ≤ H0.length) {R : PQ} : ∀ (k i : Nat) (acc : List Nat) (v5 : AV) (H : Heap), i + k = (allS n).length → acc.length ≤ i → Grow 1 (dys acc) H0 v5 H →
    (∀ v' H', Grow 1 (dys (acc ++ ((allS n).drop i).filter fun u => S.any (relB m u))) H0 v' H' → R (.exit 0) [(1, .int .i64 m), (2, .ptr id ver 0), (5, v'), (6, al n), (7, .int .i64 ((allS n).length : Nat)), (17, .bool false)] H') →
    Wp E base bar (.loop c71_l1) [(1, .int .i64 m), (2, .ptr id ver 0), (5, v5), (6, al n), (7, .int .i64 (i : Nat))] H R := by
  have hA := allS_lt h1 hn
  have hAl := allS_len hn
  have hal := isS_al (n := n)
  generalize al n = a6 at *
  generalize allS n = A at *
  intro k
  induction k with
  | zero =>
    intro i acc v5 H hi hacc g h
    obtain rfl : i = A.length := by omega
    rw [List.drop_length] at h
    simp only [List.filter_nil, List.append_nil] at h
    rw [wp_round c71_l1.eq_1]
    simp [go_sem, hal.len]
    exact h _ _ g
  | succ k ih =>
    intro i acc v5 H hi hacc g h
    have hlt : i < A.length := by omega
    rw [List.drop_eq_getElem_cons hlt, List.filter_cons] at h
    have hu := hA _ (List.getElem_mem hlt)
    have hix := fun (k : IntKind) (K : AV → Heap → List Nat → Prop) => hal.ix (H := H) (K := K) (k := k) hlt
    have hs := i64_suc (show i < 1000000 by omega)
    generalize A[i] = u at *
    have ld : aload H ⟨false, 1⟩ (.ptr id ver 1) = some q := by rw [aload_ptr (g.get hid)]; rfl
    rw [wp_round c71_l1.eq_1]
    simp [go_sem, hal.len, hlt]
    refine l71_0 hm hq hS hl hu (g.get hid) hix S.length 0 false (by omega) ?_
    rw [List.drop_zero]
    cases hc : S.any (relB m u)
    · rw [hc] at h
      simp only [Bool.false_eq_true, if_false] at h
      have next := ih (i + 1) acc v5 H (by omega) (by omega) g h
      simp [go_sem, hs]
      exact next
    · rw [hc] at h
      simp only [if_true] at h
      simp [go_sem, hix, dy_fp, dy_isTup, dy_cells, dy_frz, aop, fillA, setCells, chunks, AV.noVec.noVecs, dy_noVec]
      rw [wpop_app]
      simp [Opd.ev, go_sem]
      refine gdys g hb hbase (by omega) fun v' H' tc g' => ?_
      have next := ih (i + 1) (acc ++ [u]) v' H' (by omega) (by simp; omega) g' (by rw [List.append_assoc]; exact h)
      simp [go_sem, hs]
      exact next
theorem k71 {n : Nat} {m : Int} {q : AV} {S : List Nat} (h1 : 1 ≤ n) (hn : n ≤ 6) (hm : m = 1 ∨ m = -1) (hq : isS q S) (hS : ∀ t ∈ S, t < 64) (hl : S.length < 1000) (hbar : bar ≤ H.length)
    (h : Q (outL 1 (dys (nearS n S m))) H) : WpCall E pure base bar 71 [.agg [.int .i64 (n : Int), q], .int .i64 m] H Q := by
  rw [call71]
  simp [go_sem, WpFun, c71, hq.frz, box0]
  refine (call85 h1 hn).2 ?_
  simp [go_sem]
  refine l71_1 (H0 := H ++ [.row 0 [.int .i64 (n : Int), q] 0 true]) h1 hn hm hq hS hl (own_get0 (l := [.row 0 [.int .i64 (n : Int), q] 0 true]) |>.trans rfl) (by cases pure <;> simp <;> omega) (by simp) (allS n).length 0 [] .nils _ (by omega) (by simp) (by exact Grow.nil) fun v' H' g => ?_
  rw [List.drop_zero, List.nil_append] at g
  simp [go_sem]
  refine goutD g (by cases pure <;> simp <;> omega) (by simp) ?_
  simp
  exact h
end Go.Proofs.YtbkhffakhggdaaaDoor.Code
end

section
namespace Go.Proofs.YtbkhffakhggdaaaDoor.Code
open Go Go.Ab
variable {pure : Bool} {base bar : Nat} {H : Heap} {Q : AV → Heap → Prop} {K : AV → Heap → List Nat → Prop}

/-! 109, 86: smaller, same -/
def smL : List Int → List Int → Bool
  | [], m => decide (0 < m.length)
  | _ :: _, [] => false
  | x :: r, y :: s => if x = y then smL r s else decide (x < y)
theorem smL_irr : ∀ {l : List Int}, smL l l = false
  | [] => rfl
  | x :: r => by simp [smL, smL_irr (l := r)]
theorem smL_eq : ∀ {l m : List Int}, smL l m = false → smL m l = false → l = m
  | [], [], _, _ => rfl
  | [], _ :: _, h, _ => by simp [smL] at h
  | _ :: _, [], _, h => by simp [smL] at h
  | x :: r, y :: s, h, h' => by
    by_cases hx : x = y
    · subst hx
      simp only [smL, if_true] at h h'
      rw [smL_eq h h']
    · simp only [smL, if_neg hx, if_neg (fun e : y = x => hx e.symm), decide_eq_false_iff_not] at h h'
      omega
theorem smL_same {l m : List Int} : (!smL l m && !smL m l) = decide (l = m) := by
  by_cases h : l = m
  · subst h; simp [smL_irr]
  · have : ¬ (smL l m = false ∧ smL m l = false) := fun ⟨a, b⟩ => h (smL_eq a b)
    cases h1 : smL l m <;> cases h2 : smL m l <;> simp_all
theorem smL_len : ∀ {l m : List Int}, l = [] ∨ m = [] → smL l m = decide (l.length < m.length)
  | [], m, _ => rfl
  | x :: r, [], _ => by simp [smL]
  | x :: r, y :: s, h => by simp at h
theorem l109 {v w : AV} {l m : List Int} (hv : isV v l) (hw : isV w m) (hl : l.length < 1000) (hm : m.length < 1000) {R : PQ} : ∀ (k i : Nat), i + k = l.length → i ≤ m.length →
    (∀ j : Nat, smL (l.drop i) (m.drop i) = decide (l.length < m.length) → R (.exit 0) [(0, v), (1, w), (5, .int .i64 (j : Nat)), (15, .bool false)] H) →
    (R .ret [(4, .bool (smL (l.drop i) (m.drop i)))] H) →
    Wp E base bar (.loop c109_l0) [(0, v), (1, w), (5, .int .i64 (i : Nat))] H R := by
  intro k
  induction k with
  | zero =>
    intro i hi him h1 h2
    obtain rfl : i = l.length := by omega
    have := h1 l.length (by
      rw [List.drop_length, smL_len (.inl rfl), List.length_drop]
      by_cases h : l.length < m.length <;> simp [h] <;> omega)
    rw [wp_round c109_l0.eq_1]
    simp [go_sem, hv.len]
    exact this
  | succ k ih =>
    intro i hi him h1 h2
    have hlt : i < l.length := by omega
    by_cases hlm : i < m.length
    · rw [List.drop_eq_getElem_cons hlt, List.drop_eq_getElem_cons hlm] at h1 h2
      have hix := fun (K : AV → Heap → List Nat → Prop) (k : IntKind) => hv.ix (H := H) (K := K) (k := k) hlt
      have hiy := fun (K : AV → Heap → List Nat → Prop) (k : IntKind) => hw.ix (H := H) (K := K) (k := k) hlm
      generalize l[i] = x at *
      generalize m[i] = y at *
      have hs := i64_suc (show i < 1000000 by omega)
      rw [wp_round c109_l0.eq_1]
      by_cases hxy : x = y
      · subst hxy
        simp only [smL, if_true] at h1 h2
        have next := ih (i + 1) (by omega) (by omega) h1 h2
        simp [go_sem, hv.len, hw.len, hlt, hlm, hix, hiy, hs]
        exact next
      · simp only [smL, if_neg hxy] at h2
        simp [go_sem, hv.len, hw.len, hlt, hlm, hix, hiy, hxy]
        exact h2
    · obtain rfl : i = m.length := by omega
      have := h1 m.length (by
        rw [smL_len (.inr List.drop_length), List.length_drop, List.length_drop]
        by_cases h : l.length < m.length <;> simp [h] <;> omega)
      rw [wp_round c109_l0.eq_1]
      simp [go_sem, hv.len, hw.len, hlt]
      exact this
theorem k109 {v w : AV} {l m : List Int} (hv : isV v l) (hw : isV w m) (hl : l.length < 1000) (hm : m.length < 1000) (h : Q (.bool (smL l m)) H) : WpCall E pure base bar 109 [v, w] H Q := by
  rw [call109]
  simp [go_sem, WpFun, c109, hv.frz, hw.frz]
  refine l109 hv hw hl hm l.length 0 (by omega) (by omega) (fun j he => ?_) ?_
  · rw [List.drop_zero, List.drop_zero] at he
    rw [he] at h
    simp [go_sem, hv.len, hw.len]
    exact h
  · rw [List.drop_zero, List.drop_zero]
    simp [go_sem]
    exact h
theorem k86 {v w : AV} {l m : List Int} (hv : isV v l) (hw : isV w m) (hl : l.length < 1000) (hm : m.length < 1000) (h : Q (.bool (decide (l = m))) H) : WpCall E pure base bar 86 [v, w] H Q := by
  rw [← smL_same] at h
  rw [call86]
  simp [go_sem, WpFun, c86, hv.frz, hw.frz]
  refine k109 hv hw hl hm ?_
  cases h1 : smL l m
  · rw [h1] at h
    simp [go_sem]
    refine k109 hw hv hm hl ?_
    simp [go_sem]
    simpa using h
  · rw [h1] at h
    simp [go_sem]
    simpa using h

/-! 29: two lists are the same, for the law -/
theorem l29 {v w : AV} {l m : List Int} (hv : isV v l) (hw : isV w m) (hl : l.length < 1000) (he : l.length = m.length) {R : PQ} : ∀ (k i : Nat), i + k = l.length →
    (l.drop i = m.drop i → R (.exit 0) [(0, v), (1, w), (5, .int .i64 (l.length : Nat)), (14, .bool false)] H) →
    (l.drop i ≠ m.drop i → R .ret [(4, .bool false)] H) →
    Wp E base bar (.loop c29_l0) [(0, v), (1, w), (5, .int .i64 (i : Nat))] H R := by
  intro k
  induction k with
  | zero =>
    intro i hi h1 h2
    obtain rfl : i = l.length := by omega
    have := h1 (by rw [List.drop_length, he, List.drop_length])
    rw [wp_round c29_l0.eq_1]
    simp [go_sem, hv.len]
    exact this
  | succ k ih =>
    intro i hi h1 h2
    have hlt : i < l.length := by omega
    have hlm : i < m.length := by omega
    rw [List.drop_eq_getElem_cons hlt, List.drop_eq_getElem_cons hlm] at h1 h2
    have hix := fun (K : AV → Heap → List Nat → Prop) (k : IntKind) => hv.ix (H := H) (K := K) (k := k) hlt
    have hiy := fun (K : AV → Heap → List Nat → Prop) (k : IntKind) => hw.ix (H := H) (K := K) (k := k) hlm
    generalize l[i] = x at *
    generalize m[i] = y at *
    have hs := i64_suc (show i < 1000000 by omega)
    rw [wp_round c29_l0.eq_1]
    by_cases hxy : x = y
    · subst hxy
      have next := ih (i + 1) (by omega) (fun h => h1 (by rw [h])) (fun h => h2 (by simpa using h))
      simp [go_sem, hv.len, hlt, hix, hiy, hs]
      exact next
    · have := h2 (by simp [hxy])
      simp [go_sem, hv.len, hlt, hix, hiy, hxy]
      exact this
theorem k29 {v w : AV} {l m : List Int} (hv : isV v l) (hw : isV w m) (hl : l.length < 1000) (h : Q (.bool (decide (l = m))) H) : WpCall E pure base bar 29 [v, w] H Q := by
  rw [call29]
  by_cases he : l.length = m.length
  · simp [go_sem, WpFun, c29, hv.frz, hw.frz, hv.len, hw.len, he]
    refine l29 hv hw hl he l.length 0 (by omega) (fun hc => ?_) (fun hc => ?_)
    · rw [List.drop_zero, List.drop_zero] at hc
      rw [decide_eq_true hc] at h
      simp [go_sem]
      exact h
    · rw [List.drop_zero, List.drop_zero] at hc
      rw [decide_eq_false hc] at h
      simp [go_sem]
      exact h
  · have hne : l ≠ m := fun h => he (by rw [h])
    rw [decide_eq_false hne] at h
    have he' : ¬ ((l.length : Int) = (m.length : Int)) := by omega
    simp [go_sem, WpFun, c29, hv.frz, hw.frz, hv.len, hw.len, he']
    exact h
theorem dyL_inj {a b : Nat} (ha : a < 64) (hb : b < 64) (h : dyL a = dyL b) : a = b := by
  have key : ((List.range 64).all fun a => Nat.beq (orT 0 (dyL a)) a) = true := by decide +kernel
  have e1 := Nat.eq_of_beq_eq_true (List.all_eq_true.1 key a (List.mem_range.2 ha))
  have e2 := Nat.eq_of_beq_eq_true (List.all_eq_true.1 key b (List.mem_range.2 hb))
  rw [← e1, ← e2, h]
theorem dyL_lt {x : Nat} (hx : x < 64) : (dyL x).length < 1000 := by rw [dyL_len hx]; have := pc_le (x := x); omega
theorem k29s {a b : Nat} (ha : a < 64) (hb : b < 64) (h : Q (.bool (decide (a = b))) H) : WpCall E pure base bar 29 [dy a, dy b] H Q := by
  refine k29 (isV_dyL ha) (isV_dyL hb) (dyL_lt ha) ?_
  rw [show decide (dyL a = dyL b) = decide (a = b) by
    by_cases e : a = b
    · subst e; simp
    · rw [decide_eq_false e, decide_eq_false fun h => e (dyL_inj ha hb h)]]
  exact h
theorem k86s {a b : Nat} {v w : AV} (hv : isV v (dyL a)) (hw : isV w (dyL b)) (ha : a < 64) (hb : b < 64) (h : Q (.bool (decide (a = b))) H) : WpCall E pure base bar 86 [v, w] H Q := by
  refine k86 hv hw (dyL_lt ha) (dyL_lt hb) ?_
  rw [show decide (dyL a = dyL b) = decide (a = b) by
    by_cases e : a = b
    · subst e; simp
    · rw [decide_eq_false e, decide_eq_false fun h => e (dyL_inj ha hb h)]]
  exact h
end Go.Proofs.YtbkhffakhggdaaaDoor.Code
end

section
namespace Go.Proofs.YtbkhffakhggdaaaDoor.Code
open Go Go.Ab Go.RowKit Go.ChangeShapes Go.WideShapes

/-- a list of numbers as an argument -/
theorem vints_vr {H : Type} {enc : TypeId × Value → H} {P : Program} {W : World} {spare : Nat → Bool} {held : Bool} {t e : TypeId} {v : Value} {d : DataW H} {ps : List MemPlace} {r : Reach} {b0 : Nat}
    (ht : P.underlying t = some (.slice e)) (he : P.underlying e = some (.int .i64)) (ce : P.cellsOf e = 1)
    (hval : Value.okWide P W r b0 t v) (hd : DataW.Trod enc P W 0 spare held t v d ps) :
    ∃ q l, VR (ctx0 W) q v ∧ isV q l := by
  have hok : Cell.okWide P W r b0 t v := by
    unfold Value.okWide at hval
    rw [ht] at hval
    exact hval
  have hcell : v.cells.toList = [v] := by
    cases v with
    | agg cs =>
      unfold Cell.okWide at hok
      rw [ht] at hok
      simp only at hok
      unfold Cell.ok at hok
      rw [ht] at hok
      exact hok.elim
    | _ => rfl
  obtain ⟨fuel, hd⟩ := hd
  rw [hcell] at hd
  have hf : flatT P 1 e = true := by unfold flatT; rw [he]
  obtain ⟨q, q1, q2, q3⟩ := slice_vr (n := 1) ht hf hd hok
  rcases q3 with rfl | ⟨xs, rfl, hxs⟩
  · exact ⟨_, [], q1, .inl ⟨rfl, rfl⟩⟩
  · have each : ∀ x ∈ xs, ∃ z, x = .int .i64 z := fun x hx => by
      obtain ⟨ys, rfl, hs⟩ := hxs x hx
      unfold Sh at hs
      rw [he] at hs
      obtain ⟨z, rfl, _⟩ := hs
      exact ⟨z, by unfold wrapA; rw [he]; rfl⟩
    have all : ∀ {xs : List AV}, (∀ x ∈ xs, ∃ z, x = .int .i64 z) → ∃ l, xs = ints l := by
      intro xs
      induction xs with
      | nil => exact fun _ => ⟨[], rfl⟩
      | cons x r ih =>
        intro h
        obtain ⟨z, rfl⟩ := h x (List.mem_cons_self ..)
        obtain ⟨l, rfl⟩ := ih fun y hy => h y (List.mem_cons_of_mem _ hy)
        exact ⟨z :: l, rfl⟩
    obtain ⟨l, rfl⟩ := all each
    rw [ce] at q1
    exact ⟨_, l, q1, .inr rfl⟩
end Go.Proofs.YtbkhffakhggdaaaDoor.Code
end

