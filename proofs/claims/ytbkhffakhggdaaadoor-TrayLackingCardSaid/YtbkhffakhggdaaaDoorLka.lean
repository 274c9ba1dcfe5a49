/-
  Parts of the proofs about this chapter, joined: contracts of functions and plain laws.
-/
import Derived.Test.YtbkhffakhggdaaaDoorCall
import Derived.Test.YtbkhffakhggdaaaDoorKit
import Derived.KernelRfl
import Derived.IntWalk
set_option linter.all false
section
set_option linter.all false
namespace Go.Ab
theorem u8_wf {z : Int} (h : (Lit.int .u8 z).wf = true) : ∃ a : Nat, z = a ∧ a < 256 := by
  simp only [Lit.wf, Bool.and_eq_true, decide_eq_true_eq] at h
  have m0 : IntKind.u8.min = 0 := by decide
  have m1 : IntKind.u8.max = 255 := by decide
  exact ⟨z.toNat, by omega, by omega⟩
end Go.Ab
namespace Go.Proofs.YtbkhffakhggdaaaDoor.Code
open Go Go.Ab
theorem i64_suc {i : Nat} (h : i < 1000000) : IntKind.i64.wrap ((i : Int) + 1) = ((i + 1 : Nat) : Int) := by
  rw [show (i : Int) + 1 = ((i + 1 : Nat) : Int) by omega, i64_nat (by omega)]
theorem natEq {a b : Nat} : ((a : Int) = (b : Int)) ↔ a = b := by omega
theorem shl_i64 {n : Nat} (hn : n < 62) : abin .shl (.int .i64 1) (.int .i64 (n : Int)) = some (.int .i64 ((pw n : Nat) : Int)) := by
  have h2 : (2 : Nat) ^ n < 9223372036854775808 := Nat.lt_of_lt_of_le (Nat.pow_lt_pow_right (by decide) hn) (by decide)
  simp only [abin]
  rw [if_neg (by omega), Int.toNat_natCast, show min n IntKind.i64.bits = n from Nat.min_eq_left (by simp [IntKind.bits]; omega)]
  rw [show (1 : Int) * 2 ^ n = ((2 ^ n : Nat) : Int) by simp, i64_nat h2]; rfl
theorem pw_pos {n : Nat} : 0 < pw n := Nat.two_pow_pos n
/-- a number by its rest -/
structure Rest (a k m : Nat) : Prop where
  tmod : (a : Int).tmod (k : Int) = (m : Int)
  ne : (k : Int) ≠ 0
theorem rest_mod {a k : Nat} (h : 0 < k) : Rest a k (a % k) := ⟨by rw [Go.IntWalk.rem_in _ _ (by omega)]; simp, by omega⟩
end Go.Proofs.YtbkhffakhggdaaaDoor.Code
end
section
set_option linter.all false
section
namespace Go.Proofs.YtbkhffakhggdaaaDoor.Code
open Go Go.Ab
variable {pure : Bool} {base bar : Nat} {H : Heap} {Q : AV → Heap → Prop} {K : AV → Heap → List Nat → Prop}
/-! lists of numbers with a sign -/
def ints (l : List Int) : List AV := l.map (.int .i64)
def isV (v : AV) (l : List Int) : Prop := (v = .nils ∧ l = []) ∨ v = .lst 1 false (ints l)
theorem isV.len {v : AV} {l : List Int} (h : isV v l) : lenWp (some v) H K = K (.int .i64 (l.length : Int)) H [] := by
  rcases h with ⟨rfl, rfl⟩ | rfl
  · rfl
  · rw [lenWp_lst]; simp [ints]
theorem isV.frz {v : AV} {l : List Int} (h : isV v l) {d : Nat} : Go.Ab.frz (d + 1) bar H v = some (v, H) := by
  rcases h with ⟨rfl, rfl⟩ | rfl <;> rfl
theorem isV.top {v : AV} {l : List Int} (h : isV v l) : v.top = 0 := by
  rcases h with ⟨rfl, rfl⟩ | rfl
  · rfl
  · exact tops_zero fun x hx => by
      obtain ⟨z, _, rfl⟩ := List.mem_map.1 hx
      rfl
theorem isV.isTup {v : AV} {l : List Int} (h : isV v l) : v.isTup = false := by
  rcases h with ⟨rfl, rfl⟩ | rfl <;> rfl
theorem isV.cells {v : AV} {l : List Int} (h : isV v l) : v.cells = [v] := by
  rcases h with ⟨rfl, rfl⟩ | rfl <;> rfl
theorem isV.noVec {v : AV} {l : List Int} (h : isV v l) : v.noVec = true := by
  rcases h with ⟨rfl, rfl⟩ | rfl <;> rfl
theorem isV.ix {v : AV} {l : List Int} (h : isV v l) {k : IntKind} {i : Nat} (hi : i < l.length) : ixaSWp 1 (some v) (some (.int k (i : Int))) H K = K (.fp (.int .i64 l[i])) H [] := by
  rcases h with ⟨rfl, rfl⟩ | rfl
  · simp at hi
  · rw [ixaSWp_lst]
    simp only [Int.toNat_natCast]
    rw [show (ints l)[i]? = some (.int .i64 l[i]) by simp [ints, List.getElem?_eq_getElem hi]]
    simp [valWp_some]
/-! trays: the first error of a list, and its set -/
def errT (n : Int) : Int → List Int → Int
  | _, [] => 0
  | last, x :: r => if x < 0 ∨ n ≤ x then 2 else if x ≤ last then 7 else errT n x r
def orT : Nat → List Int → Nat
  | s, [] => s
  | s, x :: r => orT (bor s (pw x.toNat)) r
def subsF : Nat → Nat → List (List Int)
  | 0, _ => [[]]
  | k + 1, f => subsF k (f + 1) ++ (subsF k (f + 1)).map (((f : Nat) : Int) :: ·)
/-- the dyes of a set -/
def dyL (x : Nat) : List Int := ((List.range 6).filter fun i => x.testBit i).map fun (i : Nat) => (i : Int)
theorem subsF_of {n : Nat} : ∀ {k f : Nat} {l : List Int} {last : Int}, f + k = n → last + 1 = (f : Int) → errT n last l = 0 → l ∈ subsF k f
  | 0, f, [], _, _, _, _ => by simp [subsF]
  | k + 1, f, [], _, _, _, _ => by
    have := subsF_of (k := k) (f := f + 1) (l := []) (n := f + 1 + k) (last := f) rfl (by omega) rfl
    exact List.mem_append_left _ this
  | 0, f, x :: r, last, hn, hl, h => by
    unfold errT at h
    split at h
    · cases h
    · split at h
      · cases h
      · omega
  | k + 1, f, x :: r, last, hn, hl, h => by
    have h' := h
    unfold errT at h
    split at h
    · cases h
    · split at h
      · cases h
      · by_cases hx : x = (f : Int)
        · subst hx
          exact List.mem_append_right _ (List.mem_map.2 ⟨r, subsF_of (k := k) (f := f + 1) (by omega) (by omega) h, rfl⟩)
        · refine List.mem_append_left _ (subsF_of (k := k) (f := f + 1) (last := f) (n := n) (by omega) (by omega) ?_)
          unfold errT
          rw [if_neg (by assumption), if_neg (by omega)]
          exact h
theorem dyL_some : ((List.range' 1 6).all fun n => (subsF n 0).all fun l => (List.range (2 ^ n)).any fun x => (l == dyL x) && Nat.beq (orT 0 l) x) = true := by decide +kernel
theorem dyL_of {n : Nat} {l : List Int} (h1 : 1 ≤ n) (h6 : n ≤ 6) (h : errT n (-1) l = 0) : orT 0 l < pw n ∧ l = dyL (orT 0 l) := by
  have hm := subsF_of (n := n) (k := n) (f := 0) (by omega) (by decide) h
  have := List.all_eq_true.1 (List.all_eq_true.1 dyL_some n (List.mem_range'_1.2 ⟨h1, by omega⟩)) l hm
  obtain ⟨x, hx, hb⟩ := List.any_eq_true.1 this
  rw [Bool.and_eq_true] at hb
  obtain ⟨e1, e2⟩ := hb
  have e2 := Nat.eq_of_beq_eq_true e2
  have e1 := eq_of_beq e1
  rw [e2]
  exact ⟨List.mem_range.1 hx, e1⟩
theorem u64n {a : Nat} (h : a < 9223372036854775808) : IntKind.u64.wrap (a : Int) = a := Go.IntWalk.u64_in _ (by omega)
theorem or_u64 {a b : Nat} (ha : a < 64) (hb : b < 64) : abin .or (.int .u64 a) (.int .u64 b) = some (.int .u64 ((bor a b : Nat) : Int)) := by
  have hl : bor a b < 64 := Nat.or_lt_two_pow (n := 6) ha hb
  have e : (BitVec.ofInt 64 (a : Int) ||| BitVec.ofInt 64 (b : Int)).toNat = bor a b := by
    rw [BitVec.toNat_or, ofInt_toNat (w := 64) (by omega), ofInt_toNat (w := 64) (by omega)]; rfl
  simp only [abin, binInt, if_true]
  rw [show IntKind.u64.bits = 64 from rfl, e, u64n (by omega)]
theorem shl_u64 {b : Nat} (hb : b < 6) : abin .shl (.int .u64 1) (.int .i64 (b : Int)) = some (.int .u64 ((pw b : Nat) : Int)) := by
  have h2 : (2 : Nat) ^ b < 64 := Nat.pow_lt_pow_right (by decide) hb
  simp only [abin]
  rw [if_neg (by omega), Int.toNat_natCast, show min b IntKind.u64.bits = b from Nat.min_eq_left (by simp [IntKind.bits]; omega)]
  rw [show (1 : Int) * 2 ^ b = ((2 ^ b : Nat) : Int) by simp, u64n (by omega)]; rfl
theorem pw64 {b : Nat} (hb : b < 6) : pw b < 64 := Nat.pow_lt_pow_right (by decide) hb
theorem bor64 {a b : Nat} (ha : a < 64) (hb : b < 64) : bor a b < 64 := Nat.or_lt_two_pow (n := 6) ha hb
/-! 102, 72: a tray as a set -/
theorem k79 {n : Int} (h : Q (.bool (decide (1 ≤ n) && decide (n ≤ 6))) H) : WpCall E pure base bar 79 [.int .i64 n] H Q := by
  rw [call79]
  by_cases h1 : 1 ≤ n <;> by_cases h2 : n ≤ 6 <;> simp [h1, h2] at h <;> simp [go_sem, WpFun, c79, h1, h2] <;> exact h
theorem l102 {n : Nat} {v : AV} {l : List Int} (hn : n ≤ 6) (hv : isV v l) (hl : l.length < 1000) {R : PQ} : ∀ (k i s : Nat) (last : Int) (fr : List (Nat × AV)), i + k = l.length → s < 64 →
    (fr = [(0, .int .i64 (n : Int)), (6, .int .u64 (s : Nat)), (7, .int .i64 last), (10, v), (11, .int .i64 (l.length : Nat)), (12, .int .i64 (i : Nat))] ∨ fr = [(0, .int .i64 (n : Int)), (6, .int .u64 (s : Nat)), (10, v), (11, .int .i64 (l.length : Nat)), (12, .int .i64 (i : Nat)), (7, .int .i64 last)]) →
    (errT n last (l.drop i) ≠ 0 → R .ret [(4, .int .u64 0), (5, .int .i64 (errT n last (l.drop i)))] H) →
    (errT n last (l.drop i) = 0 → ∀ l', R (.exit 0) [(0, .int .i64 (n : Int)), (6, .int .u64 (orT s (l.drop i) : Nat)), (7, .int .i64 l'), (10, v), (11, .int .i64 (l.length : Nat)), (12, .int .i64 (l.length : Nat)), (13, .bool false)] H) →
    (errT n last (l.drop i) = 0 → ∀ l', R (.exit 0) [(0, .int .i64 (n : Int)), (6, .int .u64 (orT s (l.drop i) : Nat)), (10, v), (11, .int .i64 (l.length : Nat)), (12, .int .i64 (l.length : Nat)), (7, .int .i64 l'), (13, .bool false)] H) →
    Wp E base bar (.loop c102_l0) fr H R := by
  intro k
  induction k with
  | zero =>
    intro i s last fr hi hs hfr h1 h2 h3
    obtain rfl : i = l.length := by omega
    rw [List.drop_length] at h2 h3
    rw [wp_round c102_l0.eq_1]
    rcases hfr with rfl | rfl <;> simp [go_sem]
    · exact h2 rfl _
    · exact h3 rfl _
  | succ k ih =>
    intro i s last fr hi hs hfr h1 h2 h3
    have hlt : i < l.length := by omega
    rw [List.drop_eq_getElem_cons hlt] at h1 h2 h3
    have hix := fun (K : AV → Heap → List Nat → Prop) (k : IntKind) => hv.ix (H := H) (K := K) (k := k) hlt
    generalize l[i] = x at *
    rw [wp_round c102_l0.eq_1]
    unfold errT at h1 h2 h3
    have hw := i64_suc (show i < 1000000 by omega)
    by_cases hx0 : x < 0
    · rw [if_pos (.inl hx0)] at h1
      have := h1 (by decide)
      rcases hfr with rfl | rfl <;> simp [go_sem, hlt, hix, hx0]
      all_goals exact this
    by_cases hxn : (n : Int) ≤ x
    · rw [if_pos (.inr hxn)] at h1
      have := h1 (by decide)
      rcases hfr with rfl | rfl <;> simp [go_sem, hlt, hix, hx0, hxn]
      all_goals exact this
    rw [if_neg (by omega)] at h1 h2 h3
    obtain ⟨y, rfl⟩ := Int.eq_ofNat_of_zero_le (show 0 ≤ x by omega)
    have hy : y < 6 := by omega
    by_cases hle : (y : Int) ≤ last
    · rw [if_pos hle] at h1
      have := h1 (by decide)
      rcases hfr with rfl | rfl <;> simp [go_sem, hlt, hix, hx0, hxn, hle]
      all_goals exact this
    · rw [if_neg hle] at h1 h2 h3
      have next := ih (i + 1) (bor s (pw y)) (y : Int) _ (by omega) (bor64 hs (pw64 hy)) (.inr rfl) h1 (by simpa only [orT, Int.toNat_natCast] using h2) (by simpa only [orT, Int.toNat_natCast] using h3)
      have hny : ¬ n ≤ y := by omega
      rcases hfr with rfl | rfl <;> simp [go_sem, hlt, hix, hx0, hxn, hle, hny, shl_u64 hy, or_u64 hs (pw64 hy), hw]
      all_goals exact next
theorem k102 {n : Nat} {v : AV} {l : List Int} (hn : n ≤ 6) (hv : isV v l) (hl : l.length < 1000)
    (h1 : errT n (-1) l ≠ 0 → Q (.tup [.int .u64 0, .int .i64 (errT n (-1) l)]) H)
    (h2 : errT n (-1) l = 0 → Q (.tup [.int .u64 (orT 0 l : Nat), .int .i64 0]) H) : WpCall E pure base bar 102 [.int .i64 (n : Int), v] H Q := by
  rw [call102]
  simp [go_sem, WpFun, c102, hv.frz, hv.len]
  refine l102 hn hv hl l.length 0 0 (-1) _ (by omega) (by decide) (.inl rfl) (fun h => ?_) (fun h l' => ?_) (fun h l' => ?_)
  · rw [List.drop_zero] at h
    have := h1 h
    simp [go_sem]
    exact this
  all_goals
    rw [List.drop_zero] at h
    have := h2 h
    simp [go_sem]
    exact this
end Go.Proofs.YtbkhffakhggdaaaDoor.Code
end
section
namespace Go.Proofs.YtbkhffakhggdaaaDoor.Code
open Go Go.Ab
variable {pure : Bool} {base bar : Nat} {H : Heap} {Q : AV → Heap → Prop} {K : AV → Heap → List Nat → Prop}
theorem isV.fp {v : AV} {l : List Int} (h : isV v l) : aload H ⟨false, 1⟩ (.fp v) = some v := by
  rcases h with ⟨rfl, rfl⟩ | rfl <;> rfl
theorem box0 {a b : AV} : aload (H ++ [.row 0 [a, b] 0 true]) ⟨false, 1⟩ (.ptr H.length 0 0) = some a := by
  rw [aload_ptr (own_get0 (l := [.row 0 [a, b] 0 true]) |>.trans rfl)]; rfl
theorem box1 {a b : AV} : aload (H ++ [.row 0 [a, b] 0 true]) ⟨false, 1⟩ (.ptr H.length 0 1) = some b := by
  rw [aload_ptr (own_get0 (l := [.row 0 [a, b] 0 true]) |>.trans rfl)]; rfl
theorem box2 {a b : AV} : aload (H ++ [.row 0 [a, b] 0 true]) ⟨true, 2⟩ (.ptr H.length 0 0) = some (.agg [a, b]) := by
  rw [aload_ptr (own_get0 (l := [.row 0 [a, b] 0 true]) |>.trans rfl)]; rfl
end Go.Proofs.YtbkhffakhggdaaaDoor.Code
end
section
namespace Go.Proofs.YtbkhffakhggdaaaDoor.Code
open Go Go.Ab
variable {pure : Bool} {base bar : Nat} {H : Heap} {Q : AV → Heap → Prop} {K : AV → Heap → List Nat → Prop}
/-! sets as lists -/
theorem isV_dyL {x : Nat} (hx : x < 64) : isV (dy x) (dyL x) := by
  by_cases h0 : x = 0
  · subst h0; exact .inl ⟨rfl, rfl⟩
  · refine .inr ?_
    unfold dy
    rw [if_neg h0]
    simp [ints, dyL]
theorem dyL_len {x : Nat} (hx : x < 64) : (dyL x).length = pc x := by
  have : ∀ x, x < 64 → (dyL x).length = pc x := by decide +kernel
  exact this x hx
theorem pc_le {x : Nat} : pc x ≤ 6 := Nat.le_trans (List.length_filter_le _ _) (by simp)
/-- one set is inside another -/
def subB (a b : Nat) : Bool := Nat.beq (Nat.land a b) a
theorem dy_plain {x : Nat} : Plain (dy x) := by
  unfold dy; split
  · exact Plain.nils
  · exact Plain.lst
theorem dy_isTup {x : Nat} : (dy x).isTup = false := by unfold dy; split <;> rfl
theorem dy_cells {x : Nat} : (dy x).cells = [dy x] := by unfold dy; split <;> rfl
theorem dy_noVec {x : Nat} : (dy x).noVec = true := by unfold dy; split <;> rfl
theorem dy_top {x : Nat} : (dy x).top = 0 := by
  unfold dy; split
  · rfl
  · exact tops_zero fun y hy => by
      obtain ⟨z, _, rfl⟩ := List.mem_map.1 hy
      rfl
theorem dy_fp {x : Nat} : aload H ⟨false, 1⟩ (.fp (dy x)) = some (dy x) := by unfold dy; split <;> rfl
theorem dy_frz {x d : Nat} : frz (d + 1) bar H (dy x) = some (dy x, H) := by unfold dy; split <;> rfl
/-- trays as lists -/
def dys (S : List Nat) : List AV := S.map dy
theorem dys_plain {S : List Nat} : ∀ c ∈ dys S, Plain c := fun c hc => by
  obtain ⟨x, _, rfl⟩ := List.mem_map.1 hc
  exact dy_plain
theorem dys_tops {S : List Nat} : AV.top.tops (dys S) = 0 := tops_zero fun c hc => by
  obtain ⟨x, _, rfl⟩ := List.mem_map.1 hc
  exact dy_top
theorem dys_length {S : List Nat} : (dys S).length = S.length := by simp [dys]
theorem dys_append {S T : List Nat} : dys (S ++ T) = dys S ++ dys T := by simp [dys]
theorem dys_get {S : List Nat} {i : Nat} (hi : i < S.length) : (dys S)[i]? = some (dy S[i]) := by simp [dys, List.getElem?_eq_getElem hi]
/-- a value is a list of trays -/
def isS (v : AV) (S : List Nat) : Prop := (v = .nils ∧ S = []) ∨ ∃ ex, v = .lst 1 ex (dys S)
theorem isS.len {v : AV} {S : List Nat} (h : isS v S) : lenWp (some v) H K = K (.int .i64 (S.length : Int)) H [] := by
  rcases h with ⟨rfl, rfl⟩ | ⟨ex, rfl⟩
  · rfl
  · rw [lenWp_lst, dys_length]
theorem isS.frz {v : AV} {S : List Nat} (h : isS v S) {d : Nat} : frz (d + 1) bar H v = some (v, H) := by
  rcases h with ⟨rfl, rfl⟩ | ⟨ex, rfl⟩ <;> rfl
theorem isS.isTup {v : AV} {S : List Nat} (h : isS v S) : v.isTup = false := by
  rcases h with ⟨rfl, rfl⟩ | ⟨ex, rfl⟩ <;> rfl
theorem isS.cells {v : AV} {S : List Nat} (h : isS v S) : v.cells = [v] := by
  rcases h with ⟨rfl, rfl⟩ | ⟨ex, rfl⟩ <;> rfl
theorem isS.noVec {v : AV} {S : List Nat} (h : isS v S) : v.noVec = true := by
  rcases h with ⟨rfl, rfl⟩ | ⟨ex, rfl⟩ <;> rfl
theorem isS.top {v : AV} {S : List Nat} (h : isS v S) : v.top = 0 := by
  rcases h with ⟨rfl, rfl⟩ | ⟨ex, rfl⟩
  · rfl
  · exact dys_tops
theorem isS.ix {v : AV} {S : List Nat} (h : isS v S) {k : IntKind} {i : Nat} (hi : i < S.length) : ixaSWp 1 (some v) (some (.int k (i : Int))) H K = K (.fp (dy S[i])) H [] := by
  rcases h with ⟨rfl, rfl⟩ | ⟨ex, rfl⟩
  · simp at hi
  · rw [ixaSWp_lst]
    simp only [Int.toNat_natCast]
    rw [dys_get hi]
    simp [valWp_some]
theorem outL_dys {S : List Nat} : outL 1 (dys S) = if S = [] then .nils else .lst 1 false (dys S) := by
  unfold outL
  by_cases h : S = []
  · subst h; rfl
  · rw [if_neg (by simpa [dys] using h), if_neg h, Nat.div_one, chunks_one]
theorem isS.out {S : List Nat} : isS (outL 1 (dys S)) S := by
  rw [outL_dys]
  split
  · rename_i h; exact .inl ⟨rfl, h⟩
  · exact .inr ⟨_, rfl⟩
theorem gdys {H : Heap} {base bar bytes : Nat} {S : List Nat} {H0 : Heap} {v : AV} {ex : Bool} {x : Nat} {K : AV → Heap → List Nat → Prop} (g : Grow 1 (dys S) H0 v H) (hb : bar ≤ H0.length) (hbase : base ≤ H0.length)
    (hlen : (S.length + 1) * bytes ≤ 140737488355328)
    (h : ∀ v' H' tc, Grow 1 (dys (S ++ [x])) H0 v' H' → K v' H' tc) : appWp base bar 1 bytes (some v) (some (.lst 1 ex [dy x])) H K := by
  refine g.app (by omega) (Nat.one_dvd _) (fun c hc => ?_) (Nat.one_dvd _) hb hbase ?_ fun v' H' tc g' => h v' H' tc ?_
  · simp [dy_cells] at hc; subst hc; exact dy_plain
  · simpa [dys_length, dy_cells] using hlen
  · simpa [dys_append, dys, dy_cells] using g'
end Go.Proofs.YtbkhffakhggdaaaDoor.Code
end
section
namespace Go.Proofs.YtbkhffakhggdaaaDoor.Code
open Go Go.Ab
variable {pure : Bool} {base bar : Nat} {H : Heap} {Q : AV → Heap → Prop} {K : AV → Heap → List Nat → Prop}
end Go.Proofs.YtbkhffakhggdaaaDoor.Code
end
section
namespace Go.Proofs.YtbkhffakhggdaaaDoor.Code
open Go Go.Ab
variable {pure : Bool} {base bar : Nat} {H : Heap} {Q : AV → Heap → Prop} {K : AV → Heap → List Nat → Prop}
/-! 29: two lists are the same, for the law -/
theorem l29 {v w : AV} {l m : List Int} (hv : isV v l) (hw : isV w m) (hl : l.length < 1000) (he : l.length = m.length) {R : PQ} : ∀ (k i : Nat), i + k = l.length →
    (l.drop i = m.drop i → R (.exit 0) [(0, v), (1, w), (5, .int .i64 (l.length : Nat)), (14, .bool false)] H) →
    (l.drop i ≠ m.drop i → R .ret [(4, .bool false)] H) →
    Wp E base bar (.loop c29_l0) [(0, v), (1, w), (5, .int .i64 (i : Nat))] H R := by
  intro k
  induction k with
  | zero =>
    intro i hi h1 h2
    obtain rfl : i = l.length := by omega
    have := h1 (by rw [List.drop_length, he, List.drop_length])
    rw [wp_round c29_l0.eq_1]
    simp [go_sem, hv.len]
    exact this
  | succ k ih =>
    intro i hi h1 h2
    have hlt : i < l.length := by omega
    have hlm : i < m.length := by omega
    rw [List.drop_eq_getElem_cons hlt, List.drop_eq_getElem_cons hlm] at h1 h2
    have hix := fun (K : AV → Heap → List Nat → Prop) (k : IntKind) => hv.ix (H := H) (K := K) (k := k) hlt
    have hiy := fun (K : AV → Heap → List Nat → Prop) (k : IntKind) => hw.ix (H := H) (K := K) (k := k) hlm
    generalize l[i] = x at *
    generalize m[i] = y at *
    have hs := i64_suc (show i < 1000000 by omega)
    rw [wp_round c29_l0.eq_1]
    by_cases hxy : x = y
    · subst hxy
      have next := ih (i + 1) (by omega) (fun h => h1 (by rw [h])) (fun h => h2 (by simpa using h))
      simp [go_sem, hv.len, hlt, hix, hiy, hs]
      exact next
    · have := h2 (by simp [hxy])
      simp [go_sem, hv.len, hlt, hix, hiy, hxy]
      exact this
theorem k29 {v w : AV} {l m : List Int} (hv : isV v l) (hw : isV w m) (hl : l.length < 1000) (h : Q (.bool (decide (l = m))) H) : WpCall E pure base bar 29 [v, w] H Q := by
  rw [call29]
  by_cases he : l.length = m.length
  · simp [go_sem, WpFun, c29, hv.frz, hw.frz, hv.len, hw.len, he]
    refine l29 hv hw hl he l.length 0 (by omega) (fun hc => ?_) (fun hc => ?_)
    · rw [List.drop_zero, List.drop_zero] at hc
      rw [decide_eq_true hc] at h
      simp [go_sem]
      exact h
    · rw [List.drop_zero, List.drop_zero] at hc
      rw [decide_eq_false hc] at h
      simp [go_sem]
      exact h
  · have hne : l ≠ m := fun h => he (by rw [h])
    rw [decide_eq_false hne] at h
    have he' : ¬ ((l.length : Int) = (m.length : Int)) := by omega
    simp [go_sem, WpFun, c29, hv.frz, hw.frz, hv.len, hw.len, he']
    exact h
theorem dyL_inj {a b : Nat} (ha : a < 64) (hb : b < 64) (h : dyL a = dyL b) : a = b := by
  have key : ((List.range 64).all fun a => Nat.beq (orT 0 (dyL a)) a) = true := by decide +kernel
  have e1 := Nat.eq_of_beq_eq_true (List.all_eq_true.1 key a (List.mem_range.2 ha))
  have e2 := Nat.eq_of_beq_eq_true (List.all_eq_true.1 key b (List.mem_range.2 hb))
  rw [← e1, ← e2, h]
theorem dyL_lt {x : Nat} (hx : x < 64) : (dyL x).length < 1000 := by rw [dyL_len hx]; have := pc_le (x := x); omega
theorem k29s {a b : Nat} (ha : a < 64) (hb : b < 64) (h : Q (.bool (decide (a = b))) H) : WpCall E pure base bar 29 [dy a, dy b] H Q := by
  refine k29 (isV_dyL ha) (isV_dyL hb) (dyL_lt ha) ?_
  rw [show decide (dyL a = dyL b) = decide (a = b) by
    by_cases e : a = b
    · subst e; simp
    · rw [decide_eq_false e, decide_eq_false fun h => e (dyL_inj ha hb h)]]
  exact h
end Go.Proofs.YtbkhffakhggdaaaDoor.Code
end
section
namespace Go.Proofs.YtbkhffakhggdaaaDoor.Code
open Go Go.Ab Go.RowKit Go.ChangeShapes Go.WideShapes
end Go.Proofs.YtbkhffakhggdaaaDoor.Code
end
end
section
set_option linter.all false
section
namespace Go.Proofs.YtbkhffakhggdaaaDoor.Code
open Go Go.Ab
variable {pure : Bool} {base bar : Nat} {H : Heap} {Q : AV → Heap → Prop} {K : AV → Heap → List Nat → Prop}
/-! words -/
def cl6 (a b : Nat) : Nat := Nat.land a (Nat.xor 63 b)
def okJ (k : IntKind) (r : Option AV) (n : Nat) : Bool := match k, r with
  | .i64, some (.int .i64 v) => decide (v = (n : Int))
  | .u64, some (.int .u64 v) => decide (v = (n : Int))
  | _, _ => false
theorem okJ_i {r : Option AV} {n : Nat} (h : okJ .i64 r n = true) : r = some (.int .i64 (n : Int)) := by
  unfold okJ at h
  split at h
  · rw [of_decide_eq_true h]
  · rename_i h1; cases h1
  · cases h
theorem okJ_u {r : Option AV} {n : Nat} (h : okJ .u64 r n = true) : r = some (.int .u64 (n : Int)) := by
  unfold okJ at h
  split at h
  · rename_i h1; cases h1
  · rw [of_decide_eq_true h]
  · cases h
theorem cl6_ua : ((List.range 64).all fun x => (List.range 64).all fun z => okJ .u64 (abin .andNot (.int .u64 (x : Int)) (.int .u64 (z : Int))) (cl6 x z)) = true := by kernel_rfl
theorem cl6_u {x z : Nat} (hx : x < 64) (hz : z < 64) : abin .andNot (.int .u64 (x : Int)) (.int .u64 (z : Int)) = some (.int .u64 ((cl6 x z : Nat) : Int)) :=
  okJ_u (List.all_eq_true.1 (List.all_eq_true.1 cl6_ua x (List.mem_range.2 hx)) z (List.mem_range.2 hz))
theorem cl6_a : ((List.range 64).all fun x => (List.range 64).all fun z => Nat.beq (cl6 x z) 0 == subB x z) = true := by decide +kernel
theorem cl6_zero {x z : Nat} (hx : x < 64) (hz : z < 64) : (cl6 x z = 0) ↔ subB x z = true := by
  have := eq_of_beq (List.all_eq_true.1 (List.all_eq_true.1 cl6_a x (List.mem_range.2 hx)) z (List.mem_range.2 hz))
  rw [← this]; simp
/-! 49: a list has a number -/
theorem l96 {v : AV} {l : List Nat} {x : Nat} (hv : isL v l) (hl : l.length < 1000000) {R : PQ} : ∀ (k i : Nat), i + k = l.length →
    ((l.drop i).contains x = false → R (.exit 0) [(0, v), (1, .int .i64 (x : Nat)), (7, .int .i64 (l.length : Nat)), (8, .int .i64 (l.length : Nat)), (9, .bool false)] H) →
    ((l.drop i).contains x = true → ∀ j : Nat, R .ret [(4, .int .i64 (j : Nat))] H) →
    Wp E base bar (.loop c96_l0) [(0, v), (1, .int .i64 (x : Nat)), (7, .int .i64 (l.length : Nat)), (8, .int .i64 (i : Nat))] H R := by
  intro k
  induction k with
  | zero =>
    intro i hi h1 h2
    obtain rfl : i = l.length := by omega
    rw [List.drop_length] at h1
    rw [wp_round c96_l0.eq_1]
    simp [go_sem]
    exact h1 rfl
  | succ k ih =>
    intro i hi h1 h2
    have hlt : i < l.length := by omega
    rw [List.drop_eq_getElem_cons hlt, List.contains_cons] at h1 h2
    have hix := fun (K : AV → Heap → List Nat → Prop) (k : IntKind) => hv.ix (H := H) (K := K) (k := k) hlt
    generalize l[i] = y at *
    rw [wp_round c96_l0.eq_1]
    by_cases hx : x = y
    · subst hx
      have := h2 (by simp) i
      simp [go_sem, hlt, hix]
      exact this
    · have hb : (x == y) = false := by simpa using hx
      rw [hb] at h1 h2
      simp only [Bool.false_or] at h1 h2
      have next := ih (i + 1) (by omega) h1 h2
      simp [go_sem, hlt, hix, hx, natEq, i64_suc (show i < 1000000 by omega)]
      exact next
end Go.Proofs.YtbkhffakhggdaaaDoor.Code
end
section
namespace Go.Proofs.YtbkhffakhggdaaaDoor.Code
open Go Go.Ab
variable {pure : Bool} {base bar : Nat} {H : Heap} {Q : AV → Heap → Prop} {K : AV → Heap → List Nat → Prop}
/-! sets as words -/
def us (L : List Nat) : List AV := L.map fun (x : Nat) => .int .u64 (x : Int)
theorem us_plain {l : List Nat} : ∀ c ∈ us l, Plain c := fun c hc => by
  obtain ⟨x, _, rfl⟩ := List.mem_map.1 hc
  exact Plain.int
theorem us_length {l : List Nat} : (us l).length = l.length := by simp [us]
theorem us_append {l r : List Nat} : us (l ++ r) = us l ++ us r := by simp [us]
theorem us_tops {l : List Nat} : AV.top.tops (us l) = 0 := tops_zero fun c hc => by
  obtain ⟨x, _, rfl⟩ := List.mem_map.1 hc
  rfl
def isU (v : AV) (L : List Nat) : Prop := (v = .nils ∧ L = []) ∨ ∃ ex, v = .lst 1 ex (us L)
theorem isU.len {v : AV} {l : List Nat} (h : isU v l) : lenWp (some v) H K = K (.int .i64 (l.length : Int)) H [] := by
  rcases h with ⟨rfl, rfl⟩ | ⟨ex, rfl⟩
  · rfl
  · rw [lenWp_lst, us_length]
theorem isU.frz {v : AV} {l : List Nat} (h : isU v l) {d : Nat} : frz (d + 1) bar H v = some (v, H) := by
  rcases h with ⟨rfl, rfl⟩ | ⟨ex, rfl⟩ <;> rfl
theorem isU.top {v : AV} {l : List Nat} (h : isU v l) : v.top = 0 := by
  rcases h with ⟨rfl, rfl⟩ | ⟨ex, rfl⟩
  · rfl
  · exact us_tops
theorem isU.isTup {v : AV} {l : List Nat} (h : isU v l) : v.isTup = false := by
  rcases h with ⟨rfl, rfl⟩ | ⟨ex, rfl⟩ <;> rfl
theorem isU.cells {v : AV} {l : List Nat} (h : isU v l) : v.cells = [v] := by
  rcases h with ⟨rfl, rfl⟩ | ⟨ex, rfl⟩ <;> rfl
theorem isU.noVec {v : AV} {l : List Nat} (h : isU v l) : v.noVec = true := by
  rcases h with ⟨rfl, rfl⟩ | ⟨ex, rfl⟩ <;> rfl
theorem isU.ix {v : AV} {l : List Nat} (h : isU v l) {k : IntKind} {i : Nat} (hi : i < l.length) : ixaSWp 1 (some v) (some (.int k (i : Int))) H K = K (.fp (.int .u64 ((l[i] : Nat) : Int))) H [] := by
  rcases h with ⟨rfl, rfl⟩ | ⟨ex, rfl⟩
  · simp at hi
  · rw [ixaSWp_lst]
    simp only [Int.toNat_natCast]
    rw [show (us l)[i]? = some (.int .u64 ((l[i] : Nat) : Int)) by simp [us, List.getElem?_eq_getElem hi]]
    simp [valWp_some]
theorem outL_us {l : List Nat} : outL 1 (us l) = if l = [] then .nils else .lst 1 false (us l) := by
  unfold outL
  by_cases h : l = []
  · subst h; rfl
  · rw [if_neg (by simpa [us] using h), if_neg h, Nat.div_one, chunks_one]
theorem isU.out {l : List Nat} : isU (outL 1 (us l)) l := by
  rw [outL_us]
  split
  · rename_i h; exact .inl ⟨rfl, h⟩
  · exact .inr ⟨_, rfl⟩
theorem gus {H : Heap} {base bar bytes : Nat} {S : List Nat} {H0 : Heap} {v : AV} {ex : Bool} {x : Nat} {K : AV → Heap → List Nat → Prop} (g : Grow 1 (us S) H0 v H) (hb : bar ≤ H0.length) (hbase : base ≤ H0.length)
    (hlen : (S.length + 1) * bytes ≤ 140737488355328)
    (h : ∀ v' H' tc, Grow 1 (us (S ++ [x])) H0 v' H' → K v' H' tc) : appWp base bar 1 bytes (some v) (some (.lst 1 ex [.int .u64 (x : Int)])) H K := by
  refine g.app (by omega) (Nat.one_dvd _) (fun c hc => ?_) (Nat.one_dvd _) hb hbase ?_ fun v' H' tc g' => h v' H' tc ?_
  · simp [AV.cells] at hc; subst hc; exact Plain.int
  · simpa [us_length, AV.cells] using hlen
  · simpa [us_append, us, AV.cells] using g'
theorem goutU {H : Heap} {base bar : Nat} {S : List Nat} {H0 : Heap} {v : AV} {K : AV → Heap → Prop} {vs : List AV} (hp : ∀ c ∈ vs, Plain c) (ht : AV.top.tops vs = 0) (g : Grow 1 (us S) H0 v H) (hb : bar ≤ H0.length) (hbase : base ≤ H0.length)
    (h : K (tupled (outL 1 (us S) :: vs)) (H0.take base)) : outWp (leave 0 base bar (v :: vs) H) K := by
  obtain ⟨H', h1, h2, h3, h4⟩ := g.frz (d := 5) (bar := bar) (by omega) (Nat.one_dvd _) us_plain hb
  have e : leave 0 base bar (v :: vs) H = some (tupled (outL 1 (us S) :: vs), H0.take base) := by
    refine (leave0_of (vs' := outL 1 (us S) :: vs) (H' := H') ?_ ?_).trans ?_
    · have h5 : frzsW (frz 8 bar) H' vs = some (vs, H') := frzsW_id fun x hx => hp x hx _ _ _
      simp only [frzAll, frz.frzs, frzsW, h1]
      rw [h5]
    · rw [tops_cons, ht, isU.top isU.out]; simp
    · rw [show H'.take base = (H'.take H0.length).take base by rw [List.take_take, Nat.min_eq_left hbase], h4]
  rw [e]; exact h
/-- freezing, with the slot as it was -/
theorem gfrz {sz : Nat} {cells : List AV} {H0 : Heap} {v : AV} (g : Grow sz cells H0 v H) (hsz : 0 < sz) (hc : sz ∣ cells.length) (hp : ∀ c ∈ cells, Plain c) (hb : bar ≤ H0.length) :
    ∃ H', frz 8 bar H v = some (outL sz cells, H') ∧ Grow sz cells H0 v H' ∧ H'.length = H.length := by
  obtain ⟨H', h1, h2, h3, h4⟩ := g.frz (d := 5) (bar := bar) hsz hc hp hb
  refine ⟨H', h1, ?_, h3⟩
  by_cases he : cells = []
  · rw [if_pos he] at h2
    rcases g with ⟨_, rfl, _⟩ | ⟨_, _, hne, _⟩
    · exact h2
    · exact (hne he).elim
  · rwa [if_neg he] at h2
/-! 93: a list of words has one -/
theorem l110 {v : AV} {l : List Nat} {x : Nat} (hv : isU v l) (hl : l.length < 1000000) {R : PQ} : ∀ (k i : Nat), i + k = l.length →
    ((l.drop i).contains x = false → R (.exit 0) [(0, v), (1, .int .u64 (x : Nat)), (7, .int .i64 (l.length : Nat)), (8, .int .i64 (l.length : Nat)), (9, .bool false)] H) →
    ((l.drop i).contains x = true → ∀ j : Nat, R .ret [(4, .int .i64 (j : Nat))] H) →
    Wp E base bar (.loop c110_l0) [(0, v), (1, .int .u64 (x : Nat)), (7, .int .i64 (l.length : Nat)), (8, .int .i64 (i : Nat))] H R := by
  intro k
  induction k with
  | zero =>
    intro i hi h1 h2
    obtain rfl : i = l.length := by omega
    rw [List.drop_length] at h1
    rw [wp_round c110_l0.eq_1]
    simp [go_sem]
    exact h1 rfl
  | succ k ih =>
    intro i hi h1 h2
    have hlt : i < l.length := by omega
    rw [List.drop_eq_getElem_cons hlt, List.contains_cons] at h1 h2
    have hix := fun (K : AV → Heap → List Nat → Prop) (k : IntKind) => hv.ix (H := H) (K := K) (k := k) hlt
    generalize l[i] = y at *
    rw [wp_round c110_l0.eq_1]
    by_cases hx : x = y
    · subst hx
      have := h2 (by simp) i
      simp [go_sem, hlt, hix]
      exact this
    · have hb : (x == y) = false := by simpa using hx
      rw [hb] at h1 h2
      simp only [Bool.false_or] at h1 h2
      have next := ih (i + 1) (by omega) h1 h2
      simp [go_sem, hlt, hix, hx, natEq, i64_suc (show i < 1000000 by omega)]
      exact next
theorem k110 {v : AV} {l : List Nat} {x : Nat} (hv : isU v l) (hl : l.length < 1000000) (h1 : l.contains x = false → Q (.int .i64 (-1)) H) (h2 : l.contains x = true → ∀ j : Nat, Q (.int .i64 (j : Nat)) H) : WpCall E pure base bar 110 [v, .int .u64 (x : Nat)] H Q := by
  rw [call110]
  simp [go_sem, WpFun, c110, hv.frz, hv.len]
  refine l110 hv hl l.length 0 (by omega) (fun hc => ?_) (fun hc j => ?_)
  · rw [List.drop_zero] at hc
    simp [go_sem]
    exact h1 hc
  · rw [List.drop_zero] at hc
    simp [go_sem]
    exact h2 hc j
theorem k93g {v : AV} {l : List Nat} {x : Nat} {H0 : Heap} (g : Grow 1 (us l) H0 v H) (hb : bar ≤ H0.length) (hl : l.length < 1000000) (h : ∀ H2, Grow 1 (us l) H0 v H2 → H2.length = H.length → Q (.bool (l.contains x)) H2) : WpCall E pure base bar 93 [v, .int .u64 (x : Nat)] H Q := by
  obtain ⟨H2, f1, f2, f3⟩ := gfrz (bar := bar) g (by decide) (Nat.one_dvd _) us_plain hb
  have hu : isU (outL 1 (us l)) l := isU.out
  have h := h H2 f2 f3
  rw [call93]
  simp [go_sem, WpFun, c93, f1]
  generalize outL 1 (us l) = w at *
  refine k110 hu hl (fun hc => ?_) (fun hc j => ?_)
  all_goals
    rw [hc] at h
    simp [go_sem]
    exact h
theorem k93 {v : AV} {l : List Nat} {x : Nat} (hu : isU v l) (hl : l.length < 1000000) (h : Q (.bool (l.contains x)) H) : WpCall E pure base bar 93 [v, .int .u64 (x : Nat)] H Q := by
  rw [call93]
  simp [go_sem, WpFun, c93, hu.frz]
  refine k110 hu hl (fun hc => ?_) (fun hc j => ?_)
  all_goals
    rw [hc] at h
    simp [go_sem]
    exact h
end Go.Proofs.YtbkhffakhggdaaaDoor.Code
end
section
namespace Go.Proofs.YtbkhffakhggdaaaDoor.Code
open Go Go.Ab
variable {pure : Bool} {base bar : Nat} {H : Heap} {Q : AV → Heap → Prop} {K : AV → Heap → List Nat → Prop}
/-! lists of lists -/
def allV : List AV → List (List Int) → Prop
  | [], [] => True
  | v :: vs, l :: ls => isV v l ∧ allV vs ls
  | _, _ => False
theorem allV.length : ∀ {vs : List AV} {ls : List (List Int)}, allV vs ls → vs.length = ls.length
  | [], [], _ => rfl
  | v :: vs, l :: ls, h => by simp [allV.length h.2]
  | [], _ :: _, h => h.elim
  | _ :: _, [], h => h.elim
theorem allV.get : ∀ {vs : List AV} {ls : List (List Int)}, allV vs ls → ∀ {i : Nat} (hi : i < ls.length), ∃ v, vs[i]? = some v ∧ isV v ls[i]
  | [], [], _, _, hi => by simp at hi
  | v :: vs, l :: ls, h, 0, _ => ⟨v, rfl, h.1⟩
  | v :: vs, l :: ls, h, i + 1, hi => by
    obtain ⟨u, h1, h2⟩ := allV.get h.2 (i := i) (by simpa using hi)
    exact ⟨u, by simpa using h1, h2⟩
  | [], _ :: _, h, _, _ => h.elim
  | _ :: _, [], h, _, _ => h.elim
theorem allV.tops : ∀ {vs : List AV} {ls : List (List Int)}, allV vs ls → AV.top.tops vs = 0
  | [], [], _ => rfl
  | v :: vs, l :: ls, h => by rw [tops_cons, h.1.top, allV.tops h.2]; rfl
  | [], _ :: _, h => h.elim
  | _ :: _, [], h => h.elim
def isVV (q : AV) (ls : List (List Int)) : Prop := (q = .nils ∧ ls = []) ∨ ∃ ex vs, q = .lst 1 ex vs ∧ allV vs ls
theorem isVV.len {v : AV} {l : List (List Int)} (h : isVV v l) : lenWp (some v) H K = K (.int .i64 (l.length : Int)) H [] := by
  rcases h with ⟨rfl, rfl⟩ | ⟨ex, vs, rfl, h⟩
  · rfl
  · rw [lenWp_lst, h.length]
theorem isVV.frz {v : AV} {l : List (List Int)} (h : isVV v l) {d : Nat} : frz (d + 1) bar H v = some (v, H) := by
  rcases h with ⟨rfl, rfl⟩ | ⟨ex, vs, rfl, h⟩ <;> rfl
theorem isVV.isTup {v : AV} {l : List (List Int)} (h : isVV v l) : v.isTup = false := by
  rcases h with ⟨rfl, rfl⟩ | ⟨ex, vs, rfl, h⟩ <;> rfl
theorem isVV.cells {v : AV} {l : List (List Int)} (h : isVV v l) : v.cells = [v] := by
  rcases h with ⟨rfl, rfl⟩ | ⟨ex, vs, rfl, h⟩ <;> rfl
theorem isVV.noVec {v : AV} {l : List (List Int)} (h : isVV v l) : v.noVec = true := by
  rcases h with ⟨rfl, rfl⟩ | ⟨ex, vs, rfl, h⟩ <;> rfl
theorem isVV.top {v : AV} {l : List (List Int)} (h : isVV v l) : v.top = 0 := by
  rcases h with ⟨rfl, rfl⟩ | ⟨ex, vs, rfl, h⟩
  · rfl
  · exact h.tops
theorem isVV.ix {q : AV} {ls : List (List Int)} (h : isVV q ls) {i : Nat} (hi : i < ls.length) : ∃ v, isV v ls[i] ∧ ∀ (H : Heap) (K : AV → Heap → List Nat → Prop) (k : IntKind), ixaSWp 1 (some q) (some (.int k (i : Int))) H K = K (.fp v) H [] := by
  rcases h with ⟨rfl, rfl⟩ | ⟨ex, vs, rfl, h⟩
  · simp at hi
  · obtain ⟨v, h1, h2⟩ := h.get hi
    refine ⟨v, h2, fun H K k => ?_⟩
    rw [ixaSWp_lst]
    simp only [Int.toNat_natCast]
    rw [h1]
    simp [valWp_some]
theorem allV_dys : ∀ {S : List Nat}, (∀ x ∈ S, x < 64) → allV (dys S) (S.map dyL)
  | [], _ => trivial
  | x :: r, h => ⟨isV_dyL (h x (List.mem_cons_self ..)), allV_dys fun y hy => h y (List.mem_cons_of_mem _ hy)⟩
theorem isS.vv {q : AV} {S : List Nat} (h : isS q S) (hS : ∀ x ∈ S, x < 64) : isVV q (S.map dyL) := by
  rcases h with ⟨rfl, rfl⟩ | ⟨ex, rfl⟩
  · exact .inl ⟨rfl, rfl⟩
  · exact .inr ⟨ex, _, rfl, allV_dys hS⟩
/-! 68: a shelf is opened -/
def opS (n : Int) : List Nat → List (List Int) → Int × List Nat
  | done, [] => (0, done)
  | done, l :: r => if errT n (-1) l ≠ 0 then (errT n (-1) l, []) else if done.contains (orT 0 l) then (6, []) else opS n (done ++ [orT 0 l]) r
theorem l68 {id ver fz : Nat} {ex : Bool} {n : Nat} {q w : AV} {ls : List (List Int)} {H0 : Heap} (h1 : 1 ≤ n) (hn : n ≤ 6) (hq : isVV q ls) (hl : ls.length < 1000) (hll : ∀ l ∈ ls, l.length < 1000) (hid : H0[id]? = some (.row ver [.int .i64 (n : Int), w] fz ex))
    (hb : bar ≤ H0.length) (hbase : base ≤ H0.length) {R : PQ} : ∀ (k i : Nat) (done : List Nat) (v4 : AV) (H : Heap), i + k = ls.length → done.length ≤ i → Grow 1 (us done) H0 v4 H →
    (∀ e H', (opS n done (ls.drop i)).1 = e → e ≠ 0 → H'.take H0.length = H0 → R .ret [(2, .nils), (3, .int .i64 e)] H') →
    (∀ v' H', (opS n done (ls.drop i)).1 = 0 → Grow 1 (us (opS n done (ls.drop i)).2) H0 v' H' → R (.exit 0) [(1, .ptr id ver 0), (4, v'), (14, q), (15, .int .i64 (ls.length : Nat)), (16, .int .i64 (ls.length : Nat)), (17, .bool false)] H') →
    Wp E base bar (.loop c68_l0) [(1, .ptr id ver 0), (4, v4), (14, q), (15, .int .i64 (ls.length : Nat)), (16, .int .i64 (i : Nat))] H R := by
  have htk : ∀ {cells : List AV} {v : AV} {H : Heap}, Grow 1 cells H0 v H → H.take H0.length = H0 := fun g => by
    rcases g with ⟨_, _, rfl⟩ | ⟨_, _, _, _, _, rfl⟩
    · exact List.take_length
    · simp
  intro k
  induction k with
  | zero =>
    intro i done v4 H hi hd g h1' h2'
    obtain rfl : i = ls.length := by omega
    rw [List.drop_length] at h2'
    rw [wp_round c68_l0.eq_1]
    simp [go_sem]
    exact h2' _ _ rfl g
  | succ k ih =>
    intro i done v4 H hi hd g h1' h2'
    have hlt : i < ls.length := by omega
    rw [List.drop_eq_getElem_cons hlt] at h1' h2'
    obtain ⟨v, hv, hix⟩ := hq.ix hlt
    have hvl := hll _ (List.getElem_mem hlt)
    generalize ls[i] = l at *
    have ld : aload H ⟨false, 1⟩ (.ptr id ver 0) = some (.int .i64 (n : Int)) := by rw [aload_ptr (g.get hid)]; rfl
    simp only [opS] at h1' h2'
    have hs := i64_suc (show i < 1000000 by omega)
    rw [wp_round c68_l0.eq_1]
    simp [go_sem, hlt, hix, hv.fp, ld]
    refine k102 hn hv hvl (fun he => ?_) (fun he => ?_)
    · rw [if_pos he] at h1'
      have := h1' _ _ rfl he (htk g)
      simp [go_sem, he]
      exact this
    · rw [if_neg (by simpa using he)] at h1' h2'
      simp [go_sem]
      refine k93g g hb (by omega) fun H2 g2 hl2 => ?_
      cases hc : done.contains (orT 0 l)
      · rw [hc] at h1' h2'
        simp only [Bool.false_eq_true, if_false] at h1' h2'
        simp [go_sem, aop, fillA, setCells, chunks, AV.noVec.noVecs, AV.noVec]
        rw [wpop_app]
        simp [Opd.ev, go_sem]
        refine gus g2 hb hbase (by omega) fun v' H' tc g' => ?_
        have next := ih (i + 1) (done ++ [orT 0 l]) v' H' (by omega) (by simp; omega) g' h1' h2'
        simp [go_sem, hs]
        exact next
      · rw [hc] at h1'
        have := h1' 6 H2 rfl (by decide) (htk g2)
        simp [go_sem]
        exact this
theorem k68 {n : Nat} {q : AV} {ls : List (List Int)} (h1 : 1 ≤ n) (hn : n ≤ 6) (hq : isVV q ls) (hl : ls.length < 1000) (hll : ∀ l ∈ ls, l.length < 1000) (hbar : bar ≤ H.length)
    (he : (opS n [] ls).1 ≠ 0 → Q (.tup [.nils, .int .i64 (opS n [] ls).1]) H)
    (h0 : (opS n [] ls).1 = 0 → Q (.tup [outL 1 (us (opS n [] ls).2), .int .i64 0]) H) : WpCall E pure base bar 68 [.agg [.int .i64 (n : Int), q]] H Q := by
  have hb : (decide (1 ≤ (n : Int)) && decide ((n : Int) ≤ 6)) = true := by
    rw [Bool.and_eq_true, decide_eq_true_eq, decide_eq_true_eq]; omega
  rw [call68]
  simp [go_sem, WpFun, c68, hq.frz, box0]
  refine k79 ?_
  rw [hb]
  simp [go_sem, box1, hq.len]
  refine l68 (H0 := H ++ [.row 0 [.int .i64 (n : Int), q] 0 true]) h1 hn hq hl hll (own_get0 (l := [.row 0 [.int .i64 (n : Int), q] 0 true]) |>.trans rfl) (by cases pure <;> simp <;> omega) (by simp) ls.length 0 [] .nils _ (by omega) (by simp) (by exact Grow.nil) (fun e H' he1 hne htk => ?_) (fun v' H' he1 g => ?_)
  · rw [List.drop_zero] at he1
    have hh : H'.take H.length = H := by
      have : H'.take H.length = (H'.take (H.length + 1)).take H.length := by rw [List.take_take, Nat.min_eq_left (by omega)]
      rw [this]
      rw [List.length_append, List.length_singleton] at htk
      rw [htk]; simp
    have := he (by rw [he1]; exact hne)
    rw [he1] at this
    simp [go_sem, hh]
    exact this
  · rw [List.drop_zero] at he1 g
    have := h0 he1
    simp [go_sem]
    refine goutU (vs := [.int .i64 0]) (fun c hc => by simp at hc; subst hc; exact Plain.int) rfl g (by cases pure <;> simp <;> omega) (by simp) ?_
    simp
    exact this
end Go.Proofs.YtbkhffakhggdaaaDoor.Code
end
section
namespace Go.Proofs.YtbkhffakhggdaaaDoor.Code
open Go Go.Ab
variable {pure : Bool} {base bar : Nat} {H : Heap} {Q : AV → Heap → Prop} {K : AV → Heap → List Nat → Prop}
/-! 91, 90: which set contains one -/
def ixP (a : Nat) : List Nat → Nat → Option Nat
  | [], _ => none
  | b :: r, k => if a ≠ b ∧ subB a b = true then some k else ixP a r (k + 1)
theorem k91 {id ver fz a b : Nat} {ex : Bool} (hid : H[id]? = some (.row ver [.int .u64 (a : Int)] fz ex)) (ha : a < 64) (hb : b < 64) (h : Q (.bool (decide (a ≠ b ∧ subB a b = true))) H) : WpCall E pure base bar 91 [.int .u64 (b : Int), .ptr id ver 0] H Q := by
  have hlt := (List.getElem?_eq_some_iff.1 hid).1
  have ld : aload H ⟨false, 1⟩ (.ptr id ver 0) = some (.int .u64 (a : Int)) := by rw [aload_ptr hid]; rfl
  have hz := cl6_zero ha hb
  rw [call91]
  by_cases hab : a = b
  · subst hab
    simp at h
    simp [go_sem, WpFun, c91, ld]
    exact h
  · have hab' : ¬ ((a : Int) = (b : Int)) := by omega
    cases hc : subB a b
    · rw [hc] at h hz
      simp at h
      have hz' : ¬ cl6 a b = 0 := fun e => by have := hz.1 e; cases this
      have hz2 : (((cl6 a b : Nat) : Int) == 0) = false := by simpa using hz'
      simp [go_sem, WpFun, c91, ld, hab', cl6_u ha hb, hz2]
      exact h
    · rw [hc] at h hz
      simp [hab] at h
      simp [go_sem, WpFun, c91, ld, hab', cl6_u ha hb, hz.2 rfl]
      exact h
theorem l90 {id ver fz a : Nat} {ex : Bool} {v : AV} {S : List Nat} (hv : isU v S) (hS : ∀ x ∈ S, x < 64) (hl : S.length < 1000000) (ha : a < 64) (hid : H[id]? = some (.row ver [.int .u64 (a : Int)] fz ex)) {R : PQ} : ∀ (c k : Nat), k + c = S.length →
    (ixP a (S.drop k) k = none → R (.exit 0) [(0, v), (1, .fn 91 [] [.ptr id ver 0]), (7, .int .i64 (S.length : Nat)), (8, .int .i64 (S.length : Nat)), (9, .bool false)] H) →
    (∀ j : Nat, ixP a (S.drop k) k = some j → R .ret [(4, .int .i64 (j : Nat))] H) →
    Wp E base bar (.loop c90_l0) [(0, v), (1, .fn 91 [] [.ptr id ver 0]), (7, .int .i64 (S.length : Nat)), (8, .int .i64 (k : Nat))] H R := by
  intro c
  induction c with
  | zero =>
    intro k hk h1 h2
    obtain rfl : k = S.length := by omega
    rw [List.drop_length] at h1
    rw [wp_round c90_l0.eq_1]
    simp [go_sem]
    exact h1 rfl
  | succ c ih =>
    intro k hk h1 h2
    have hlt : k < S.length := by omega
    rw [List.drop_eq_getElem_cons hlt] at h1 h2
    have hb := hS _ (List.getElem_mem hlt)
    have hix := fun (K : AV → Heap → List Nat → Prop) (q : IntKind) => hv.ix (H := H) (K := K) (k := q) hlt
    generalize S[k] = b at *
    simp only [ixP] at h1 h2
    rw [wp_round c90_l0.eq_1]
    simp [go_sem, hlt, hix]
    refine k91 hid ha hb ?_
    by_cases hc : a ≠ b ∧ subB a b = true
    · rw [if_pos hc] at h2
      have := h2 k rfl
      simp [go_sem, hc]
      exact this
    · rw [if_neg hc] at h1 h2
      have next := ih (k + 1) (by omega) h1 h2
      rw [decide_eq_false hc]
      simp [go_sem, i64_suc (show k < 1000000 by omega)]
      exact next
theorem k90 {id ver fz a : Nat} {ex : Bool} {v : AV} {S : List Nat} (hv : isU v S) (hS : ∀ x ∈ S, x < 64) (hl : S.length < 1000000) (ha : a < 64) (hid : H[id]? = some (.row ver [.int .u64 (a : Int)] fz ex))
    (h1 : ixP a S 0 = none → Q (.int .i64 (-1)) H) (h2 : ∀ j : Nat, ixP a S 0 = some j → Q (.int .i64 (j : Nat)) H) : WpCall E pure base bar 90 [v, .fn 91 [] [.ptr id ver 0]] H Q := by
  rw [call90]
  simp [go_sem, WpFun, c90, hv.frz, hv.len]
  refine l90 hv hS hl ha hid S.length 0 (by omega) (fun hc => ?_) (fun j hc => ?_)
  · rw [List.drop_zero] at hc
    simp [go_sem]
    exact h1 hc
  · rw [List.drop_zero] at hc
    simp [go_sem]
    exact h2 j hc
/-! 37: two trays, one inside the other -/
def conS (S : List Nat) : List Nat → Nat → Option (Nat × Nat)
  | [], _ => none
  | a :: r, i => match ixP a S 0 with
    | some k => some (i, k)
    | none => conS S r (i + 1)
theorem l37 {v : AV} {S : List Nat} (hv : isU v S) (hS : ∀ x ∈ S, x < 64) (hl : S.length < 1000000) (hb : bar ≤ H.length) {R : PQ} : ∀ (c i : Nat), i + c = S.length →
    (conS S (S.drop i) i = none → R (.exit 0) [(5, v), (17, v), (18, .int .i64 (S.length : Nat)), (19, .int .i64 (S.length : Nat)), (20, .bool false)] H) →
    (∀ p : Nat × Nat, conS S (S.drop i) i = some p → ∀ H', H'.take H.length = H → R .ret [(2, .int .i64 (p.1 : Nat)), (3, .int .i64 (p.2 : Nat)), (4, .int .i64 0)] H') →
    Wp E base bar (.loop c37_l0) [(5, v), (17, v), (18, .int .i64 (S.length : Nat)), (19, .int .i64 (i : Nat))] H R := by
  intro c
  induction c with
  | zero =>
    intro i hi h1 h2
    obtain rfl : i = S.length := by omega
    rw [List.drop_length] at h1
    rw [wp_round c37_l0.eq_1]
    simp [go_sem]
    exact h1 rfl
  | succ c ih =>
    intro i hi h1 h2
    have hlt : i < S.length := by omega
    rw [List.drop_eq_getElem_cons hlt] at h1 h2
    have ha := hS _ (List.getElem_mem hlt)
    have hix := fun (K : AV → Heap → List Nat → Prop) (q : IntKind) => hv.ix (H := H) (K := K) (k := q) hlt
    have hix' := fun (b : Blk) (K : AV → Heap → List Nat → Prop) (q : IntKind) => hv.ix (H := H ++ [b]) (K := K) (k := q) hlt
    generalize S[i] = a at *
    simp only [conS] at h1 h2
    rw [wp_round c37_l0.eq_1]
    simp [go_sem, hlt, hix, hix', storeWp_ptr, storeWp, astore, setCells, own_set0, hb]
    refine k90 (id := H.length) (ver := 0) (fz := 0) (ex := true) hv hS hl ha (own_get0 (l := [.row 0 [.int .u64 (a : Int)] 0 true]) |>.trans rfl) (fun hc => ?_) (fun j hc => ?_)
    · rw [hc] at h1 h2
      have next := ih (i + 1) (by omega) h1 h2
      simp [go_sem, i64_suc (show i < 1000000 by omega), hv.top]
      exact next
    · rw [hc] at h2
      have := h2 _ rfl
      simp [go_sem]
      exact this _ (by simp)
end Go.Proofs.YtbkhffakhggdaaaDoor.Code
end
section
namespace Go.Proofs.YtbkhffakhggdaaaDoor.Code
open Go Go.Ab
variable {pure : Bool} {base bar : Nat} {H : Heap} {Q : AV → Heap → Prop} {K : AV → Heap → List Nat → Prop}
theorem opS_lt {n : Nat} (h1 : 1 ≤ n) (hn : n ≤ 6) : ∀ {ls : List (List Int)} {done : List Nat}, (∀ x ∈ done, x < pw n) → (opS n done ls).1 = 0 → (∀ x ∈ (opS n done ls).2, x < pw n)
  | [], done, hd, _ => hd
  | l :: r, done, hd, h => by
    simp only [opS] at h ⊢
    by_cases he : errT n (-1) l = 0
    · rw [if_neg (by simpa using he)] at h ⊢
      cases hc : done.contains (orT 0 l)
      · rw [hc] at h
        simp only [Bool.false_eq_true, if_false] at h ⊢
        exact opS_lt h1 hn (fun x hx => by
          rcases List.mem_append.1 hx with hx | hx
          · exact hd x hx
          · simp at hx; subst hx; exact (dyL_of h1 hn he).1) h
      · rw [hc] at h; simp at h
    · rw [if_pos he] at h; exact (he h).elim
theorem pw6 {n x : Nat} (hn : n ≤ 6) (h : x < pw n) : x < 64 := Nat.lt_of_lt_of_le h (Nat.le_trans (Nat.pow_le_pow_right (by decide) hn) (by decide : 2 ^ 6 ≤ 64))
theorem opS_len {n : Int} : ∀ {ls : List (List Int)} {done : List Nat}, (opS n done ls).2.length ≤ done.length + ls.length
  | [], done => by simp [opS]
  | l :: r, done => by
    simp only [opS]
    split
    · simp
    · split
      · simp
      · have := opS_len (n := n) (ls := r) (done := done ++ [orT 0 l])
        simp at this ⊢; omega
theorem k37 {n : Nat} {q : AV} {ls : List (List Int)} (h1 : 1 ≤ n) (hn : n ≤ 6) (hq : isVV q ls) (hl : ls.length < 1000) (hll : ∀ l ∈ ls, l.length < 1000) (hbar : bar ≤ H.length)
    (he : (opS n [] ls).1 ≠ 0 → Q (.tup [.int .i64 0, .int .i64 0, .int .i64 (opS n [] ls).1]) H)
    (h0 : (opS n [] ls).1 = 0 → conS (opS n [] ls).2 (opS n [] ls).2 0 = none → Q (.tup [.int .i64 0, .int .i64 0, .int .i64 12]) H)
    (hp : ∀ p : Nat × Nat, (opS n [] ls).1 = 0 → conS (opS n [] ls).2 (opS n [] ls).2 0 = some p → Q (.tup [.int .i64 (p.1 : Nat), .int .i64 (p.2 : Nat), .int .i64 0]) H) : WpCall E pure base bar 37 [.agg [.int .i64 (n : Int), q]] H Q := by
  have hlt := fun h => opS_lt h1 hn (ls := ls) (done := []) (by simp) h
  have hlen := opS_len (n := n) (ls := ls) (done := [])
  have hbp : (if pure = true then H.length else bar) ≤ H.length := by cases pure <;> simp <;> omega
  rw [call37]
  simp [go_sem, WpFun, c37, hq.frz, box2]
  refine k68 h1 hn hq hl hll (by cases pure <;> simp <;> omega) (fun e => ?_) (fun e => ?_)
  · have := he e
    simp [go_sem, e]
    exact this
  · have hu : isU (outL 1 (us (opS n [] ls).2)) (opS n [] ls).2 := isU.out
    generalize outL 1 (us (opS n [] ls).2) = w at *
    generalize hS : (opS n [] ls).2 = S at *
    have h0 := h0 e
    have hp := fun p => hp p e
    simp [go_sem, hu.len]
    refine l37 hu (fun x hx => pw6 hn (hlt e x hx)) (by simp at hlen; omega) (by simp; omega) S.length 0 (by omega) (fun hc => ?_) (fun p hc H' ht => ?_)
    · rw [List.drop_zero] at hc
      simp [go_sem]
      exact h0 hc
    · rw [List.drop_zero] at hc
      have hh : H'.take H.length = H := by
        have : H'.take H.length = (H'.take (H.length + 1)).take H.length := by rw [List.take_take, Nat.min_eq_left (by omega)]
        rw [this]
        rw [List.length_append, List.length_singleton] at ht
        rw [ht]; simp
      simp [go_sem, hh]
      exact hp p hc
/-! 51: the shelf of sets -/
theorem gslot {sz : Nat} {cells : List AV} {H0 : Heap} {v : AV} (g : Grow sz cells H0 v H) : v.isTup = false ∧ v.cells = [v] := by
  rcases g with ⟨_, rfl, _⟩ | ⟨_, _, _, _, rfl, _⟩ <;> exact ⟨rfl, rfl⟩
theorem l51 {n : Nat} {q : AV} {S : List Nat} (hq : isL q S) (hS : ∀ x ∈ S, x < 64) (hl : S.length < 1000000) {H0 : Heap} {b4 : Blk} (hb : bar ≤ H0.length) (hbase : base ≤ H0.length) {R : PQ} : ∀ (c i : Nat) (v : AV) (H : Heap), i + c = S.length →
    Grow 1 (dys (S.take i)) (H0 ++ [b4, .row 0 [.int .i64 (n : Int), v] 0 true]) v H →
    (∀ v' H', Grow 1 (dys S) (H0 ++ [b4, .row 0 [.int .i64 (n : Int), v'] 0 true]) v' H' → R (.exit 0) [(4, .ptr H0.length 0 0), (5, .ptr (H0.length + 1) 0 0), (10, q), (11, .int .i64 (S.length : Nat)), (12, .int .i64 (S.length : Nat)), (13, .bool false)] H') →
    Wp E base bar (.loop c51_l0) [(4, .ptr H0.length 0 0), (5, .ptr (H0.length + 1) 0 0), (10, q), (11, .int .i64 (S.length : Nat)), (12, .int .i64 (i : Nat))] H R := by
  intro c
  induction c with
  | zero =>
    intro i v H hi g h
    obtain rfl : i = S.length := by omega
    rw [List.take_length] at g
    rw [wp_round c51_l0.eq_1]
    simp [go_sem]
    exact h _ _ g
  | succ c ih =>
    intro i v H hi g h
    have hlt : i < S.length := by omega
    have hx := hS _ (List.getElem_mem hlt)
    have hix := fun (K : AV → Heap → List Nat → Prop) (k : IntKind) => hq.ix (H := H) (K := K) (k := k) hlt
    have htk : S.take (i + 1) = S.take i ++ [S[i]] := by rw [List.take_succ, List.getElem?_eq_getElem hlt]; rfl
    generalize S[i] = x at *
    have hid : H[H0.length + 1]? = some (.row 0 [.int .i64 (n : Int), v] 0 true) := g.get (own_get (H := H0) (l := [b4, .row 0 [.int .i64 (n : Int), v] 0 true]) (k := 1) |>.trans rfl)
    have ld : aload H ⟨false, 1⟩ (.ptr (H0.length + 1) 0 1) = some v := by rw [aload_ptr hid]; rfl
    have hgl := g.len
    have ld' : aload H ⟨false, 1⟩ (.fp (.int .i64 (x : Int))) = some (.int .i64 (x : Int)) := rfl
    rw [wp_round c51_l0.eq_1]
    simp [go_sem, hlt, hix, ld, ld']
    refine (call47 hx).2 ?_
    simp [go_sem, dy_isTup, dy_cells, dy_frz, aop, fillA, setCells, chunks, AV.noVec.noVecs, dy_noVec, AV.noVec]
    rw [wpop_app]
    simp [Opd.ev, go_sem]
    refine gdys g (by simp; omega) (by simp; omega) (by simp; omega) fun v' H' tc g' => ?_
    have hid' : H'[H0.length + 1]? = some (.row 0 [.int .i64 (n : Int), v] 0 true) := g'.get (own_get (H := H0) (l := [b4, .row 0 [.int .i64 (n : Int), v] 0 true]) (k := 1) |>.trans rfl)
    have hst := fun (K : AV → Heap → List Nat → Prop) => storeWp_ptr (base := base) (bar := bar) (size := 1) (K := K) (off := 1) (v := v') hid' (gslot g').1 (by rw [(gslot g').2]; rfl) (by omega) (by simp) (by omega) (.inl (by omega))
    have g2 := g'.set (i := H0.length + 1) (b := .row 0 [.int .i64 (n : Int), v'] 0 true) (by simp)
    rw [own_set] at g2
    have next := ih (i + 1) v' _ (by omega) (by rw [htk]; exact g2) h
    simp [go_sem, hst]
    simp [(gslot g').2, setCells, i64_suc (show i < 1000000 by omega)]
    exact next
theorem k51 {n : Nat} {q : AV} {S : List Nat} (hq : isL q S) (hS : ∀ x ∈ S, x < 64) (hl : S.length < 1000000) (hbar : bar ≤ H.length) (h : Q (.agg [.int .i64 (n : Int), outL 1 (dys S)]) H) :
    WpCall E pure base bar 51 [.int .i64 (n : Int), q] H Q := by
  rw [call51]
  have hbp : (if pure = true then H.length else bar) ≤ H.length := by cases pure <;> simp <;> omega
  have hb1 : (if pure = true then H.length else bar) ≤ H.length + 1 := by omega
  simp [go_sem, WpFun, c51, hq.frz, hq.len]
  generalize (if pure = true then H.length else bar) = bar' at *
  simp [go_sem, storeWp, astore, own_get, own_set, setCells, hb1, AV.top.tops, AV.top, hq.len]
  refine l51 (n := n) (H0 := H) (b4 := .row 0 [.int .i64 0, .nils] 0 true) hq hS hl hbp (Nat.le_refl _) S.length 0 .nils _ (by omega) (by exact Grow.nil) fun v' H' g => ?_
  have hid : H'[H.length + 1]? = some (.row 0 [.int .i64 (n : Int), v'] 0 true) := g.get (own_get (H := H) (l := [.row 0 [.int .i64 0, .nils] 0 true, .row 0 [.int .i64 (n : Int), v'] 0 true]) (k := 1) |>.trans rfl)
  have hid4 : H'[H.length]? = some (.row 0 [.int .i64 0, .nils] 0 true) := g.get (own_get0 (H := H) (l := [.row 0 [.int .i64 0, .nils] 0 true, .row 0 [.int .i64 (n : Int), v'] 0 true]) |>.trans rfl)
  have ld : aload H' ⟨true, 2⟩ (.ptr (H.length + 1) 0 0) = some (.agg [.int .i64 (n : Int), v']) := by rw [aload_ptr hid]; rfl
  have hst := fun (K : AV → Heap → List Nat → Prop) => storeWp_ptr (base := H.length) (bar := bar') (size := 2) (K := K) (off := 0) (v := .agg [.int .i64 (n : Int), v']) hid4 rfl rfl (by omega) (by simp) hbp (.inl (by omega))
  simp [go_sem, ld, hst]
  have g2 := g.set (i := H.length) (b := .row 0 [.int .i64 (n : Int), v'] 0 true) (by simp)
  rw [own_set0] at g2
  have hid5 : (H'.set H.length (.row 0 [.int .i64 (n : Int), v'] 0 true))[H.length]? = some (.row 0 [.int .i64 (n : Int), v'] 0 true) := set_get hid4
  generalize H'.set H.length (.row 0 [.int .i64 (n : Int), v'] 0 true) = H2 at *
  have ld2 : aload H2 ⟨true, 2⟩ (.ptr H.length 0 0) = some (.agg [.int .i64 (n : Int), v']) := by rw [aload_ptr hid5]; rfl
  obtain ⟨H3, f1, f2, f3, f4⟩ := g2.frz (d := 4) (bar := bar') (by decide) (Nat.one_dvd _) dys_plain (by simp; omega)
  have hl : leave 0 H.length bar' [.agg [.int .i64 (n : Int), v']] H2 = some (.agg [.int .i64 (n : Int), outL 1 (dys S)], H) := by
    refine (leave0_of (vs' := [.agg [.int .i64 (n : Int), outL 1 (dys S)]]) (H' := H3) ?_ ?_).trans ?_
    · simp only [frzAll, frz.frzs, frzsW]
      rw [show frz 8 bar' H2 (.agg [.int .i64 (n : Int), v']) = some (.agg [.int .i64 (n : Int), outL 1 (dys S)], H3) by
        rw [frz_agg]
        simp only [frzsW, frz_int, f1]]
    · have := isS.top (S := S) isS.out
      simp [AV.top.tops, AV.top, this]
    · have : H3.take H.length = H := by
        have e : H3.take H.length = (H3.take (H.length + 2)).take H.length := by rw [List.take_take, Nat.min_eq_left (by omega)]
        rw [e, show H.length + 2 = (H ++ [Blk.row 0 [.int .i64 (n : Int), v'] 0 true, Blk.row 0 [.int .i64 (n : Int), v'] 0 true]).length by simp]
        have f4' : List.take (H ++ [Blk.row 0 [.int .i64 (n : Int), v'] 0 true, Blk.row 0 [.int .i64 (n : Int), v'] 0 true]).length H3 = H ++ [Blk.row 0 [.int .i64 (n : Int), v'] 0 true, Blk.row 0 [.int .i64 (n : Int), v'] 0 true] := f4
        rw [f4']; simp
      rw [this]; rfl
  rw [ld2]
  simp [go_sem, hl]
  exact h
end Go.Proofs.YtbkhffakhggdaaaDoor.Code
end
section
namespace Go.Proofs.YtbkhffakhggdaaaDoor.Code
open Go Go.Ab
variable {pure : Bool} {base bar : Nat} {H : Heap} {Q : AV → Heap → Prop} {K : AV → Heap → List Nat → Prop}
/-! 52: a drawer's sets -/
def isB (v : AV) (l : List Nat) : Prop := ((v = .nils ∧ l = []) ∨ ∃ ex, v = .lst 1 ex (l.map fun (x : Nat) => .int .u8 (x : Int))) ∧ ∀ x ∈ l, x < 256
theorem isB.len {v : AV} {l : List Nat} (h : isB v l) : lenWp (some v) H K = K (.int .i64 (l.length : Int)) H [] := by
  rcases h.1 with ⟨rfl, rfl⟩ | ⟨ex, rfl⟩
  · rfl
  · rw [lenWp_lst]; simp
theorem isB.frz {v : AV} {l : List Nat} (h : isB v l) {d : Nat} : frz (d + 1) bar H v = some (v, H) := by
  rcases h.1 with ⟨rfl, rfl⟩ | ⟨ex, rfl⟩ <;> rfl
theorem isB.cells {v : AV} {l : List Nat} (h : isB v l) : v.cells = [v] := by
  rcases h.1 with ⟨rfl, rfl⟩ | ⟨ex, rfl⟩ <;> rfl
theorem isB.ix {v : AV} {l : List Nat} (h : isB v l) {k : IntKind} {i : Nat} (hi : i < l.length) : ixaSWp 1 (some v) (some (.int k (i : Int))) H K = K (.fp (.int .u8 ((l[i] : Nat) : Int))) H [] := by
  rcases h.1 with ⟨rfl, rfl⟩ | ⟨ex, rfl⟩
  · simp at hi
  · rw [ixaSWp_lst]
    simp only [Int.toNat_natCast]
    rw [show (l.map fun (x : Nat) => AV.int .u8 (x : Int))[i]? = some (.int .u8 ((l[i] : Nat) : Int)) by simp [List.getElem?_eq_getElem hi]]
    simp [valWp_some]
/-- the sets of bytes, those that come again left out -/
def madeS (p : Nat) : List Nat → List Nat → List Nat
  | acc, [] => acc
  | acc, t :: r => madeS p (if acc.contains (t % p) then acc else acc ++ [t % p]) r
theorem madeS_mem {p : Nat} (hp : 0 < p) : ∀ {l acc : List Nat}, (∀ x ∈ acc, x < p) → ∀ x ∈ madeS p acc l, x < p
  | [], acc, h => h
  | t :: r, acc, h => by
    refine madeS_mem hp (l := r) ?_
    split
    · exact h
    · intro x hx
      rcases List.mem_append.1 hx with hx | hx
      · exact h x hx
      · simp at hx; subst hx; exact Nat.mod_lt _ hp
theorem madeS_nodup {p : Nat} : ∀ {l acc : List Nat}, acc.Nodup → (madeS p acc l).Nodup
  | [], acc, h => h
  | t :: r, acc, h => by
    refine madeS_nodup (l := r) ?_
    split
    · exact h
    · rename_i hc
      rw [List.nodup_append]
      refine ⟨h, by simp, fun a ha b hb => ?_⟩
      simp at hb; subst hb
      intro e; subst e
      exact hc (by simpa using ha)
theorem nodup_len {p : Nat} {l : List Nat} (h : l.Nodup) (hp : ∀ x ∈ l, x < p) : l.length ≤ p := by
  have key : ∀ (m : List Nat) (l : List Nat), l.Nodup → (∀ x ∈ l, x ∈ m) → l.length ≤ m.length := by
    intro m
    induction m with
    | nil =>
      intro l _ h
      cases l with
      | nil => simp
      | cons a r => exact (List.not_mem_nil (h a (List.mem_cons_self ..))).elim
    | cons b m ih =>
      intro l hd h
      have h1 := ih (l.erase b) (hd.erase b) (fun x hx => by
        have hne : x ≠ b := fun e => by subst e; exact hd.not_mem_erase hx
        rcases List.mem_cons.1 (h x (List.mem_of_mem_erase hx)) with e | e
        · exact (hne e).elim
        · exact e)
      have h2 : l.length ≤ (l.erase b).length + 1 := by rw [List.length_erase]; split <;> omega
      simp; omega
  have := key (List.range p) l h fun x hx => List.mem_range.2 (hp x hx)
  simpa using this
theorem k49g {v : AV} {l : List Nat} {x : Nat} {H0 : Heap} (g : Grow 1 (nats l) H0 v H) (hb : bar ≤ H0.length) (hl : l.length < 1000000) (h : ∀ H2, Grow 1 (nats l) H0 v H2 → H2.length = H.length → Q (.bool (l.contains x)) H2) : WpCall E pure base bar 49 [v, .int .i64 (x : Nat)] H Q := by
  obtain ⟨H2, f1, f2, f3⟩ := gfrz (bar := bar) g (by decide) (Nat.one_dvd _) nats_plain hb
  have hu : isL (outL 1 (nats l)) l := isL.out
  have h := h H2 f2 f3
  rw [call49]
  simp [go_sem, WpFun, c49, f1]
  generalize outL 1 (nats l) = w at *
  rw [call96]
  simp [go_sem, WpFun, c96, hu.frz, hu.len]
  refine l96 hu hl l.length 0 (by omega) (fun hc => ?_) (fun hc j => ?_)
  all_goals
    rw [List.drop_zero] at hc
    rw [hc] at h
    simp [go_sem]
    exact h
theorem l52 {n : Nat} {q : AV} {bs : List Nat} (hn : n ≤ 6) (hq : isB q bs) (hl : bs.length < 9223372036854775808) {H0 : Heap} (hb : bar ≤ H0.length) (hbase : base ≤ H0.length) {R : PQ} : ∀ (c i : Nat) (acc : List Nat) (v : AV) (H : Heap), i + c = bs.length →
    acc.Nodup → (∀ x ∈ acc, x < pw n) → Grow 1 (nats acc) H0 v H →
    (∀ v' H', Grow 1 (nats (madeS (pw n) acc (bs.drop i))) H0 v' H' → R (.exit 0) [(6, .int .i64 (n : Int)), (7, v'), (18, q), (19, .int .i64 (bs.length : Nat)), (20, .int .i64 (bs.length : Nat)), (21, .bool false)] H') →
    Wp E base bar (.loop c52_l0) [(6, .int .i64 (n : Int)), (7, v), (18, q), (19, .int .i64 (bs.length : Nat)), (20, .int .i64 (i : Nat))] H R := by
  have hp : pw n ≤ 64 := Nat.le_trans (Nat.pow_le_pow_right (by decide) hn) (by decide : 2 ^ 6 ≤ 64)
  have hpp : 0 < pw n := pw_pos
  have hsh := shl_i64 (n := n) (by omega)
  have hpn : ((pw n : Nat) : Int) ≠ 0 := by omega
  intro c
  induction c with
  | zero =>
    intro i acc v H hi hnd hacc g h
    obtain rfl : i = bs.length := by omega
    rw [List.drop_length] at h
    rw [wp_round c52_l0.eq_1]
    simp [go_sem]
    exact h _ _ g
  | succ c ih =>
    intro i acc v H hi hnd hacc g h
    have hlt : i < bs.length := by omega
    rw [List.drop_eq_getElem_cons hlt] at h
    have hx := hq.2 _ (List.getElem_mem hlt)
    have hix := fun (K : AV → Heap → List Nat → Prop) (k : IntKind) => hq.ix (H := H) (K := K) (k := k) hlt
    generalize bs[i] = t at *
    simp only [madeS] at h
    have hw : IntKind.i64.wrap ((i : Int) + 1) = ((i + 1 : Nat) : Int) := by rw [show (i : Int) + 1 = ((i + 1 : Nat) : Int) by omega, i64_nat (by omega)]
    have r3 : (t : Int).tmod ((pw n : Nat) : Int) = ((t % pw n : Nat) : Int) := (rest_mod (a := t) (k := pw n) hpp).tmod
    have hal := nodup_len hnd hacc
    have hm : t % pw n < pw n := Nat.mod_lt _ hpp
    generalize t % pw n = m at *
    generalize pw n = pm at *
    rw [wp_round c52_l0.eq_1]
    simp [go_sem, hlt, hix, i64_nat (show t < 9223372036854775808 by omega), hsh, abin_rem hpn, r3]
    refine k49g g hb (by omega) fun H2 g2 hl2 => ?_
    cases hc : acc.contains m
    · rw [hc] at h
      simp only [Bool.false_eq_true, if_false] at h
      simp [go_sem, aop, fillA, setCells, chunks, AV.noVec.noVecs, AV.noVec]
      rw [wpop_app]
      simp [Opd.ev, go_sem]
      refine g2.nat hb hbase (by omega) fun v' H' tc g' => ?_
      have next := ih (i + 1) (acc ++ [m]) v' H' (by omega) (by
        rw [List.nodup_append]
        refine ⟨hnd, by simp, fun a ha b hb => ?_⟩
        simp at hb; subst hb
        intro e; subst e
        rw [show acc.contains a = true by simpa using ha] at hc; cases hc) (fun x hx => by
        rcases List.mem_append.1 hx with hx | hx
        · exact hacc x hx
        · simp at hx; subst hx; exact hm) g' h
      simp [go_sem, hw]
      exact next
    · rw [hc] at h
      simp only [if_true] at h
      have next := ih (i + 1) acc v H2 (by omega) hnd hacc g2 h
      simp [go_sem, hw]
      exact next
theorem k52 {d m : Nat} {q : AV} {bs : List Nat} (hd : d < 256) (hm : 1 ≤ m) (hm6 : m ≤ 6) (hq : isB q bs) (hl : bs.length < 9223372036854775808) (hbar : bar ≤ H.length)
    (h : Q (.tup [.int .i64 ((d % m + 1 : Nat) : Int), outL 1 (nats (madeS (pw (d % m + 1)) [] bs))]) H) : WpCall E pure base bar 52 [.agg [.int .u8 (d : Nat), q], .int .i64 (m : Int)] H Q := by
  have hbp : (if pure = true then H.length else bar) ≤ H.length := by cases pure <;> simp <;> omega
  have r3 : (d : Int).tmod (m : Int) = ((d % m : Nat) : Int) := (rest_mod (a := d) (k := m) (by omega)).tmod
  have hmn : (m : Int) ≠ 0 := by omega
  have hlt : d % m < m := Nat.mod_lt _ (by omega)
  have hw : IntKind.i64.wrap (1 + ((d % m : Nat) : Int)) = ((d % m + 1 : Nat) : Int) := by rw [show 1 + ((d % m : Nat) : Int) = ((d % m + 1 : Nat) : Int) by omega, i64_nat (by omega)]
  rw [call52]
  generalize hn : d % m + 1 = n at *
  generalize d % m = e at *
  simp [go_sem, WpFun, c52, hq.frz, hq.cells, box0, box1, i64_nat (show d < 9223372036854775808 by omega), abin_rem hmn, r3, hw, hq.len]
  generalize (if pure = true then H.length else bar) = bar' at *
  refine l52 (n := n) (H0 := H ++ [.row 0 [.int .u8 (d : Int), q] 0 true]) (by omega) hq hl (by simp; omega) (by simp) bs.length 0 [] .nils _ (by omega) (by simp) (by simp) (by exact Grow.nil) fun v' H' g => ?_
  rw [List.drop_zero] at g
  obtain ⟨H2, f1, f2, f3, f4⟩ := g.frz (d := 5) (bar := bar') (by decide) (Nat.one_dvd _) nats_plain (by simp; omega)
  have ht : (outL 1 (nats (madeS (pw n) [] bs))).top = 0 := isL.out.top
  have hh : H2.take H.length = H := by
    have e : H2.take H.length = (H2.take (H.length + 1)).take H.length := by rw [List.take_take, Nat.min_eq_left (by omega)]
    rw [e, show H.length + 1 = (H ++ [Blk.row 0 [.int .u8 (d : Int), q] 0 true]).length by simp]
    rw [f4]; simp
  simp [go_sem, f1, ht, hh]
  exact h
end Go.Proofs.YtbkhffakhggdaaaDoor.Code
end
section
namespace Go.Proofs.YtbkhffakhggdaaaDoor.Code
open Go Go.Ab
variable {pure : Bool} {base bar : Nat} {H : Heap} {Q : AV → Heap → Prop} {K : AV → Heap → List Nat → Prop}
end Go.Proofs.YtbkhffakhggdaaaDoor.Code
end
section
namespace Go.Proofs.YtbkhffakhggdaaaDoor.Code
open Go Go.Ab
variable {pure : Bool} {base bar : Nat} {H : Heap} {Q : AV → Heap → Prop} {K : AV → Heap → List Nat → Prop}
theorem take_same {k : Nat} {H H' : Heap} (h : ∀ j, j < k → H'[j]? = H[j]?) : H'.take k = H.take k := by
  apply List.ext_getElem?
  intro j
  rw [List.getElem?_take, List.getElem?_take]
  split
  · rename_i hj; exact h j hj
  · rfl
end Go.Proofs.YtbkhffakhggdaaaDoor.Code
end
end
section
set_option linter.all false
section
namespace Go.Proofs.YtbkhffakhggdaaaDoor.Code
open Go Go.Ab
variable {pure : Bool} {base bar : Nat} {H : Heap} {Q : AV → Heap → Prop} {K : AV → Heap → List Nat → Prop}
/-! a shelf of sets is valid; containing, by numbers and by sets -/
theorem dyL_ok {n x : Nat} (h1 : 1 ≤ n) (h6 : n ≤ 6) (hx : x < pw n) : errT n (-1) (dyL x) = 0 ∧ orT 0 (dyL x) = x := by
  have : ∀ n : Nat, n ≤ 6 → ∀ x, x < 2 ^ n → errT (n : Int) (-1) (dyL x) = 0 ∧ orT 0 (dyL x) = x := by decide +kernel
  exact this n h6 x hx
theorem opS_valid {n : Nat} (h1 : 1 ≤ n) (h6 : n ≤ 6) : ∀ {D done : List Nat}, (∀ x ∈ D, x < pw n) → (done ++ D).Nodup → opS n done (D.map dyL) = (0, done ++ D)
  | [], done, _, _ => by simp [opS]
  | x :: r, done, hD, hnd => by
    obtain ⟨e1, e2⟩ := dyL_ok h1 h6 (hD x (List.mem_cons_self ..))
    simp only [List.map_cons, opS, e1, e2]
    have hc : done.contains x = false := by
      rw [List.nodup_append] at hnd
      have : x ∉ done := fun hx => hnd.2.2 x hx x (List.mem_cons_self ..) rfl
      simpa using this
    rw [if_neg (by simp), hc]
    simp only [Bool.false_eq_true, if_false]
    rw [opS_valid h1 h6 (fun y hy => hD y (List.mem_cons_of_mem _ hy)) (by rw [List.append_assoc]; exact hnd), List.append_assoc]
    rfl
theorem ixP_none {a : Nat} : ∀ {S : List Nat} {k : Nat}, ixP a S k = none ↔ ∀ b ∈ S, ¬ (a ≠ b ∧ subB a b = true)
  | [], k => by simp [ixP]
  | b :: r, k => by
    simp only [ixP, List.forall_mem_cons]
    by_cases h : a ≠ b ∧ subB a b = true
    · simp [h]
    · rw [if_neg h, ixP_none (S := r)]
      simp [h]
theorem conS_none {S : List Nat} : ∀ {T : List Nat} {i : Nat}, conS S T i = none ↔ ∀ a ∈ T, ∀ b ∈ S, ¬ (a ≠ b ∧ subB a b = true)
  | [], i => by simp [conS]
  | a :: r, i => by
    simp only [conS, List.forall_mem_cons]
    cases h : ixP a S 0 with
    | none =>
      simp only
      rw [conS_none (T := r)]
      have := ixP_none.1 h
      exact ⟨fun hr => ⟨this, hr⟩, fun hr => hr.2⟩
    | some k =>
      simp only [reduceCtorEq, false_iff]
      intro hc
      rw [ixP_none.2 hc.1] at h
      cases h
end Go.Proofs.YtbkhffakhggdaaaDoor.Code
end
section
namespace Go.Proofs.YtbkhffakhggdaaaDoor.Code
open Go Go.Ab
variable {pure : Bool} {base bar : Nat} {H : Heap} {Q : AV → Heap → Prop} {K : AV → Heap → List Nat → Prop}
end Go.Proofs.YtbkhffakhggdaaaDoor.Code
end
section
namespace Go.Proofs.YtbkhffakhggdaaaDoor.Code
open Go Go.Ab Go.RowKit Go.ChangeShapes Go.WideShapes
variable {H : Type} {enc : TypeId × Value → H} {P : Program} {W : World} {spare : Nat → Bool} {held : Bool}
/-- a drawer by numbers as an argument -/
theorem drawer_vr {t e : TypeId} {f0 f1 : Field} {v : Value} {d : DataW H} {ps : List MemPlace} {r : Reach} {b0 : Nat}
    (ht : P.underlying t = some (.struct #[f0, f1])) (o0 : f0.offset = 0) (o1 : f1.offset = 1) (c0 : P.cellsOf f0.type = 1) (c1 : P.cellsOf f1.type = 1) (ct : P.cellsOf t = 2)
    (h0 : P.underlying f0.type = some (.int .u8)) (h1 : P.underlying f1.type = some (.slice e)) (he : P.underlying e = some (.int .u8)) (ce : P.cellsOf e = 1)
    (hct : P.cellTypes P.depth t = some [f0.type, f1.type]) (hval : Value.okWide P W r b0 t v) (hd : DataW.Trod enc P W 0 spare held t v d ps) :
    ∃ (n : Nat) (q : AV) (bs : List Nat), n < 256 ∧ VR (ctx0 W) (.agg [.int .u8 (n : Int), q]) v ∧ isB q bs ∧ bs.length < 9223372036854775808 := by
  unfold Value.okWide at hval
  rw [ht] at hval
  obtain ⟨cs, rfl, hcs, ts, hts, _, hcell⟩ := hval
  rw [hct] at hts
  cases hts
  obtain ⟨fuel, hd⟩ := hd
  obtain ⟨xs, m, _, _, hl, hxl, hx⟩ := DataW.trod_struct ht hd
  have g0 := hx 0 f0 rfl
  have g1 := hx 1 f1 rfl
  have hxl2 : xs.length = 2 := hxl
  rw [List.getElem?_eq_getElem (by omega), o0, c0] at g0
  rw [List.getElem?_eq_getElem (by omega), o1, c1] at g1
  have hl2 : cs.toList.length = 2 := by simpa [ct] using hcs
  obtain ⟨u0, u1, hu⟩ : ∃ u0 u1, cs.toList = [u0, u1] := by
    match cs.toList, hl2 with
    | [a, b], _ => exact ⟨a, b, rfl⟩
  have hcl : (Value.agg cs).cells = cs := rfl
  rw [hcl, hu] at g0 g1
  simp at g0 g1
  obtain ⟨z, hn, _, hw⟩ := DataW.trod_int h0 g0
  simp at hn
  subst hn
  obtain ⟨n, rfl, hn256⟩ := Ab.u8_wf hw
  have hcs1 : cs[1]? = some u1 := by
    have : cs.toList[1]? = some u1 := by rw [hu]; rfl
    simpa using this
  obtain ⟨u, hu1, hok⟩ := hcell 1 u1 hcs1
  simp at hu1
  subst hu1
  have hf : flatT P 1 e = true := by unfold flatT; rw [he]
  obtain ⟨q, q1, q2, q3⟩ := slice_vr (n := 1) h1 hf g1 hok
  have hP : ∃ bs, isB q bs ∧ bs.length < 9223372036854775808 := by
    rcases q3 with rfl | ⟨xs, rfl, hxs⟩
    · exact ⟨[], ⟨.inl ⟨rfl, rfl⟩, by simp⟩, by simp⟩
    · have each : ∀ x ∈ xs, ∃ n : Nat, x = .int .u8 (n : Int) ∧ n < 256 := fun x hx => by
        obtain ⟨ys, rfl, hs⟩ := hxs x hx
        unfold Sh at hs
        rw [he] at hs
        obtain ⟨z, rfl, hw⟩ := hs
        obtain ⟨n, rfl, hn⟩ := Ab.u8_wf hw
        exact ⟨n, by unfold wrapA; rw [he]; rfl, hn⟩
      have all : ∀ {xs : List AV}, (∀ x ∈ xs, ∃ n : Nat, x = .int .u8 (n : Int) ∧ n < 256) → ∃ bs : List Nat, xs = (bs.map fun (x : Nat) => AV.int .u8 (x : Int)) ∧ ∀ x ∈ bs, x < 256 := by
        intro xs
        induction xs with
        | nil => exact fun _ => ⟨[], rfl, by simp⟩
        | cons x r ih =>
          intro h
          obtain ⟨n, rfl, hn⟩ := h x (List.mem_cons_self ..)
          obtain ⟨l, rfl, hl⟩ := ih fun y hy => h y (List.mem_cons_of_mem _ hy)
          exact ⟨n :: l, rfl, fun y hy => by
            rcases List.mem_cons.1 hy with rfl | hy
            · exact hn
            · exact hl y hy⟩
      obtain ⟨bs, rfl, hbs⟩ := all each
      rw [ce] at q1 ⊢
      refine ⟨bs, ⟨.inr ⟨false, rfl⟩, hbs⟩, ?_⟩
      rcases DataW.trod_slice h1 g1 with ⟨hh, _⟩ | ⟨a, len, cap, elems, rest, k, _, hh, _, _, hle, hmax, _⟩
      · simp at hh; subst hh; cases q1
      · simp at hh; subst hh
        cases q1 with
        | lst sz ex xs b o cap f hlc hex hsz hcell hv =>
          simp only [List.length_map] at hle
          have : (maxLen : Nat) < 9223372036854775808 := by decide
          omega
  obtain ⟨bs, hP, hlen⟩ := hP
  refine ⟨n, q, bs, hn256, ?_, hP, hlen⟩
  have e : cs = #[.int .u8 (n : Int), u1] := by
    apply Array.toList_inj.1
    rw [hu]
  subst e
  refine .agg [.int .u8 (n : Int), q] #[.int .u8 (n : Int), u1] rfl (fun c hc => ?_) fun i c v hc hv => ?_
  · simp at hc
    rcases hc with rfl | rfl
    · rfl
    · exact q2
  · match i with
    | 0 => simp at hc hv; subst hc; subst hv; exact .int _ _
    | 1 => simp at hc hv; subst hc; subst hv; exact q1
    | i + 2 => simp at hc
end Go.Proofs.YtbkhffakhggdaaaDoor.Code
end
end
section
set_option linter.all false
section
namespace Go.Proofs.YtbkhffakhggdaaaDoor.Code
open Go Go.Ab
variable {pure : Bool} {base bar : Nat} {H : Heap} {Q : AV → Heap → Prop} {K : AV → Heap → List Nat → Prop}
/-! 116, 106, 77: the dyes of a set, by the lowest bit -/
def dyN (s : Nat) : List Nat := (List.range 6).filter fun i => s.testBit i
def tzS (s : Nat) : Nat := (dyN s).headD 0
def t64l : List AV := [(.int .u8 0), (.int .u8 1), (.int .u8 56), (.int .u8 2), (.int .u8 57), (.int .u8 49), (.int .u8 28), (.int .u8 3), (.int .u8 61), (.int .u8 58), (.int .u8 42), (.int .u8 50), (.int .u8 38), (.int .u8 29), (.int .u8 17), (.int .u8 4), (.int .u8 62), (.int .u8 47), (.int .u8 59), (.int .u8 36), (.int .u8 45), (.int .u8 43), (.int .u8 51), (.int .u8 22), (.int .u8 53), (.int .u8 39), (.int .u8 33), (.int .u8 30), (.int .u8 24), (.int .u8 18), (.int .u8 12), (.int .u8 5), (.int .u8 63), (.int .u8 55), (.int .u8 48), (.int .u8 27), (.int .u8 60), (.int .u8 41), (.int .u8 37), (.int .u8 16), (.int .u8 46), (.int .u8 35), (.int .u8 44), (.int .u8 21), (.int .u8 52), (.int .u8 32), (.int .u8 23), (.int .u8 11), (.int .u8 54), (.int .u8 26), (.int .u8 40), (.int .u8 15), (.int .u8 34), (.int .u8 20), (.int .u8 31), (.int .u8 10), (.int .u8 25), (.int .u8 14), (.int .u8 19), (.int .u8 9), (.int .u8 13), (.int .u8 8), (.int .u8 7), (.int .u8 6)]
def t64 : AV := .agg t64l
def q116 (s : Nat) : Option AV := (aun .neg (.int .u64 (s : Int))).bind fun a => (abin .and (.int .u64 (s : Int)) a).bind fun b => (abin .mul b (.int .u64 285870213051353865)).bind fun c => abin .shr c (.int .u64 58)
def w116 (z : Nat) : Nat := (2 ^ z * 285870213051353865 % 18446744073709551616) / 288230376151711744
def kk116 (s : Nat) : Bool := okJ .u64 (q116 s) (w116 (tzS s)) && Nat.blt (tzS s) 6 && Nat.blt (w116 (tzS s)) 64
theorem kk116_all : (List.range' 1 63).all kk116 = true := by kernel_rfl
theorem t64_get {z : Nat} (hz : z < 6) : t64l[w116 z]? = some (.int .u8 (z : Int)) := by
  have : z = 0 ∨ z = 1 ∨ z = 2 ∨ z = 3 ∨ z = 4 ∨ z = 5 := by omega
  rcases this with rfl | rfl | rfl | rfl | rfl | rfl <;> rfl
theorem c116_eq : c116 = (AFun.mk 14 [(.tmp 2)] 0 false (.seq (.reg [o 2 (.mv (.c (.int .i64 0)))] [0]) (.seq (.seq (.reg [o 3 (.mv (.t 0)), o 4 (.eq false .int (.t 3) (.c (.int .u64 0)))] [0, 4]) (.cond (.t 4) (.seq (.reg [o 2 (.mv (.c (.int .i64 64)))] [2]) .ret) .skip)) (.seq (.reg [o 5 (.mv (.t 0)), o 6 (.mv (.t 0)), o 7 (.un .neg (.t 6)), o 8 (.bin .and (.t 5) (.t 7)), o 9 (.bin .mul (.t 8) (.c (.int .u64 285870213051353865))), o 10 (.bin .shr (.t 9) (.c (.int .u64 58))), o 11 (.ixaA 64 (TI.mk false 1) (.c (.fp t64)) (.t 10)), o 12 (.load (TI.mk false 1) (.t 11)), o 13 (.conv .i64 (.t 12)), o 2 (.mv (.t 13))] [2]) .ret)))) := rfl
theorem ixa_t64 {k : IntKind} {i : Int} : ixaAWp 64 ⟨false, 1⟩ (some (.fp t64)) (some (.int k i)) H K = (0 ≤ i ∧ i.toNat < 64 ∧ valWp ((t64l[i.toNat * 1]?).map .fp) H K) := (rfl)
theorem ixa_get {k : IntKind} {w : Nat} {v : AV} (hw : w < 64) (hz : t64l[w]? = some v) : ixaAWp 64 ⟨false, 1⟩ (some (.fp t64)) (some (.int k (w : Int))) H K = K (.fp v) H [] := by
  rw [ixa_t64]
  have e : (t64l[(w : Int).toNat * 1]?).map AV.fp = some (.fp v) := by
    rw [Int.toNat_natCast, Nat.mul_one, hz]; rfl
  rw [e, valWp_some]
  have h1 : (0 : Int) ≤ (w : Int) := Int.natCast_nonneg _
  have h2 : (w : Int).toNat < 64 := by rw [Int.toNat_natCast]; exact hw
  exact propext ⟨fun h => h.2.2, fun h => ⟨h1, h2, h⟩⟩
theorem k116 {s : Nat} (h1 : 1 ≤ s) (h6 : s < 64) (h : Q (.int .i64 (tzS s : Nat)) H) : WpCall E pure base bar 116 [.int .u64 (s : Int)] H Q := by
  have hk : kk116 s = true := List.all_eq_true.1 kk116_all s (List.mem_range'_1.2 ⟨h1, by omega⟩)
  simp only [kk116, Bool.and_eq_true, Nat.blt_eq] at hk
  obtain ⟨⟨hq, htz⟩, hw64⟩ := hk
  have hq := okJ_u hq
  have hz := t64_get htz
  generalize w116 (tzS s) = w at *
  generalize tzS s = z at *
  simp only [q116, Option.bind_eq_some_iff] at hq
  obtain ⟨a, e1, b, e2, c, e3, e4⟩ := hq
  have hs0 : ¬ (s = 0) := by omega
  have ea : a = .int .u64 (IntKind.u64.wrap (-(s : Int))) := by
    rw [aun_neg] at e1
    simp at e1
    exact e1.symm
  subst ea
  rw [call116, c116_eq]
  simp [go_sem, WpFun, hs0, e2, e3, e4]
  rw [ixa_get hw64 hz]
  have ld : aload H ⟨false, 1⟩ (.fp (.int .u8 (z : Int))) = some (.int .u8 (z : Int)) := rfl
  simp [go_sem, ld]
  rw [i64_nat (by omega)]
  exact h
theorem k106 {s : Nat} (h1 : 1 ≤ s) (h6 : s < 64) (h : Q (.int .i64 (tzS s : Nat)) H) : WpCall E pure base bar 106 [.int .u64 (s : Int)] H Q := by
  rw [call106]
  simp [go_sem, WpFun, c106]
  refine k116 h1 h6 ?_
  simp [go_sem]
  exact h
end Go.Proofs.YtbkhffakhggdaaaDoor.Code
end
section
namespace Go.Proofs.YtbkhffakhggdaaaDoor.Code
open Go Go.Ab
variable {pure : Bool} {base bar : Nat} {H : Heap} {Q : AV → Heap → Prop} {K : AV → Heap → List Nat → Prop}
theorem dyN_step {s : Nat} (h1 : 1 ≤ s) (h6 : s < 64) : dyN s = tzS s :: dyN (Nat.land s (s - 1)) ∧ Nat.land s (s - 1) < s ∧ tzS s < 6 := by
  have : ∀ s, s < 64 → 1 ≤ s → dyN s = tzS s :: dyN (Nat.land s (s - 1)) ∧ Nat.land s (s - 1) < s ∧ tzS s < 6 := by decide +kernel
  exact this s h6 h1
theorem andl_a : ((List.range 64).all fun x => (List.range 64).all fun z => okJ .u64 (abin .and (.int .u64 (x : Int)) (.int .u64 (z : Int))) (Nat.land x z)) = true := by kernel_rfl
theorem andl_u {x z : Nat} (hx : x < 64) (hz : z < 64) : abin .and (.int .u64 (x : Int)) (.int .u64 (z : Int)) = some (.int .u64 ((Nat.land x z : Nat) : Int)) :=
  okJ_u (List.all_eq_true.1 (List.all_eq_true.1 andl_a x (List.mem_range.2 hx)) z (List.mem_range.2 hz))
theorem dyN_len {s : Nat} : (dyN s).length ≤ 6 := Nat.le_trans (List.length_filter_le _ _) (by simp)
theorem l77 {H0 : Heap} (hb : bar ≤ H0.length) (hbase : base ≤ H0.length) {R : PQ} : ∀ (f s : Nat) (acc : List Nat) (v : AV) (H : Heap), s < 64 → s ≤ f → acc.length + (dyN s).length ≤ 6 → Grow 1 (nats acc) H0 v H →
    (∀ v' H', Grow 1 (nats (acc ++ dyN s)) H0 v' H' → R (.exit 0) [(0, .int .u64 0), (3, v'), (5, .bool false)] H') →
    Wp E base bar (.loop c77_l0) [(0, .int .u64 (s : Int)), (3, v)] H R := by
  intro f
  induction f with
  | zero =>
    intro s acc v H hs hf hl g h
    obtain rfl : s = 0 := by omega
    rw [wp_round c77_l0.eq_1]
    simp [go_sem]
    exact h _ _ (by rw [show dyN 0 = [] from by decide, List.append_nil]; exact g)
  | succ f ih =>
    intro s acc v H hs hf hl g h
    by_cases h0 : s = 0
    · subst h0
      rw [wp_round c77_l0.eq_1]
      simp [go_sem]
      exact h _ _ (by rw [show dyN 0 = [] from by decide, List.append_nil]; exact g)
    · obtain ⟨e, hlt, htz⟩ := dyN_step (s := s) (by omega) hs
      have hw : IntKind.u64.wrap ((s : Int) - 1) = ((s - 1 : Nat) : Int) := by rw [show (s : Int) - 1 = ((s - 1 : Nat) : Int) by omega, u64n (by omega)]
      have ha := andl_u (x := s) (z := s - 1) hs (by omega)
      rw [e] at h hl
      rw [wp_round c77_l0.eq_1]
      simp [go_sem, h0]
      refine k106 (by omega) hs ?_
      simp [go_sem, aop, fillA, setCells, chunks, AV.noVec.noVecs, AV.noVec]
      rw [wpop_app]
      simp [Opd.ev, go_sem]
      refine g.nat hb hbase (by simp at hl; omega) fun v' H' tc g' => ?_
      have next := ih (Nat.land s (s - 1)) (acc ++ [tzS s]) v' H' (by omega) (by omega) (by simp at hl ⊢; omega) g' (by rw [List.append_assoc]; exact h)
      simp [go_sem, hw, ha]
      exact next
/-- the dyes of a set, as a list that is handed out -/
theorem k77 {s : Nat} (hs : s < 64) (hbar : bar ≤ H.length) (hbase : base ≤ H.length) (h : ∀ v H', Grow 1 (nats (dyN s)) H v H' → Q v H') : WpCall E false base bar 77 [.int .u64 (s : Int)] H Q := by
  rw [call77]
  simp [go_sem, WpFun, c77]
  refine l77 (H0 := H) hbar hbase s s [] .nils H hs (Nat.le_refl _) (by have := dyN_len (s := s); simpa using this) (by exact Grow.nil) fun v' H' g => ?_
  simp [go_sem]
  exact h v' H' (by simpa using g)
end Go.Proofs.YtbkhffakhggdaaaDoor.Code
end
section
namespace Go.Proofs.YtbkhffakhggdaaaDoor.Code
open Go Go.Ab
variable {pure : Bool} {base bar : Nat} {H : Heap} {Q : AV → Heap → Prop} {K : AV → Heap → List Nat → Prop}
/-! 39: how many orders pass a tray, by a table -/
/-- how many ways lead to a set past the shelf -/
def pS (S : List Nat) : Nat → Nat → Nat
  | 0 => fun u => if u = 0 then 1 else 0
  | t + 1 => upd (pS S t) t (if S.contains t then 0 else if t = 0 then 1 else ((dyN t).map fun x => pS S t (cl6 t (pw x))).sum)
/-- how many ways lead to each set -/
def aS : Nat → Nat → Nat
  | 0 => fun u => if u = 0 then 1 else 0
  | t + 1 => upd (aS t) t (if t = 0 then 1 else ((dyN t).map fun x => aS t (cl6 t (pw x))).sum)
theorem ix_vec' {id ver len i : Nat} {k : IntKind} {K : AV → Heap → List Nat → Prop} (hi : i < len) : ixaSWp 1 (some (.vec id ver 0 len 1)) (some (.int k (i : Int))) H K = K (.ptr id ver i) H [] := by
  simp [go_sem, hi]
theorem gix {l : List Nat} {H0 : Heap} {v : AV} {i : Nat} (g : Grow 1 (nats l) H0 v H) (hi : i < l.length) : ∃ p, (∀ (k : IntKind) (K : AV → Heap → List Nat → Prop), ixaSWp 1 (some v) (some (.int k (i : Int))) H K = K p H []) ∧ aload H ⟨false, 1⟩ p = some (.int .i64 ((l[i] : Nat) : Int)) := by
  rcases g with ⟨h1, _, _⟩ | ⟨ver, fz, _, _, rfl, rfl⟩
  · have : l = [] := by cases l with | nil => rfl | cons a b => simp [nats] at h1
    subst this; simp at hi
  · refine ⟨.ptr H0.length ver i, fun k K => ?_, ?_⟩
    · rw [nats_length, Nat.div_one]; exact ix_vec' hi
    · rw [aload_ptr (own_get0 (l := [.row ver (nats l) fz false]) |>.trans rfl)]
      simp [Ab.part, nats_get hi]
/-- the blocks of the tables -/
structure DPst (k n P : Nat) (q : AV) (A B : Nat → Nat) (H0 : Heap) : Prop where
  box : H0[k]? = some (.row 0 [.int .i64 (n : Int), q] 0 true)
  ra : H0[k + 1]? = some (.row 0 (fcells P A) 0 true)
  rb : H0[k + 2]? = some (.row 0 (fcells P B) 0 true)
def sumF (f : Nat → Nat) (t : Nat) (l : List Nat) : Nat := (l.map fun x => f (cl6 t (pw x))).sum
theorem dyN_mem {t x : Nat} (ht : t < 64) (hx : x ∈ dyN t) : x < 6 ∧ cl6 t (pw x) < t := by
  have : ∀ t, t < 64 → ∀ x ∈ dyN t, x < 6 ∧ cl6 t (pw x) < t := by decide +kernel
  exact this t ht x hx
theorem sumF_upd {f : Nat → Nat} {t a : Nat} (ht : t < 64) : ∀ {l : List Nat}, (∀ x ∈ l, x ∈ dyN t) → sumF (upd f t a) t l = sumF f t l
  | [], _ => rfl
  | x :: r, h => by
    have h1 := (dyN_mem ht (h x (List.mem_cons_self ..))).2
    have := sumF_upd (f := f) (a := a) ht (l := r) fun y hy => h y (List.mem_cons_of_mem _ hy)
    simp only [sumF, List.map_cons, List.sum_cons] at this ⊢
    rw [this]
    congr 1
    simp only [upd]
    rw [if_neg (by omega)]
theorem upd_upd {f : Nat → Nat} {t a b : Nat} : upd (upd f t a) t b = upd f t b := by
  funext u
  simp only [upd]
  split <;> rfl
theorem l39_0 {k n P t : Nat} {q w vl : AV} {l : List Nat} (ht : t < P) (hP : P ≤ 64) (hl : ∀ x ∈ l, x ∈ dyN t) (hl6 : l.length ≤ 6) (hb : bar ≤ k) {R : PQ} : ∀ (c j : Nat) (A B : Nat → Nat) (H0 H : Heap), j + c = l.length → DPst k n P q A B H0 → Grow 1 (nats l) H0 vl H →
    (∀ u, u ≠ t → A u ≤ 720) → A t ≤ 720 * j + 1 → (∀ u, u ≠ t → B u ≤ 720) → B t ≤ 720 * j + 1 →
    (∀ H0' H', DPst k n P q (upd A t (A t + sumF A t (l.drop j))) (upd B t (B t + sumF B t (l.drop j))) H0' → H0'.take k = H0.take k → H0'.length = H0.length → Grow 1 (nats l) H0' vl H' →
      R (.exit 2) [(1, .ptr k 0 0), (4, w), (6, .vec (k + 1) 0 0 P 1), (7, .vec (k + 2) 0 0 P 1), (34, .int .u64 (P : Int)), (35, .int .u64 (t : Int)), (8, .int .u64 (t : Int)), (39, vl), (40, .int .i64 (l.length : Nat)), (41, .int .i64 (l.length : Nat)), (42, .bool false)] H') →
    Wp E base bar (.loop c39_l0) [(1, .ptr k 0 0), (4, w), (6, .vec (k + 1) 0 0 P 1), (7, .vec (k + 2) 0 0 P 1), (34, .int .u64 (P : Int)), (35, .int .u64 (t : Int)), (8, .int .u64 (t : Int)), (39, vl), (40, .int .i64 (l.length : Nat)), (41, .int .i64 (j : Nat))] H R := by
  intro c
  induction c with
  | zero =>
    intro j A B H0 H hj st g hA hAt hB hBt h
    obtain rfl : j = l.length := by omega
    rw [List.drop_length] at h
    have e : ∀ f : Nat → Nat, upd f t (f t + sumF f t []) = f := fun f => by
      funext u; simp only [upd, sumF, List.map_nil, List.sum_nil, Nat.add_zero]; split
      · rename_i hu; rw [hu]
      · rfl
    rw [e, e] at h
    rw [wp_round c39_l0.eq_1]
    simp [go_sem]
    exact h H0 H st rfl rfl g
  | succ c ih =>
    intro j A B H0 H hj st g hA hAt hB hBt h
    have hlt : j < l.length := by omega
    rw [List.drop_eq_getElem_cons hlt] at h
    obtain ⟨p, hix, hld⟩ := gix g hlt
    have hxm := hl _ (List.getElem_mem hlt)
    have hdr : ∀ y ∈ l.drop (j + 1), y ∈ dyN t := fun y hy => hl y (List.mem_of_mem_drop hy)
    generalize l[j] = x at *
    obtain ⟨hx6, hlt2⟩ := dyN_mem (show t < 64 by omega) hxm
    have hcl := cl6_u (x := t) (z := pw x) (by omega) (pw64 hx6)
    have hcne : cl6 t (pw x) ≠ t := by omega
    generalize hce : cl6 t (pw x) = u at *
    have hu : u < P := by omega
    have a1 := hA u hcne
    have b1 := hB u hcne
    have hgA := g.get st.ra
    have hgB := g.get st.rb
    have lA := fun i hi => loadF (s := 1) (i := i) hgA hi
    have lB := fun i hi => loadF (s := 1) (i := i) hgB hi
    have wA : IntKind.i64.wrap ((A t : Int) + (A u : Int)) = ((A t + A u : Nat) : Int) := by rw [show (A t : Int) + (A u : Int) = ((A t + A u : Nat) : Int) by omega, i64_nat (by omega)]
    have wB : IntKind.i64.wrap ((B t : Int) + (B u : Int)) = ((B t + B u : Nat) : Int) := by rw [show (B t : Int) + (B u : Int) = ((B t + B u : Nat) : Int) by omega, i64_nat (by omega)]
    have sA := fun (K : AV → Heap → List Nat → Prop) => storeF (base := base) (bar := bar) (i := t) (x := A t + A u) (K := K) hgA ht (by omega) (by omega)
    have g1 := g.set (i := k + 1) (b := .row 0 (fcells P (upd A t (A t + A u))) 0 true) (List.getElem?_eq_some_iff.1 st.ra).1
    have hgB1 := g1.get (i := k + 2) (b := .row 0 (fcells P B) 0 true) (by rw [List.getElem?_set_ne (by omega)]; exact st.rb)
    have lB1 := fun i hi => loadF (s := 1) (i := i) hgB1 hi
    have sB := fun (K : AV → Heap → List Nat → Prop) => storeF (base := base) (bar := bar) (i := t) (x := B t + B u) (K := K) hgB1 ht (by omega) (by omega)
    have g2 := g1.set (i := k + 2) (b := .row 0 (fcells P (upd B t (B t + B u))) 0 true) (by rw [List.length_set]; exact (List.getElem?_eq_some_iff.1 st.rb).1)
    have st2 : DPst k n P q (upd A t (A t + A u)) (upd B t (B t + B u)) ((H0.set (k + 1) (.row 0 (fcells P (upd A t (A t + A u))) 0 true)).set (k + 2) (.row 0 (fcells P (upd B t (B t + B u))) 0 true)) := by
      have la := (List.getElem?_eq_some_iff.1 st.ra).1
      have lb := (List.getElem?_eq_some_iff.1 st.rb).1
      refine ⟨?_, ?_, ?_⟩
      · rw [List.getElem?_set_ne (by omega), List.getElem?_set_ne (by omega)]; exact st.box
      · rw [List.getElem?_set_ne (by omega), List.getElem?_set_self la]
      · rw [List.getElem?_set_self (by rw [List.length_set]; exact lb)]
    have next := ih (j + 1) _ _ _ _ (by omega) st2 g2 (fun v hv => by simp only [upd]; rw [if_neg hv]; exact hA v hv) (by simp only [upd, if_true]; omega) (fun v hv => by simp only [upd]; rw [if_neg hv]; exact hB v hv) (by simp only [upd, if_true]; omega) (fun H0' H' s1 s2 s3 s4 => by
      refine h H0' H' ?_ ?_ ?_ s4
      · rw [upd_upd, upd_upd, sumF_upd (by omega) hdr, sumF_upd (by omega) hdr] at s1
        simp only [upd, if_true] at s1
        have e1 : A t + A u + sumF A t (l.drop (j + 1)) = A t + sumF A t (x :: l.drop (j + 1)) := by simp only [sumF, List.map_cons, List.sum_cons, hce]; omega
        have e2 : B t + B u + sumF B t (l.drop (j + 1)) = B t + sumF B t (x :: l.drop (j + 1)) := by simp only [sumF, List.map_cons, List.sum_cons, hce]; omega
        rw [e1, e2] at s1
        exact s1
      · rw [s2]
        apply take_same
        intro i hi
        rw [List.getElem?_set_ne (by omega), List.getElem?_set_ne (by omega)]
      · rw [s3]; simp)
    generalize hsa : A t + A u = sa at *
    generalize hsb : B t + B u = sb at *
    have hg1l : (H.set (k + 1) (.row 0 (fcells P (upd A t sa)) 0 true)).length = H.length := by simp
    rw [wp_round c39_l0.eq_1]
    simp [go_sem, hlt, hix, hld, ht, hu, lA, lB, lB1, shl_u64 hx6, hcl, wA, wB, sA, sB, i64_suc (show j < 1000000 by omega)]
    exact next
end Go.Proofs.YtbkhffakhggdaaaDoor.Code
end
section
namespace Go.Proofs.YtbkhffakhggdaaaDoor.Code
open Go Go.Ab
variable {pure : Bool} {base bar : Nat} {H : Heap} {Q : AV → Heap → Prop} {K : AV → Heap → List Nat → Prop}
theorem dyN_fac {t : Nat} (h1 : 1 ≤ t) (ht : t < 64) : sumF (fun u => fac (pc u)) t (dyN t) = fac (pc t) := by
  have : ∀ t, t < 64 → 1 ≤ t → sumF (fun u => fac (pc u)) t (dyN t) = fac (pc t) := by decide +kernel
  exact this t ht h1
theorem sumF_congr {f g : Nat → Nat} {t : Nat} : ∀ {l : List Nat}, (∀ x ∈ l, f (cl6 t (pw x)) = g (cl6 t (pw x))) → sumF f t l = sumF g t l
  | [], _ => rfl
  | x :: r, h => by
    simp only [sumF, List.map_cons, List.sum_cons]
    have := sumF_congr (f := f) (g := g) (l := r) fun y hy => h y (List.mem_cons_of_mem _ hy)
    simp only [sumF] at this
    rw [h x (List.mem_cons_self ..), this]
theorem sumF_le {f g : Nat → Nat} {t : Nat} : ∀ {l : List Nat}, (∀ x ∈ l, f (cl6 t (pw x)) ≤ g (cl6 t (pw x))) → sumF f t l ≤ sumF g t l
  | [], _ => Nat.le_refl _
  | x :: r, h => by
    simp only [sumF, List.map_cons, List.sum_cons]
    have := sumF_le (f := f) (g := g) (l := r) fun y hy => h y (List.mem_cons_of_mem _ hy)
    simp only [sumF] at this
    have := h x (List.mem_cons_self ..)
    omega
theorem aS_eq : ∀ {T u : Nat}, T ≤ 64 → aS T u = if u < T then fac (pc u) else if u = 0 then 1 else 0
  | 0, u, _ => by simp [aS]
  | T + 1, u, hT => by
    simp only [aS, upd]
    by_cases hu : u = T
    · subst hu
      by_cases h0 : u = 0
      · subst h0; rfl
      · have e1 : (if u < u + 1 then fac (pc u) else if u = 0 then 1 else 0) = fac (pc u) := if_pos (by omega)
        rw [if_pos rfl, if_neg h0, e1, ← dyN_fac (t := u) (by omega) (by omega)]
        show sumF (aS u) u (dyN u) = _
        refine sumF_congr fun x hx => ?_
        have := (dyN_mem (show u < 64 by omega) hx).2
        rw [aS_eq (by omega), if_pos this]
    · rw [if_neg hu, aS_eq (by omega)]
      by_cases h : u < T
      · rw [if_pos h, if_pos (show u < T + 1 by omega)]
      · rw [if_neg h, if_neg (show ¬ u < T + 1 by omega)]
theorem fac_le {m : Nat} (h : m ≤ 6) : fac m ≤ 720 := by
  have : ∀ m, m ≤ 6 → fac m ≤ 720 := by decide
  exact this m h
theorem aS_le {T u : Nat} (hT : T ≤ 64) : aS T u ≤ 720 := by
  rw [aS_eq hT]
  split
  · exact fac_le pc_le
  · split <;> omega
theorem pS_le {S : List Nat} : ∀ {T u : Nat}, pS S T u ≤ aS T u
  | 0, u => Nat.le_refl _
  | T + 1, u => by
    simp only [pS, aS, upd]
    split
    · split
      · exact Nat.zero_le _
      · split
        · exact Nat.le_refl _
        · exact sumF_le fun x _ => pS_le
    · exact pS_le
theorem pS_ge {S : List Nat} : ∀ {T u : Nat}, T ≤ u → pS S T u = if u = 0 then 1 else 0
  | 0, u, _ => rfl
  | T + 1, u, h => by
    simp only [pS, upd]
    rw [if_neg (by omega), pS_ge (by omega)]
theorem grow_take {cells : List AV} {H0 : Heap} {v : AV} {k : Nat} (g : Grow 1 cells H0 v H) (hk : k ≤ H0.length) : H.take k = H0.take k := by
  rcases g with ⟨_, _, rfl⟩ | ⟨_, _, _, _, _, rfl⟩
  · rfl
  · rw [List.take_append_of_le_length hk]
theorem DPst.grow {k n P : Nat} {q v : AV} {A B : Nat → Nat} {cells : List AV} {H0 : Heap} (s : DPst k n P q A B H0) (g : Grow 1 cells H0 v H) : DPst k n P q A B H := ⟨g.get s.box, g.get s.ra, g.get s.rb⟩
theorem glenw {l : List Nat} {H0 : Heap} {v : AV} (g : Grow 1 (nats l) H0 v H) : lenWp (some v) H K = K (.int .i64 (l.length : Int)) H [] := by
  rcases g with ⟨h, rfl, rfl⟩ | ⟨ver, fz, _, _, rfl, rfl⟩
  · have : l = [] := by cases l with | nil => rfl | cons a b => simp [nats] at h
    subst this; rfl
  · simp [lenWp, nats_length]
theorem l39_1 {k n P : Nat} {q w : AV} {S : List Nat} (hP : P ≤ 64) (hw : isU w S) (hSl : S.length < 1000000) (hb : bar ≤ k) (hbase : base ≤ k) {R : PQ} : ∀ (c t : Nat) (H : Heap), t + c = P → DPst k n P q (aS t) (pS S t) H →
    (∀ H', DPst k n P q (aS P) (pS S P) H' → H'.take k = H.take k → R (.exit 0) [(1, .ptr k 0 0), (4, w), (6, .vec (k + 1) 0 0 P 1), (7, .vec (k + 2) 0 0 P 1), (34, .int .u64 (P : Int)), (35, .int .u64 (P : Int)), (36, .bool false)] H') →
    Wp E base bar (.loop c39_l1) [(1, .ptr k 0 0), (4, w), (6, .vec (k + 1) 0 0 P 1), (7, .vec (k + 2) 0 0 P 1), (34, .int .u64 (P : Int)), (35, .int .u64 (t : Int))] H R := by
  intro c
  induction c with
  | zero =>
    intro t H ht st h
    obtain rfl : t = P := by omega
    rw [wp_round c39_l1.eq_1]
    simp [go_sem]
    exact h H st rfl
  | succ c ih =>
    intro t H ht st h
    have hlt : t < P := by omega
    have hkl : k + 2 < H.length := (List.getElem?_eq_some_iff.1 st.rb).1
    have hws : IntKind.u64.wrap ((t : Int) + 1) = ((t + 1 : Nat) : Int) := by rw [show (t : Int) + 1 = ((t + 1 : Nat) : Int) by omega, u64n (by omega)]
    rw [wp_round c39_l1.eq_1]
    simp [go_sem, hlt]
    refine k77 (by omega) (by omega) (by omega) fun v H1 g => ?_
    simp [go_sem, glenw g]
    have hAt : aS t t ≤ 1 := by rw [aS_eq (by omega), if_neg (by omega)]; split <;> omega
    have hBt : pS S t t ≤ 1 := Nat.le_trans pS_le hAt
    refine l39_0 (k := k) (n := n) (q := q) hlt hP (fun x hx => hx) dyN_len hb (dyN t).length 0 (aS t) (pS S t) H H1 (by omega) st g (fun u _ => aS_le (by omega)) (by omega) (fun u _ => Nat.le_trans pS_le (aS_le (by omega))) (by omega) fun H0' H' st' hk' hl' g' => ?_
    rw [List.drop_zero] at st'
    have eA : upd (aS t) t (aS t t + sumF (aS t) t (dyN t)) = aS (t + 1) := by
      simp only [aS]
      congr 1
      by_cases h0 : t = 0
      · subst h0; rfl
      · rw [if_neg h0, aS_eq (by omega), if_neg (by omega), if_neg h0, Nat.zero_add]; rfl
    rw [eA] at st'
    have st2 := st'.grow g'
    have hk2 : H'.take k = H.take k := by rw [grow_take g' (by omega), hk']
    have hlen2 : k + 2 < H'.length := (List.getElem?_eq_some_iff.1 st2.rb).1
    simp [go_sem]
    refine k93 hw hSl ?_
    cases hc : S.contains t
    · have eB : upd (pS S t) t (pS S t t + sumF (pS S t) t (dyN t)) = pS S (t + 1) := by
        simp only [pS, hc]
        congr 1
        by_cases h0 : t = 0
        · subst h0; rfl
        · rw [if_neg h0, pS_ge (Nat.le_refl _), if_neg h0, Nat.zero_add]; rfl
      rw [eB] at st2
      have next := ih (t + 1) H' (by omega) st2 (fun H2 s2 h2 => h H2 s2 (by rw [h2, hk2]))
      simp [go_sem, hws]
      exact next
    · have eB : upd (upd (pS S t) t (pS S t t + sumF (pS S t) t (dyN t))) t 0 = pS S (t + 1) := by
        simp only [pS, hc, if_true]
        rw [upd_upd]
      have sB := fun (K : AV → Heap → List Nat → Prop) => storeF (base := base) (bar := bar) (i := t) (x := 0) (K := K) st2.rb hlt (by omega) (by omega)
      rw [eB] at sB
      have sB0 : ∀ K : AV → Heap → List Nat → Prop, storeWp base bar 1 (.ptr (k + 2) 0 t) (.int .i64 0) H' K = K (.tup []) (H'.set (k + 2) (.row 0 (fcells P (pS S (t + 1))) 0 true)) [k + 2] := fun K => sB K
      have st3 : DPst k n P q (aS (t + 1)) (pS S (t + 1)) (H'.set (k + 2) (.row 0 (fcells P (pS S (t + 1))) 0 true)) := by
        refine ⟨?_, ?_, ?_⟩
        · rw [List.getElem?_set_ne (by omega)]; exact st2.box
        · rw [List.getElem?_set_ne (by omega)]; exact st2.ra
        · rw [List.getElem?_set_self hlen2]
      have next := ih (t + 1) _ (by omega) st3 (fun H2 s2 h2 => h H2 s2 (by
        rw [h2, ← hk2]
        apply take_same
        intro i hi
        rw [List.getElem?_set_ne (by omega)]))
      simp [go_sem, hlt, sB0, hws]
      exact next
theorem pw_le {n : Nat} (h : n ≤ 6) : pw n ≤ 64 := Nat.le_trans (Nat.pow_le_pow_right (by decide) h) (by decide : 2 ^ 6 ≤ 64)
theorem k39 {n : Nat} {q : AV} {ls : List (List Int)} (h1 : 1 ≤ n) (hn : n ≤ 6) (hq : isVV q ls) (hl : ls.length < 1000) (hll : ∀ l ∈ ls, l.length < 1000) (hbar : bar ≤ H.length)
    (he : (opS n [] ls).1 ≠ 0 → Q (.tup [.int .i64 0, .int .i64 (opS n [] ls).1]) H)
    (h0 : (opS n [] ls).1 = 0 → Q (.tup [.int .i64 ((fac n - pS (opS n [] ls).2 (pw n) (pw n - 1) : Nat) : Int), .int .i64 0]) H) : WpCall E pure base bar 39 [.agg [.int .i64 (n : Int), q]] H Q := by
  have hsh := shl_i64 (n := n) (by omega)
  have hshu : abin .shl (.int .u64 1) (.int .i64 (n : Int)) = some (.int .u64 ((pw n : Nat) : Int)) := by
    have : n = 1 ∨ n = 2 ∨ n = 3 ∨ n = 4 ∨ n = 5 ∨ n = 6 := by omega
    rcases this with rfl | rfl | rfl | rfl | rfl | rfl <;> rfl
  have hP := pw_le hn
  have hPp : 0 < pw n := pw_pos
  have hlen := opS_len (n := n) (ls := ls) (done := [])
  have hbp : (if pure = true then H.length else bar) ≤ H.length := by cases pure <;> simp <;> omega
  rw [call39]
  simp [go_sem, WpFun, c39, hq.frz, box2]
  refine k68 h1 hn hq hl hll (by cases pure <;> simp <;> omega) (fun e => ?_) (fun e => ?_)
  · have := he e
    simp [go_sem, e]
    exact this
  · have hu : isU (outL 1 (us (opS n [] ls).2)) (opS n [] ls).2 := isU.out
    generalize outL 1 (us (opS n [] ls).2) = w at *
    generalize hS : (opS n [] ls).2 = S at *
    have h0 := h0 e
    have hp8 : pw n * 8 ≤ 140737488355328 := by omega
    have h1w : pw n - 1 < pw n := by omega
    simp [go_sem]
    rw [wp_twin]
    simp [go_sem, wptwin_cons, wptwin_nil, aop, twWp, box0, hsh, AV.asNat, AV.top, AV.vlen, own_get0, own_set0, hp8, hPp]
    generalize (if pure = true then H.length else bar) = bar' at *
    have ez : List.replicate (pw n) (AV.int .i64 0) = fcells (pw n) (fun _ => 0) := fcells_zero.symm
    rw [ez]
    have u0 : upd (fun _ => 0) 0 1 = aS 0 := rfl
    have u1 : upd (fun _ => 0) 0 1 = pS S 0 := rfl
    have s1 : ∀ K : AV → Heap → List Nat → Prop, storeWp H.length bar' 1 (.ptr (H.length + 1) 0 0) (.int .i64 1) (H ++ [.row 0 [.int .i64 (n : Int), q] 0 true, .row 0 (fcells (pw n) fun _ => 0) 0 true, .row 0 (fcells (pw n) fun _ => 0) 0 true]) K =
        K (.tup []) (H ++ [.row 0 [.int .i64 (n : Int), q] 0 true, .row 0 (fcells (pw n) (aS 0)) 0 true, .row 0 (fcells (pw n) fun _ => 0) 0 true]) [H.length + 1] := fun K => by
      have := storeF (base := H.length) (bar := bar') (i := 0) (x := 1) (K := K) (H := H ++ [.row 0 [.int .i64 (n : Int), q] 0 true, .row 0 (fcells (pw n) fun _ => 0) 0 true, .row 0 (fcells (pw n) fun _ => 0) 0 true]) (own_get (k := 1) |>.trans rfl) hPp (by omega) (by omega)
      rw [own_set, u0] at this
      exact this
    have s2 : ∀ K : AV → Heap → List Nat → Prop, storeWp H.length bar' 1 (.ptr (H.length + 2) 0 0) (.int .i64 1) (H ++ [.row 0 [.int .i64 (n : Int), q] 0 true, .row 0 (fcells (pw n) (aS 0)) 0 true, .row 0 (fcells (pw n) fun _ => 0) 0 true]) K =
        K (.tup []) (H ++ [.row 0 [.int .i64 (n : Int), q] 0 true, .row 0 (fcells (pw n) (aS 0)) 0 true, .row 0 (fcells (pw n) (pS S 0)) 0 true]) [H.length + 2] := fun K => by
      have := storeF (base := H.length) (bar := bar') (i := 0) (x := 1) (K := K) (H := H ++ [.row 0 [.int .i64 (n : Int), q] 0 true, .row 0 (fcells (pw n) (aS 0)) 0 true, .row 0 (fcells (pw n) fun _ => 0) 0 true]) (own_get (k := 2) |>.trans rfl) hPp (by omega) (by omega)
      rw [own_set, u1] at this
      exact this
    have st : DPst H.length n (pw n) q (aS 0) (pS S 0) (H ++ [.row 0 [.int .i64 (n : Int), q] 0 true, .row 0 (fcells (pw n) (aS 0)) 0 true, .row 0 (fcells (pw n) (pS S 0)) 0 true]) :=
      ⟨own_get0 |>.trans rfl, own_get (k := 1) |>.trans rfl, own_get (k := 2) |>.trans rfl⟩
    have ld0 : aload (H ++ [.row 0 [.int .i64 (n : Int), q] 0 true, .row 0 (fcells (pw n) (aS 0)) 0 true, .row 0 (fcells (pw n) (pS S 0)) 0 true]) ⟨false, 1⟩ (.ptr H.length 0 0) = some (.int .i64 (n : Int)) := by rw [aload_ptr st.box]; rfl
    have htk : (H ++ [Blk.row 0 [.int .i64 (n : Int), q] 0 true, .row 0 (fcells (pw n) (aS 0)) 0 true, .row 0 (fcells (pw n) (pS S 0)) 0 true]).take H.length = H := by simp
    rw [s1]
    simp [go_sem, hPp]
    rw [s2]
    generalize H ++ [Blk.row 0 [.int .i64 (n : Int), q] 0 true, .row 0 (fcells (pw n) (aS 0)) 0 true, .row 0 (fcells (pw n) (pS S 0)) 0 true] = H1 at *
    simp [go_sem, ld0, hshu]
    refine l39_1 (n := n) (q := q) hP hu (by simp at hlen; omega) hbp (Nat.le_refl _) (pw n) 0 H1 (by omega) st fun H2 st2 hk2 => ?_
    have ld2 : aload H2 ⟨false, 1⟩ (.ptr H.length 0 0) = some (.int .i64 (n : Int)) := by rw [aload_ptr st2.box]; rfl
    have hsub : IntKind.i64.wrap (((pw n : Nat) : Int) - 1) = ((pw n - 1 : Nat) : Int) := by rw [show ((pw n : Nat) : Int) - 1 = ((pw n - 1 : Nat) : Int) by omega, i64_nat (by omega)]
    have lA := loadF (s := 1) (i := pw n - 1) st2.ra h1w
    have lB := loadF (s := 1) (i := pw n - 1) st2.rb h1w
    have hA : aS (pw n) (pw n - 1) = fac n := by
      have : ∀ n, n ≤ 6 → fac (pc (pw n - 1)) = fac n := by decide +kernel
      rw [aS_eq hP, if_pos h1w, this n hn]
    have hBA : pS S (pw n) (pw n - 1) ≤ fac n := by rw [← hA]; exact pS_le
    have hf := fac_le hn
    rw [hA] at lA
    have hres : IntKind.i64.wrap ((fac n : Int) - (pS S (pw n) (pw n - 1) : Int)) = ((fac n - pS S (pw n) (pw n - 1) : Nat) : Int) := by
      rw [show (fac n : Int) - (pS S (pw n) (pw n - 1) : Int) = ((fac n - pS S (pw n) (pw n - 1) : Nat) : Int) by omega, i64_nat (by omega)]
    generalize pS S (pw n) (pw n - 1) = pB at *
    generalize pw n - 1 = full at *
    generalize hfb : fac n - pB = fb at *
    simp [go_sem, ld2, hsh, hsub, h1w, lA, lB, hres]
    rw [hk2, htk]
    exact h0
end Go.Proofs.YtbkhffakhggdaaaDoor.Code
end
section
namespace Go.Proofs.YtbkhffakhggdaaaDoor.Code
open Go Go.Ab
theorem pS_stay {S : List Nat} {t : Nat} : ∀ {T : Nat}, t < T → pS S T t = pS S (t + 1) t
  | 0, h => by omega
  | T + 1, h => by
    by_cases e : t = T
    · subst e; rfl
    · simp only [pS, upd]
      rw [if_neg (by omega), pS_stay (by omega)]
      simp [pS, upd]
end Go.Proofs.YtbkhffakhggdaaaDoor.Code
end
section
namespace Go.Proofs.YtbkhffakhggdaaaDoor.Code
open Go Go.Ab
variable {pure : Bool} {base bar : Nat} {H : Heap} {Q : AV → Heap → Prop} {K : AV → Heap → List Nat → Prop}
theorem or_i64 {a b : Nat} (ha : a < 64) (hb : b < 64) : abin .or (.int .i64 a) (.int .i64 b) = some (.int .i64 ((bor a b : Nat) : Int)) := by
  have hl : bor a b < 64 := Nat.or_lt_two_pow (n := 6) ha hb
  have e : (BitVec.ofInt 64 (a : Int) ||| BitVec.ofInt 64 (b : Int)).toNat = bor a b := by
    rw [BitVec.toNat_or, ofInt_toNat (w := 64) (by omega), ofInt_toNat (w := 64) (by omega)]; rfl
  simp only [abin, binInt, if_true]
  rw [show IntKind.i64.bits = 64 from rfl, e, i64_nat (by omega)]
end Go.Proofs.YtbkhffakhggdaaaDoor.Code
end
section
namespace Go.Proofs.YtbkhffakhggdaaaDoor.Code
open Go Go.Ab
variable {pure : Bool} {base bar : Nat} {H : Heap} {Q : AV → Heap → Prop} {K : AV → Heap → List Nat → Prop}
end Go.Proofs.YtbkhffakhggdaaaDoor.Code
end
section
namespace Go.Proofs.YtbkhffakhggdaaaDoor.Code
open Go Go.Ab
end Go.Proofs.YtbkhffakhggdaaaDoor.Code
end
section
namespace Go.Proofs.YtbkhffakhggdaaaDoor.Code
open Go Go.Ab
variable {pure : Bool} {base bar : Nat} {H : Heap} {Q : AV → Heap → Prop} {K : AV → Heap → List Nat → Prop}
/-! 50: how many dyes, on any heap -/
def gg1 (a : AV) : Option AV := (abin .shr a (.int .u64 1)).bind fun y1 => (abin .and y1 (.int .u64 6148914691236517205)).bind fun y2 => (abin .and a (.int .u64 6148914691236517205)).bind fun y3 => abin .add y2 y3
def gg2 (a : AV) : Option AV := (abin .shr a (.int .u64 2)).bind fun y1 => (abin .and y1 (.int .u64 3689348814741910323)).bind fun y2 => (abin .and a (.int .u64 3689348814741910323)).bind fun y3 => abin .add y2 y3
def gg3 (a : AV) : Option AV := (abin .shr a (.int .u64 4)).bind fun y1 => (abin .add y1 a).bind fun y2 => abin .and y2 (.int .u64 1085102592571150095)
def gg4 (k : Int) (a : AV) : Option AV := (abin .shr a (.int .u64 k)).bind fun y1 => abin .add a y1
def kpc (x : Nat) : Bool := match (gg1 (.int .u64 (x : Int))).bind gg2 |>.bind gg3 |>.bind (gg4 8) |>.bind (gg4 16) |>.bind (gg4 32) with
  | some (.int .u64 v) => match abin .and (.int .i64 (IntKind.i64.wrap v)) (.int .i64 127) with
    | some (.int .i64 w) => decide (w = (pc x : Int))
    | _ => false
  | _ => false
theorem kpc_a : (List.range 64).all kpc = true := by kernel_rfl
theorem k113p {x : Nat} (hx : x < 64) (h : Q (.int .i64 (pc x : Nat)) H) : WpCall E pure base bar 113 [.int .u64 (x : Nat)] H Q := by
  have hk : kpc x = true := List.all_eq_true.1 kpc_a x (List.mem_range.2 hx)
  unfold kpc at hk
  split at hk
  · rename_i v hv
    split at hk
    · rename_i w hw
      have hw' := of_decide_eq_true hk
      subst hw'
      simp only [Option.bind_eq_some_iff] at hv
      obtain ⟨a5, ⟨a4, ⟨a3, ⟨a2, ⟨a1, h1, h2⟩, h3⟩, h4⟩, h5⟩, h6⟩ := hv
      simp only [gg1, gg2, gg3, gg4, Option.bind_eq_some_iff] at h1 h2 h3 h4 h5 h6
      obtain ⟨y1, e1, y2, e2, y3, e3, e4⟩ := h1
      obtain ⟨z1, f1, z2, f2, z3, f3, f4⟩ := h2
      obtain ⟨u1, p1, u2, p2, p3⟩ := h3
      obtain ⟨v1, q1, q2⟩ := h4
      obtain ⟨v3, q3, q4⟩ := h5
      obtain ⟨v5, q5, q6⟩ := h6
      rw [call113]
      simp [go_sem, WpFun, c113, e1, e2, e3, e4, f1, f2, f3, f4, p1, p2, p3, q1, q2, q3, q4, q5, q6, hw]
      exact h
    · cases hk
  · cases hk
theorem k50 {x : Nat} (hx : x < 64) (h : Q (.int .i64 (pc x : Nat)) H) : WpCall E pure base bar 50 [.int .i64 (x : Nat)] H Q := by
  rw [call50]
  simp [go_sem, WpFun, c50]
  rw [call97]
  simp [go_sem, WpFun, c97, u64n (show x < 9223372036854775808 by omega)]
  refine k113p hx ?_
  simp [go_sem]
  exact h
end Go.Proofs.YtbkhffakhggdaaaDoor.Code
end
section
namespace Go.Proofs.YtbkhffakhggdaaaDoor.Code
open Go Go.Ab
variable {pure : Bool} {base bar : Nat} {H : Heap} {Q : AV → Heap → Prop} {K : AV → Heap → List Nat → Prop}
end Go.Proofs.YtbkhffakhggdaaaDoor.Code
end
section
namespace Go.Proofs.YtbkhffakhggdaaaDoor.Code
open Go Go.Ab
variable {pure : Bool} {base bar : Nat} {H : Heap} {Q : AV → Heap → Prop} {K : AV → Heap → List Nat → Prop}
end Go.Proofs.YtbkhffakhggdaaaDoor.Code
end
end
section
namespace Go.Proofs.YtbkhffakhggdaaaDoor.Code
open Go Go.Ab
variable {pure : Bool} {base bar : Nat} {H : Heap} {Q : AV → Heap → Prop} {K : AV → Heap → List Nat → Prop}
/-! 70: the sets with one dye more or less -/
def xr (x j : Nat) : Nat := Nat.xor x (2 ^ j)
def nr1 (up : Bool) (x : Nat) (acc : List Nat) (j : Nat) : List Nat := if (decide (x < xr x j) == up) && !acc.contains (xr x j) then acc ++ [xr x j] else acc
theorem xr_lt {n x j : Nat} (hn : n ≤ 6) (hx : x < pw n) (hj : j < n) : xr x j < pw n := Nat.xor_lt_two_pow hx (Nat.pow_lt_pow_right (by decide) hj)
def kxr (x j : Nat) : Bool := match abin .xor (.int .u64 (x : Nat)) (.int .u64 ((pw j : Nat) : Int)) with
  | some (.int .u64 v) => v == (xr x j : Nat)
  | _ => false
def ksh (j : Nat) : Bool := match abin .shl (.int .u64 1) (.int .i64 (j : Nat)) with
  | some (.int .u64 v) => v == (pw j : Nat)
  | _ => false
theorem kxr_a : ((List.range 64).all fun x => (List.range 6).all fun j => kxr x j) = true := by kernel_rfl
theorem ksh_a : ((List.range 6).all ksh) = true := by kernel_rfl
theorem xor_u64 {x j : Nat} (hx : x < 64) (hj : j < 6) : abin .xor (.int .u64 (x : Nat)) (.int .u64 ((pw j : Nat) : Int)) = some (.int .u64 (xr x j : Nat)) := by
  have h := List.all_eq_true.1 (List.all_eq_true.1 kxr_a x (List.mem_range.2 hx)) j (List.mem_range.2 hj)
  unfold kxr at h
  split at h
  · rename_i e; rw [e, eq_of_beq h]
  · cases h
theorem shl_u6 {j : Nat} (hj : j < 6) : abin .shl (.int .u64 1) (.int .i64 (j : Nat)) = some (.int .u64 ((pw j : Nat) : Int)) := by
  have h := List.all_eq_true.1 ksh_a j (List.mem_range.2 hj)
  unfold ksh at h
  split at h
  · rename_i e; rw [e, eq_of_beq h]
  · cases h
theorem l70_0 {n x i L : Nat} {up : Bool} {q : AV} (hn : n ≤ 6) (hx : x < 64) {H0 : Heap} (hb : bar ≤ H0.length) (hbase : base ≤ H0.length) {R : PQ} : ∀ (c j : Nat) (acc : List Nat) (v : AV) (H : Heap), j + c = n → acc.length ≤ 1000 + j → Grow 1 (us acc) H0 v H →
    (∀ v' H', Grow 1 (us ((List.range' j c).foldl (nr1 up x) acc)) H0 v' H' → R (.exit 2) [(0, .int .i64 (n : Int)), (2, .bool up), (7, v'), (12, q), (13, .int .i64 (L : Int)), (14, .int .i64 (i : Int)), (9, .int .u64 (x : Int)), (18, .int .i64 (n : Int)), (19, .int .i64 (n : Int)), (20, .bool false)] H') →
    Wp E base bar (.loop c70_l0) [(0, .int .i64 (n : Int)), (2, .bool up), (7, v), (12, q), (13, .int .i64 (L : Int)), (14, .int .i64 (i : Int)), (9, .int .u64 (x : Int)), (18, .int .i64 (n : Int)), (19, .int .i64 (j : Int))] H R := by
  intro c
  induction c with
  | zero =>
    intro j acc v H hj ha g h
    obtain rfl : j = n := by omega
    rw [wp_round c70_l0.eq_1]
    simp [go_sem]
    exact h _ _ g
  | succ c ih =>
    intro j acc v H hj ha g h
    rw [List.range'_succ, List.foldl_cons] at h
    have hlt : j < n := by omega
    have hs := shl_u6 (j := j) (by omega)
    have hxo := xor_u64 hx (j := j) (by omega)
    have hw : IntKind.i64.wrap ((j : Int) + 1) = ((j + 1 : Nat) : Int) := i64_suc (by omega)
    have next := fun acc' v' H' => ih (j + 1) acc' v' H' (by omega)
    rw [wp_round c70_l0.eq_1]
    simp [go_sem, hlt, hs, hxo]
    cases hup : (decide (x < xr x j) == up)
    · have hne : ¬ decide (x < xr x j) = up := fun e => by rw [e] at hup; simp at hup
      have e1 : nr1 up x acc j = acc := by unfold nr1; rw [hup]; rfl
      rw [e1] at h
      rw [if_neg hne, hw]
      exact next acc v H (by omega) g h
    · have he : decide (x < xr x j) = up := eq_of_beq hup
      rw [if_pos he]
      refine k93g g hb (by omega) fun H2 g2 hl2 => ?_
      cases hc : acc.contains (xr x j)
      · have e1 : nr1 up x acc j = acc ++ [xr x j] := by unfold nr1; rw [hup, hc]; rfl
        rw [e1] at h
        simp [go_sem, aop, fillA, chunks, setCells, AV.noVec.noVecs, AV.noVec]
        rw [wpop_app]
        simp [Opd.ev, go_sem]
        refine gus g2 hb hbase (by omega) fun v3 H3 tc g3 => ?_
        simp [go_sem, hw]
        exact next _ v3 H3 (by simp; omega) g3 h
      · have e1 : nr1 up x acc j = acc := by unfold nr1; rw [hup, hc]; rfl
        rw [e1] at h
        simp [go_sem, hw]
        exact next acc v H2 (by omega) g2 h
theorem nr_len {up : Bool} {x : Nat} : ∀ {js acc : List Nat}, (js.foldl (nr1 up x) acc).length ≤ acc.length + js.length
  | [], acc => by simp
  | j :: js, acc => by
    have h := nr_len (up := up) (x := x) (js := js) (acc := nr1 up x acc j)
    have h2 : (nr1 up x acc j).length ≤ acc.length + 1 := by unfold nr1; split <;> simp
    rw [List.foldl_cons, List.length_cons]; omega
/-- all sets of a list with one dye more or less, each once -/
def nearB (n : Nat) (up : Bool) (acc l : List Nat) : List Nat := l.foldl (fun acc x => (List.range' 0 n).foldl (nr1 up x) acc) acc
theorem l70_1 {n : Nat} {up : Bool} {q : AV} {l : List Nat} (hn : n ≤ 6) (hq : isU q l) (hl : ∀ x ∈ l, x < 64) (hlen : l.length ≤ 64) {H0 : Heap} (hb : bar ≤ H0.length) (hbase : base ≤ H0.length) {R : PQ} : ∀ (c i : Nat) (acc : List Nat) (v : AV) (H : Heap), i + c = l.length → acc.length ≤ 6 * i → Grow 1 (us acc) H0 v H →
    (∀ v' H', Grow 1 (us (nearB n up acc (l.drop i))) H0 v' H' → R (.exit 0) [(0, .int .i64 (n : Int)), (2, .bool up), (7, v'), (12, q), (13, .int .i64 (l.length : Nat)), (14, .int .i64 (l.length : Nat)), (15, .bool false)] H') →
    Wp E base bar (.loop c70_l1) [(0, .int .i64 (n : Int)), (2, .bool up), (7, v), (12, q), (13, .int .i64 (l.length : Nat)), (14, .int .i64 (i : Nat))] H R := by
  intro c
  induction c with
  | zero =>
    intro i acc v H hi ha g h
    obtain rfl : i = l.length := by omega
    rw [List.drop_length] at h
    rw [wp_round c70_l1.eq_1]
    simp [go_sem]
    exact h _ _ g
  | succ c ih =>
    intro i acc v H hi ha g h
    have hlt : i < l.length := by omega
    rw [List.drop_eq_getElem_cons hlt] at h
    have hx := hl _ (List.getElem_mem hlt)
    have hix := fun (K : AV → Heap → List Nat → Prop) (k : IntKind) => hq.ix (H := H) (K := K) (k := k) hlt
    generalize l[i] = x at *
    have hw : IntKind.i64.wrap ((i : Int) + 1) = ((i + 1 : Nat) : Int) := i64_suc (by omega)
    rw [wp_round c70_l1.eq_1]
    simp [go_sem, hlt, hix]
    refine l70_0 (i := i) (L := l.length) hn hx hb hbase n 0 acc v H (by omega) (by omega) g fun v2 H2 g2 => ?_
    have hl2 := nr_len (up := up) (x := x) (js := List.range' 0 n) (acc := acc)
    rw [List.length_range'] at hl2
    simp [go_sem, hw]
    exact ih (i + 1) _ v2 H2 (by omega) (by omega) g2 h
theorem k70 {n : Nat} {up : Bool} {q : AV} {l : List Nat} (hn : n ≤ 6) (hq : isU q l) (hl : ∀ x ∈ l, x < 64) (hlen : l.length ≤ 64) (hbar : bar ≤ H.length) (h : Q (outL 1 (us (nearB n up [] l))) H) :
    WpCall E pure base bar 70 [.int .i64 (n : Int), q, .bool up] H Q := by
  have hbp : (if pure = true then H.length else bar) ≤ H.length := by cases pure <;> simp <;> omega
  rw [call70]
  simp [go_sem, WpFun, c70, hq.frz, hq.len]
  generalize (if pure = true then H.length else bar) = bar' at *
  refine l70_1 (up := up) hn hq hl hlen hbp (Nat.le_refl _) l.length 0 [] .nils H (by omega) (by simp) (by exact Grow.nil) fun v' H' g => ?_
  rw [List.drop_zero] at g
  simp [go_sem]
  refine goutU (vs := []) (fun c hc => by simp at hc) rfl g hbp (Nat.le_refl _) ?_
  rw [List.take_length]
  exact h
end Go.Proofs.YtbkhffakhggdaaaDoor.Code
end
section
set_option linter.all false
namespace Go.Ab
/-- the same slots in another order, each once -/
def FR (a b : Frame) : Prop := a.Perm b ∧ (a.map (·.1)).Nodup
theorem FR.symm {a b : Frame} (h : FR a b) : FR b a := ⟨h.1.symm, (h.1.map _).nodup_iff.1 h.2⟩
theorem fget_mem : ∀ {a : Frame} {t : Nat} {v : AV}, (a.map (·.1)).Nodup → (fget t a = some v ↔ (t, v) ∈ a)
  | [], t, v, _ => by simp [fget]
  | (u, x) :: r, t, v, h => by
    simp only [List.map_cons, List.nodup_cons] at h
    simp only [fget]
    split
    · rename_i e; subst e
      constructor
      · intro e; cases e; exact List.mem_cons_self
      · intro e
        rcases List.mem_cons.1 e with e | e
        · cases e; rfl
        · exact (h.1 (List.mem_map.2 ⟨_, e, rfl⟩)).elim
    · rename_i e
      rw [fget_mem h.2]
      constructor
      · exact fun m => List.mem_cons_of_mem _ m
      · intro m
        rcases List.mem_cons.1 m with m | m
        · cases m; exact (e rfl).elim
        · exact m
theorem FR.get {a b : Frame} (h : FR a b) (t : Nat) : fget t a = fget t b := by
  apply Option.ext
  intro v
  rw [fget_mem h.2, fget_mem h.symm.2]
  exact h.1.mem_iff
theorem fkeep_filter (ts : List Nat) : ∀ a : Frame, fkeep ts a = a.filter fun p => ts.contains p.1
  | [] => rfl
  | (u, x) :: r => by
    simp only [fkeep, List.filter_cons]
    split <;> simp [fkeep_filter ts r]
theorem FR.keep {a b : Frame} (h : FR a b) (ts : List Nat) : FR (fkeep ts a) (fkeep ts b) := by
  rw [fkeep_filter, fkeep_filter]
  exact ⟨h.1.filter _, (List.filter_sublist.map _).nodup h.2⟩
theorem fset_keys (t : Nat) (v : AV) : ∀ a : Frame, (fset t v a).map (·.1) = if t ∈ a.map (·.1) then a.map (·.1) else a.map (·.1) ++ [t]
  | [] => rfl
  | (u, x) :: r => by
    simp only [fset]
    split
    · rename_i e; subst e; simp
    · rename_i e
      simp only [List.map_cons, fset_keys t v r, List.mem_cons, e, false_or]
      split <;> rfl
theorem fset_nodup {t : Nat} {v : AV} {a : Frame} (h : (a.map (·.1)).Nodup) : ((fset t v a).map (·.1)).Nodup := by
  rw [fset_keys]
  split
  · exact h
  · rename_i hn
    rw [List.nodup_append]
    exact ⟨h, by simp, fun x hx y hy => by simp at hy; subst hy; intro e; subst e; exact hn hx⟩
theorem fset_fget {t u : Nat} {v : AV} : ∀ {a : Frame}, fget u (fset t v a) = if u = t then some v else fget u a
  | [] => by simp [fset, fget]
  | (w, x) :: r => by
    simp only [fset]
    split
    · rename_i e; subst e
      simp only [fget]
      split <;> rfl
    · rename_i e
      simp only [fget, fset_fget (a := r)]
      by_cases hu : u = w
      · subst hu
        rw [if_pos rfl, if_pos rfl, if_neg (fun c => e c.symm)]
      · rw [if_neg hu, if_neg hu]
theorem nodup_of_keys {a : Frame} (h : (a.map (·.1)).Nodup) : a.Nodup := by
  have := List.pairwise_map.1 h
  exact this.imp fun hne e => hne (by rw [e])
/-- frames with the same slots -/
theorem FR.of_get {a b : Frame} (ha : (a.map (·.1)).Nodup) (hb : (b.map (·.1)).Nodup) (h : ∀ t, fget t a = fget t b) : FR a b := by
  refine ⟨?_, ha⟩
  have na : a.Nodup := nodup_of_keys ha
  have nb : b.Nodup := nodup_of_keys hb
  refine (List.perm_ext_iff_of_nodup na nb).2 fun p => ?_
  obtain ⟨t, v⟩ := p
  rw [← fget_mem ha, ← fget_mem hb, h]
theorem FR.set {a b : Frame} (h : FR a b) (t : Nat) (v : AV) : FR (fset t v a) (fset t v b) :=
  .of_get (fset_nodup h.2) (fset_nodup h.symm.2) fun u => by rw [fset_fget, fset_fget, h.get]
theorem FR.put {a b : Frame} (h : FR a b) (d : Option Nat) (v : AV) : FR (fput d v a) (fput d v b) := by
  cases d with
  | none => exact h
  | some t => exact h.set t v
theorem FR.top {a b : Frame} (h : FR a b) : ftop a = ftop b := by
  have : ∀ {a b : Frame}, a.Perm b → ftop a = ftop b := by
    intro a b h
    induction h with
    | nil => rfl
    | cons x _ ih => obtain ⟨_, _⟩ := x; simp only [ftop, ih]
    | swap x y l => obtain ⟨_, _⟩ := x; obtain ⟨_, _⟩ := y; simp only [ftop]; omega
    | trans _ _ h1 h2 => exact h1.trans h2
  exact this h.1
theorem FR.ev {a b : Frame} (h : FR a b) (x : Opd) : x.ev a = x.ev b := by cases x <;> simp [Opd.ev, h.get]
theorem FR.evs {a b : Frame} (h : FR a b) : ∀ l : List Opd, Go.Ab.evs a l = Go.Ab.evs b l
  | [] => rfl
  | x :: r => by simp only [Go.Ab.evs, h.ev, h.evs r]
theorem FR.want {a b : Frame} (h : FR a b) (g : Option (Nat × Bool)) : wantA g a = wantA g b := by
  cases g with
  | none => rfl
  | some p => obtain ⟨t, b⟩ := p; simp only [wantA, h.get]
theorem FR.aop {a b : Frame} (h : FR a b) (base bar : Nat) (op : AOp) (H : Heap) : Go.Ab.aop base bar op a H = Go.Ab.aop base bar op b H := by
  have he := h.ev
  have hs := h.evs
  have ho : ∀ x, Opd.evo a x = Opd.evo b x := fun x => by cases x <;> simp only [Opd.evo, he]
  cases op <;> simp only [Go.Ab.aop, he, hs, ho]
theorem FR.aopC {a b : Frame} (h : FR a b) (env : Env) (ex : Ex) (pure : Bool) (base bar : Nat) (op : AOp) (H : Heap) : Go.Ab.aopC env ex pure base bar op a H = Go.Ab.aopC env ex pure base bar op b H := by
  cases op <;> simp only [Go.Ab.aopC, h.ev, h.evs, h.aop]
theorem FR.read {a b : Frame} (h : FR a b) (op : AOp) : readOf op a = readOf op b := by
  cases op <;> simp only [readOf, h.ev, h.evs]
theorem FR.ops {env : Env} {ex : Ex} {base bar : Nat} : ∀ {ops : List AOper} {a b : Frame} {H : Heap} {s : St}, FR a b → runOps env ex base bar ops ⟨a, H⟩ = some s → ∃ b', runOps env ex base bar ops ⟨b, H⟩ = some ⟨b', s.H⟩ ∧ FR s.fr b'
  | [], a, b, H, s, h, hr => by
    simp only [runOps, Option.some.injEq] at hr; subst hr
    exact ⟨b, rfl, h⟩
  | o :: r, a, b, H, s, h, hr => by
    unfold runOps at hr ⊢
    simp only [← h.want, ← h.aopC] at hr ⊢
    split at hr
    · split at hr <;> try (cases hr; done)
      exact FR.ops (h.put _ _) hr
    · exact FR.ops (h.put _ _) hr
    · cases hr
theorem FR.draw {env : Env} {ex : Ex} {base bar : Nat} : ∀ {ops : List AOper} {a b : Frame} {hs : List Heap} {tcs : List (List Nat)} {pend : List (Nat × Nat × Nat)} {s : St}, FR a b → runDraw env ex base bar ops a hs tcs pend = some s →
    ∃ b', runDraw env ex base bar ops b hs tcs pend = some ⟨b', s.H⟩ ∧ FR s.fr b'
  | [], a, b, hs, tcs, pend, s, h, hr => by
    unfold runDraw at hr ⊢
    split at hr <;> try (cases hr; done)
    rename_i hp
    rw [if_pos hp]
    split at hr <;> try (cases hr; done)
    rename_i e
    simp only [Option.some.injEq] at hr; subst hr
    exact ⟨b, rfl, h⟩
  | o :: r, a, b, hs, tcs, pend, s, h, hr => by
    unfold runDraw at hr ⊢
    simp only [← (h.keep o.looks).want, ← (h.keep o.looks).aopC, ← (h.keep o.looks).read] at hr ⊢
    split at hr
    · cases hr
    · split at hr <;> try (cases hr; done)
      split at hr
      · rename_i he; simp only [he, if_true]; exact FR.draw (h.put _ _) hr
      · rename_i he; simp only [he]; exact FR.draw (h.put _ _) hr
    · split at hr
      · rename_i he
        split at hr <;> try (cases hr; done)
        split at hr <;> try (cases hr; done)
        simp only [he, if_true]
        exact FR.draw (h.put _ _) hr
      · rename_i he
        split at hr <;> try (cases hr; done)
        split at hr <;> try (cases hr; done)
        split at hr <;> try (cases hr; done)
        rename_i ht
        simp only [he, ht, and_self, if_true]
        split at hr
        · rename_i hlo; simp only [hlo, if_true]; exact FR.draw (h.put _ _) hr
        · rename_i hlo
          simp only [hlo, if_false]
          split at hr
          · exact FR.draw (h.put _ _) hr
          · exact FR.draw (h.put _ _) hr
          · cases hr
theorem FR.twin {base bar : Nat} {H0 : Heap} : ∀ {ops : List (Nat × AOper)} {m : Nat} {a b : Frame} {H : Heap} {s : St}, FR a b → runTwin base bar H0 m ops a H = some s → ∃ b', runTwin base bar H0 m ops b H = some ⟨b', s.H⟩ ∧ FR s.fr b'
  | [], m, a, b, H, s, h, hr => by
    simp only [runTwin, Option.some.injEq] at hr; subst hr
    exact ⟨b, rfl, h⟩
  | (k, o) :: r, m, a, b, H, s, h, hr => by
    unfold runTwin at hr ⊢
    simp only [← (h.keep o.looks).aop] at hr ⊢
    split at hr <;> try (cases hr; done)
    split at hr <;> try (cases hr; done)
    rename_i hn
    rw [if_neg hn]
    exact FR.twin (h.put _ _) hr
theorem FR.slots {bar : Nat} : ∀ {ts : List Nat} {a b : Frame} {H : Heap} {s : St}, FR a b → frzSlots bar ts ⟨a, H⟩ = some s → ∃ b', frzSlots bar ts ⟨b, H⟩ = some ⟨b', s.H⟩ ∧ FR s.fr b'
  | [], a, b, H, s, h, hr => by
    simp only [frzSlots, Option.some.injEq] at hr; subst hr
    exact ⟨b, rfl, h⟩
  | t :: r, a, b, H, s, h, hr => by
    unfold frzSlots at hr ⊢
    simp only [← h.get] at hr ⊢
    split at hr <;> try (cases hr; done)
    split at hr <;> try (cases hr; done)
    exact FR.slots (h.set _ _) hr
def ExFR (ex : Ex) : Prop := ∀ base bar c a b H e s, FR a b → ex base bar c ⟨a, H⟩ = some (e, s) → ∃ b', ex base bar c ⟨b, H⟩ = some (e, ⟨b', s.H⟩) ∧ FR s.fr b'
theorem FR.execC {env : Env} {ex : Ex} (hx : ExFR ex) : ∀ (c : ACode) {base bar : Nat} {a b : Frame} {H : Heap} {e : AExit} {s : St}, FR a b → Go.Ab.execC env ex c base bar ⟨a, H⟩ = some (e, s) →
    ∃ b', Go.Ab.execC env ex c base bar ⟨b, H⟩ = some (e, ⟨b', s.H⟩) ∧ FR s.fr b'
  | .skip, _, _, a, b, H, e, s, h, hr => by
    simp only [Go.Ab.execC, Option.some.injEq, Prod.mk.injEq] at hr; obtain ⟨rfl, rfl⟩ := hr
    exact ⟨b, rfl, h⟩
  | .reg ops keep, _, _, a, b, H, e, s, h, hr => by
    unfold Go.Ab.execC at hr ⊢
    split at hr <;> try (cases hr; done)
    rename_i hc
    simp only [Option.some.injEq, Prod.mk.injEq] at hr; obtain ⟨rfl, rfl⟩ := hr
    obtain ⟨b', h1, h2⟩ := h.ops hc
    rw [h1]
    exact ⟨_, rfl, h2.keep keep⟩
  | .dreg ops keep, _, _, a, b, H, e, s, h, hr => by
    unfold Go.Ab.execC at hr ⊢
    split at hr <;> try (cases hr; done)
    rename_i hc
    simp only [Option.some.injEq, Prod.mk.injEq] at hr; obtain ⟨rfl, rfl⟩ := hr
    obtain ⟨b', h1, h2⟩ := h.draw hc
    rw [h1]
    exact ⟨_, rfl, h2.keep keep⟩
  | .twin ops keep, _, _, a, b, H, e, s, h, hr => by
    unfold Go.Ab.execC at hr ⊢
    split at hr <;> try (cases hr; done)
    rename_i hc
    simp only [Option.some.injEq, Prod.mk.injEq] at hr; obtain ⟨rfl, rfl⟩ := hr
    obtain ⟨b', h1, h2⟩ := h.twin hc
    rw [h1]
    exact ⟨_, rfl, h2.keep keep⟩
  | .seq c d, _, _, a, b, H, e, s, h, hr => by
    unfold Go.Ab.execC at hr ⊢
    split at hr
    · rename_i st hc
      obtain ⟨b', h1, h2⟩ := FR.execC hx c h hc
      rw [h1]
      exact FR.execC hx d h2 hr
    · rename_i hne
      obtain ⟨b', h1, h2⟩ := FR.execC hx c h hr
      rw [h1]
      cases e with
      | normal => exact absurd hr (hne _)
      | _ => exact ⟨b', rfl, h2⟩
  | .cond c d1 d2, _, _, a, b, H, e, s, h, hr => by
    unfold Go.Ab.execC at hr ⊢
    simp only [← h.ev] at hr ⊢
    split at hr
    · exact FR.execC hx d1 h hr
    · exact FR.execC hx d2 h hr
    · cases hr
  | .block id c, _, _, a, b, H, e, s, h, hr => by
    unfold Go.Ab.execC at hr ⊢
    split at hr
    · rename_i i st hc
      obtain ⟨b', h1, h2⟩ := FR.execC hx c h hc
      rw [h1]
      simp only
      split at hr <;> rename_i hi <;> simp only [Option.some.injEq, Prod.mk.injEq] at hr <;> obtain ⟨rfl, rfl⟩ := hr
      · rw [if_pos hi]; exact ⟨b', rfl, h2⟩
      · rw [if_neg hi]; exact ⟨b', rfl, h2⟩
    · rename_i hne
      obtain ⟨b', h1, h2⟩ := FR.execC hx c h hr
      rw [h1]
      cases e with
      | exit => exact absurd hr (hne _ _)
      | _ => exact ⟨b', rfl, h2⟩
  | .loop c, _, _, a, b, H, e, s, h, hr => by
    unfold Go.Ab.execC at hr ⊢
    split at hr
    · rename_i st hc
      obtain ⟨b', h1, h2⟩ := FR.execC hx c h hc
      rw [h1]
      exact hx _ _ _ _ _ _ _ _ h2 hr
    · rename_i hne
      obtain ⟨b', h1, h2⟩ := FR.execC hx c h hr
      rw [h1]
      cases e with
      | normal => exact absurd hr (hne _)
      | _ => exact ⟨b', rfl, h2⟩
  | .fresh keep c, _, _, a, b, H, e, s, h, hr => by
    unfold Go.Ab.execC at hr ⊢
    split at hr
    · rename_i st hc
      simp only [Option.some.injEq, Prod.mk.injEq] at hr; obtain ⟨rfl, rfl⟩ := hr
      obtain ⟨b', h1, h2⟩ := FR.execC hx c h hc
      rw [h1]
      exact ⟨b', rfl, h2⟩
    · rename_i e1 st hne hc
      obtain ⟨b', h1, h2⟩ := FR.execC hx c h hc
      rw [h1]
      simp only at hr
      split at hr <;> try (cases hr; done)
      rename_i ht
      simp only [Option.some.injEq, Prod.mk.injEq] at hr; obtain ⟨rfl, rfl⟩ := hr
      have ht' : ftop (fkeep keep b') ≤ H.length := by rw [← (h2.keep keep).top]; exact ht
      cases e1 with
      | ret => exact absurd rfl hne
      | _ => simp only [ht', if_true]; exact ⟨_, rfl, h2.keep keep⟩
    · cases hr
  | .frz ts c, _, _, a, b, H, e, s, h, hr => by
    unfold Go.Ab.execC at hr ⊢
    split at hr <;> try (cases hr; done)
    rename_i st hc
    obtain ⟨b', h1, h2⟩ := h.slots hc
    rw [h1]
    exact FR.execC hx c h2 hr
  | .exit id, _, _, a, b, H, e, s, h, hr => by
    simp only [Go.Ab.execC, Option.some.injEq, Prod.mk.injEq] at hr; obtain ⟨rfl, rfl⟩ := hr
    exact ⟨b, rfl, h⟩
  | .scope body cur, _, _, a, b, H, e, s, h, hr => by
    unfold Go.Ab.execC at hr ⊢
    split at hr
    · rename_i l st hc
      obtain ⟨b', h1, h2⟩ := FR.execC hx cur h hc
      rw [h1]
      simp only
      split at hr
      · exact hx _ _ _ _ _ _ _ _ h2 hr
      · simp only [Option.some.injEq, Prod.mk.injEq] at hr; obtain ⟨rfl, rfl⟩ := hr
        exact ⟨b', rfl, h2⟩
    · rename_i hne
      obtain ⟨b', h1, h2⟩ := FR.execC hx cur h hr
      rw [h1]
      cases e with
      | goto => exact absurd hr (hne _ _)
      | _ => exact ⟨b', rfl, h2⟩
  | .label _, _, _, a, b, H, e, s, h, hr => by
    simp only [Go.Ab.execC, Option.some.injEq, Prod.mk.injEq] at hr; obtain ⟨rfl, rfl⟩ := hr
    exact ⟨b, rfl, h⟩
  | .goto _, _, _, a, b, H, e, s, h, hr => by
    simp only [Go.Ab.execC, Option.some.injEq, Prod.mk.injEq] at hr; obtain ⟨rfl, rfl⟩ := hr
    exact ⟨b, rfl, h⟩
  | .ret, _, _, a, b, H, e, s, h, hr => by
    simp only [Go.Ab.execC, Option.some.injEq, Prod.mk.injEq] at hr; obtain ⟨rfl, rfl⟩ := hr
    exact ⟨b, rfl, h⟩
theorem exec_FR {env : Env} : ∀ n, ExFR (exec env n)
  | 0 => fun _ _ _ _ _ _ _ _ _ h => by simp [exec] at h
  | n + 1 => fun base bar c a b H e s h hr => by
    simp only [exec] at hr ⊢
    exact FR.execC (exec_FR n) c h hr
/-- code from the same slots in another order, where what comes later does not look at the order -/
theorem Wp.perm {env : Env} {base bar : Nat} {c : ACode} {a b : Frame} {H : Heap} {Q : PQ} (h : FR a b) (hq : ∀ e x y H', FR x y → Q e x H' → Q e y H') (hw : Wp env base bar c a H Q) : Wp env base bar c b H Q := by
  obtain ⟨n, e, s, h1, h2⟩ := hw
  obtain ⟨b', h3, h4⟩ := exec_FR n _ _ _ _ _ _ _ _ h h1
  exact ⟨n, e, _, h3, hq _ _ _ _ h4 h2⟩
end Go.Ab
end
