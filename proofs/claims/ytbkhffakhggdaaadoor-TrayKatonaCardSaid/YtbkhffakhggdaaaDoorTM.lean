/-
  Part of the proofs about this chapter: contracts of functions and plain laws.
-/
import Derived.Test.YtbkhffakhggdaaaDoorTK
set_option linter.all false
namespace Go.Proofs.YtbkhffakhggdaaaDoor.Code
open Go Go.Ab

/-! counts of bits, below 1024 -/
def pq (x : Nat) : Nat := ((List.range 10).filter fun i => x.testBit i).length
def kkq (x : Nat) : Bool := match (g1 (.int .u64 (x : Int))).bind g2 |>.bind g3 |>.bind (g4 8) |>.bind (g4 16) |>.bind (g4 32) with
  | some (.int .u64 v) => match abin .and (.int .i64 (IntKind.i64.wrap v)) (.int .i64 127) with
    | some (.int .i64 w) => decide (w = (pq x : Int))
    | _ => false
  | _ => false
theorem kkq_a : (List.range 1024).all kkq = true := by kernel_rfl
theorem k113q {x : Nat} {Q : AV → Heap → Prop} {H : Heap} {b : Nat} (hx : x < 1024) (hb : b ≤ H.length) (h : Q (.int .i64 (pq x : Nat)) H) : WpCall E false b 0 113 [.int .u64 (x : Nat)] H Q := by
  have hk : kkq x = true := List.all_eq_true.1 kkq_a x (List.mem_range.2 hx)
  unfold kkq at hk
  split at hk
  · rename_i v hv
    split at hk
    · rename_i w hw
      have hw' := of_decide_eq_true hk
      subst hw'
      simp only [Option.bind_eq_some_iff] at hv
      obtain ⟨a5, ⟨a4, ⟨a3, ⟨a2, ⟨a1, h1, h2⟩, h3⟩, h4⟩, h5⟩, h6⟩ := hv
      simp only [g1, g2, g3, g4, Option.bind_eq_some_iff] at h1 h2 h3 h4 h5 h6
      obtain ⟨y1, e1, y2, e2, y3, e3, e4⟩ := h1
      obtain ⟨z1, f1, z2, f2, z3, f3, f4⟩ := h2
      obtain ⟨u1, p1, u2, p2, p3⟩ := h3
      obtain ⟨v1, q1, q2⟩ := h4
      obtain ⟨v3, q3, q4⟩ := h5
      obtain ⟨v5, q5, q6⟩ := h6
      rw [call113]
      simp [go_sem, WpFun, c113, e1, e2, e3, e4, f1, f2, f3, f4, p1, p2, p3, q1, q2, q3, q4, q5, q6, hw]
      exact h
    · cases hk
  · cases hk
theorem u64n' {a : Nat} (h : a < 1024) : IntKind.u64.wrap (a : Int) = a := Go.IntWalk.u64_in _ (by omega)
theorem kdq {x : Nat} {Q : AV → Heap → Prop} {H : Heap} {b : Nat} (hx : x < 1024) (h : Q (.int .i64 (pq x : Nat)) H) : WpCall E false b 0 50 [.int .i64 (x : Nat)] H Q := by
  rw [call50]
  simp [go_sem, WpFun, c50]
  rw [call97]
  simp [go_sem, WpFun, c97, u64n' hx]
  refine k113q hx (by simp) ?_
  simp [go_sem]
  exact h

/-! words of 64 bits -/
theorem and_i64 {a b : Nat} (ha : a < 9223372036854775808) (hb : b < 9223372036854775808) : abin .and (.int .i64 a) (.int .i64 b) = some (.int .i64 ((band a b : Nat) : Int)) := by
  have e : (BitVec.ofInt 64 (a : Int) &&& BitVec.ofInt 64 (b : Int)).toNat = band a b := by
    rw [BitVec.toNat_and, ofInt_toNat (w := 64) (by omega), ofInt_toNat (w := 64) (by omega)]; rfl
  have : band a b ≤ a := Nat.and_le_left
  simp only [abin, binInt, if_true]
  rw [show IntKind.i64.bits = 64 from rfl, e, i64_nat (by omega)]
def shq (a b : Nat) : Nat := a / 2 ^ (min b 64)
theorem shr_i64 {a b : Nat} : abin .shr (.int .i64 (a : Int)) (.int .i64 (b : Int)) = some (.int .i64 ((shq a b : Nat) : Int)) := by
  simp only [abin]
  rw [if_neg (by omega)]
  simp only [Int.toNat_natCast, show IntKind.i64.bits = 64 from rfl]
  congr 2
  rw [show (2 : Int) ^ (min b 64) = ((2 ^ (min b 64) : Nat) : Int) by simp, Int.fdiv_eq_ediv_of_nonneg _ (Int.natCast_nonneg _)]
  exact (Int.natCast_ediv _ _).symm
theorem shq_bit {a b : Nat} (hb : b ≤ 64) : band (shq a b) 1 = (a.testBit b).toNat := by
  unfold band shq
  rw [Nat.min_eq_left hb, Nat.and_one_is_mod, Nat.toNat_testBit]
theorem and_i64_one {a : Nat} (ha : a < 9223372036854775808) : abin .and (.int .i64 a) (.int .i64 1) = some (.int .i64 ((band a 1 : Nat) : Int)) := and_i64 (b := 1) ha (by decide)
/-- the lowest bit alone -/
def lob (y : Nat) : Nat := y ^^^ (y &&& (y - 1))
def offb (x z : Nat) : Nat := x &&& (1023 ^^^ z)
def okI (r : Option AV) (n : Nat) : Bool := match r with
  | some (.int .i64 v) => decide (v = (n : Int))
  | _ => false
theorem okI_eq {r : Option AV} {n : Nat} (h : okI r n = true) : r = some (.int .i64 (n : Int)) := by
  unfold okI at h
  split at h
  · rw [of_decide_eq_true h]
  · cases h
theorem lob_a : ((List.range 32).all fun y => okI (abin .and (.int .i64 (y : Int)) (.int .i64 (IntKind.i64.wrap (-(y : Int))))) (lob y)) = true := by kernel_rfl
theorem lob_i64 {y : Nat} (hy : y < 32) : abin .and (.int .i64 (y : Int)) (.int .i64 (IntKind.i64.wrap (-(y : Int)))) = some (.int .i64 ((lob y : Nat) : Int)) :=
  okI_eq (List.all_eq_true.1 lob_a y (List.mem_range.2 hy))
theorem offb_a : ((List.range 32).all fun x => (List.range 32).all fun z => okI (abin .andNot (.int .i64 (x : Int)) (.int .i64 (z : Int))) (offb x z)) = true := by kernel_rfl
theorem offb_i64 {x z : Nat} (hx : x < 32) (hz : z < 32) : abin .andNot (.int .i64 (x : Int)) (.int .i64 (z : Int)) = some (.int .i64 ((offb x z : Nat) : Int)) :=
  okI_eq (List.all_eq_true.1 (List.all_eq_true.1 offb_a x (List.mem_range.2 hx)) z (List.mem_range.2 hz))
theorem lob_lt {y : Nat} (hy : y < 32) : lob y < 32 := by
  have : ∀ y, y < 32 → lob y < 32 := by decide +kernel
  exact this y hy

/-! a set as a map -/
def mks (ks : List Nat) : List (AV × AV) := ks.map fun (k : Nat) => (AV.int .i64 (k : Int), AV.bool true)
def addS (ks : List Nat) (k : Nat) : List Nat := if ks.contains k then ks else ks ++ [k]
theorem mfind_mks {k : Nat} : ∀ {ks : List Nat} {i : Nat}, mfind .i64 (k : Int) (mks ks) i = if ks.contains k then some (some (i + ks.idxOf k, .bool true)) else some none
  | [], i => rfl
  | x :: r, i => by
    simp only [mks, List.map_cons, mfind, if_true]
    by_cases h : k = x
    · subst h; simp
    · have hne : ¬ ((k : Int) = (x : Int)) := by omega
      have ih := mfind_mks (k := k) (ks := r) (i := i + 1)
      rw [if_neg hne]
      rw [show (List.map (fun (k : Nat) => (AV.int .i64 (k : Int), AV.bool true)) r) = mks r from rfl, ih]
      have hb : (x == k) = false := by simpa using fun h' => h h'.symm
      have hb' : (k == x) = false := by simpa using h
      have e1 : (x :: r).contains k = r.contains k := by rw [List.contains_cons, hb', Bool.false_or]
      have e2 : (x :: r).idxOf k = r.idxOf k + 1 := by simp [List.idxOf_cons, hb]
      rw [e1, e2, show i + 1 + r.idxOf k = i + (r.idxOf k + 1) by omega]
theorem mks_set {k : Nat} : ∀ {ks : List Nat}, ks.contains k = true → (mks ks).set (ks.idxOf k) (AV.int .i64 (k : Int), AV.bool true) = mks ks
  | [], h => by simp at h
  | x :: r, h => by
    by_cases hx : x = k
    · subst hx; simp [mks]
    · have hb : (x == k) = false := by simpa using hx
      have hr : r.contains k = true := by
        simp only [List.contains_cons, Bool.or_eq_true, beq_iff_eq] at h
        rcases h with h | h
        · exact (hx h.symm).elim
        · simpa using h
      have := mks_set hr
      simp only [List.idxOf_cons, hb, cond_false, mks, List.map_cons, List.set_cons_succ] at this ⊢
      rw [this]
theorem mupd_mks {base bar id : Nat} {H : Heap} {fr : Ab.Frame} {m k v : Opd} {ks : List Nat} {x : Nat} (hm : m.ev fr = some (.mp id)) (hk : k.ev fr = some (.int .i64 (x : Int))) (hv : v.ev fr = some (.bool true)) (hb : bar ≤ id) (hH : H[id]? = some (.map (mks ks))) :
    aop base bar (.mupd m k v) fr H = some (.tup [], H.set id (.map (mks (addS ks x))), [id]) := by
  simp only [aop, hm, hk, hv, hH, mfind_mks]
  have hnv : ¬ ¬ (AV.top (.bool true) = 0 ∧ AV.isTup (.bool true) = false ∧ bar ≤ id) := by simp [hb, AV.top, AV.isTup]
  rw [if_neg hnv]
  cases hc : ks.contains x
  · have e : addS ks x = ks ++ [x] := by unfold addS; rw [hc]; rfl
    rw [e]; simp [mks]
  · have e : addS ks x = ks := by unfold addS; rw [hc]; rfl
    rw [e]
    simp only [if_true, Nat.zero_add]
    rw [mks_set hc]
theorem mupd_wp {base bar id : Nat} {H : Heap} {fr : Ab.Frame} {m k v : Opd} {ks : List Nat} {x : Nat} {K : AV → Heap → List Nat → Prop} (hm : m.ev fr = some (.mp id)) (hk : k.ev fr = some (.int .i64 (x : Int))) (hv : v.ev fr = some (.bool true)) (hb : bar ≤ id) (hH : H[id]? = some (.map (mks ks)))
    (h : K (.tup []) (H.set id (.map (mks (addS ks x)))) [id]) : opWp (aop base bar (.mupd m k v) fr H) K := by
  rw [mupd_mks hm hk hv hb hH]
  exact h

/-- the shadow of one set, taken to some -/
def shY (x : Nat) : Nat → Nat → List Nat → List Nat
  | 0, _, ks => ks
  | f + 1, y, ks => if y = 0 then ks else shY x f (band y (y - 1)) (addS ks (offb x (lob y)))
def shA (some : Nat) : List Nat → Nat → List Nat → List Nat
  | [], _, ks => ks
  | x :: r, i, ks => shA some r (i + 1) (if some.testBit i then shY x 32 x ks else ks)
def bestS (S : List Nat) (k : Nat) : Nat → Nat → Nat → Nat
  | 0, _, b => b
  | c + 1, z, b => bestS S k c (z + 1) (if pq z = k then min b (shA z S 0 []).length else b)
end Go.Proofs.YtbkhffakhggdaaaDoor.Code
namespace Go.Proofs.YtbkhffakhggdaaaDoor.Code
open Go Go.Ab
theorem natNe {a b : Nat} : ¬ ((a : Int) = (b : Int)) ↔ a ≠ b := by omega
theorem shY_zero {x f : Nat} {ks : List Nat} : shY x f 0 ks = ks := by cases f <;> simp [shY]
theorem band_lt' {y : Nat} (h : 0 < y) : band y (y - 1) < y := Nat.lt_of_le_of_lt (Nat.and_le_right) (by omega)
theorem shY_fuel {x : Nat} : ∀ {f g y : Nat} {ks : List Nat}, y ≤ f → y ≤ g → shY x f y ks = shY x g y ks
  | 0, g, y, ks, h1, h2 => by
    obtain rfl : y = 0 := by omega
    rw [shY_zero, shY_zero]
  | f + 1, 0, y, ks, h1, h2 => by
    obtain rfl : y = 0 := by omega
    rw [shY_zero, shY_zero]
  | f + 1, g + 1, y, ks, h1, h2 => by
    simp only [shY]
    split
    · rfl
    · have := band_lt' (y := y) (by omega)
      exact shY_fuel (by omega) (by omega)
/-- the loop over the bits of one set -/
theorem l9_1 {R0 : Blk} {n r k best some L i x m : Nat} {v : AV} {R : PQ} (hx : x < 32) : ∀ (f y : Nat) (ks : List Nat), y ≤ f → y < 32 →
    R (.exit 6) [(7, .int .i64 (n : Nat)), (8, .int .i64 (r : Nat)), (9, v), (11, .int .i64 (k : Nat)), (12, .int .i64 (best : Nat)), (64, .int .i64 (L : Nat)), (65, .int .i64 (some : Nat)), (13, .int .i64 (some : Nat)), (14, .mp 1), (73, v), (74, .int .i64 (m : Nat)), (75, .int .i64 (i : Nat)), (16, .int .i64 (x : Nat)), (17, .int .i64 0), (87, .bool false)] [R0, .map (mks (shY x f y ks))] →
    Wp E 1 0 (.loop c9_l1) [(7, .int .i64 (n : Nat)), (8, .int .i64 (r : Nat)), (9, v), (11, .int .i64 (k : Nat)), (12, .int .i64 (best : Nat)), (64, .int .i64 (L : Nat)), (65, .int .i64 (some : Nat)), (13, .int .i64 (some : Nat)), (14, .mp 1), (73, v), (74, .int .i64 (m : Nat)), (75, .int .i64 (i : Nat)), (16, .int .i64 (x : Nat)), (17, .int .i64 (y : Nat))] [R0, .map (mks ks)] R := by
  intro f
  induction f with
  | zero =>
    intro y ks hy hy2 h
    obtain rfl : y = 0 := by omega
    rw [wp_round c9_l1.eq_1]
    simp [go_sem]
    exact h
  | succ f ih =>
    intro y ks hy hy2 h
    rw [wp_round c9_l1.eq_1]
    by_cases h0 : y = 0
    · subst h0
      rw [shY_zero] at h
      simp [go_sem]
      exact h
    · have hlt := band_lt' (y := y) (by omega)
      simp only [shY, if_neg h0] at h
      have next := ih (band y (y - 1)) _ (by omega) (by omega) h
      have hw : IntKind.i64.wrap ((y : Int) - 1) = ((y - 1 : Nat) : Int) := by rw [show (y : Int) - 1 = ((y - 1 : Nat) : Int) by omega, i64_nat (by omega)]
      have ha := and_i64 (a := y) (b := y - 1) (by omega) (by omega)
      simp [go_sem, h0, lob_i64 hy2, offb_i64 hx (lob_lt hy2)]
      refine mupd_wp (ks := ks) (x := offb x (lob y)) rfl rfl rfl (by omega) rfl ?_
      simp [go_sem, hw, ha]
      exact next
end Go.Proofs.YtbkhffakhggdaaaDoor.Code
namespace Go.Proofs.YtbkhffakhggdaaaDoor.Code
open Go Go.Ab
theorem ix_vec {id ver len i : Nat} {k : IntKind} {H : Heap} {K : AV → Heap → List Nat → Prop} (hi : i < len) : ixaSWp 1 (some (.vec id ver 0 len 1)) (some (.int k (i : Int))) H K = K (.ptr id ver i) H [] := by
  simp [go_sem, hi]
/-- the loop over the sets of a shelf -/
theorem l9_2 {ver fz n r k best some L m : Nat} {S : List Nat} (hS : ∀ x ∈ S, x < 32) (hm : m = S.length) (hm10 : m ≤ 10) (hsome : some < 1024) {R : PQ} : ∀ (c i : Nat) (ks : List Nat), i + c = m →
    R (.exit 4) [(7, .int .i64 (n : Nat)), (8, .int .i64 (r : Nat)), (9, .vec 0 ver 0 m 1), (11, .int .i64 (k : Nat)), (12, .int .i64 (best : Nat)), (64, .int .i64 (L : Nat)), (65, .int .i64 (some : Nat)), (13, .int .i64 (some : Nat)), (14, .mp 1), (73, .vec 0 ver 0 m 1), (74, .int .i64 (m : Nat)), (75, .int .i64 (m : Nat)), (76, .bool false)] [.row ver (nats S) fz false, .map (mks (shA some (S.drop i) i ks))] →
    Wp E 1 0 (.loop c9_l2) [(7, .int .i64 (n : Nat)), (8, .int .i64 (r : Nat)), (9, .vec 0 ver 0 m 1), (11, .int .i64 (k : Nat)), (12, .int .i64 (best : Nat)), (64, .int .i64 (L : Nat)), (65, .int .i64 (some : Nat)), (13, .int .i64 (some : Nat)), (14, .mp 1), (73, .vec 0 ver 0 m 1), (74, .int .i64 (m : Nat)), (75, .int .i64 (i : Nat))] [.row ver (nats S) fz false, .map (mks ks)] R := by
  intro c
  induction c with
  | zero =>
    intro i ks hi h
    obtain rfl : i = m := by omega
    rw [hm, List.drop_length] at h
    rw [wp_round c9_l2.eq_1]
    simp [go_sem]
    rw [hm]
    exact h
  | succ c ih =>
    intro i ks hi h
    have hlt : i < m := by omega
    have hlt' : i < S.length := by omega
    rw [List.drop_eq_getElem_cons hlt'] at h
    have hx := hS _ (List.getElem_mem hlt')
    have ld : aload [.row ver (nats S) fz false, .map (mks ks)] ⟨false, 1⟩ (.ptr 0 ver i) = Option.some (.int .i64 ((S[i] : Nat) : Int)) := by
      rw [aload_ptr (H := [.row ver (nats S) fz false, .map (mks ks)]) (id := 0) rfl]
      simp [Ab.part, nats_get hlt']
    have hb := shq_bit (a := some) (b := i) (by omega)
    have hand := and_i64_one (a := shq some i) (Nat.lt_of_le_of_lt (Nat.div_le_self _ _) (show some < 9223372036854775808 by omega))
    rw [hb] at hand
    generalize S[i] = x at *
    rw [wp_round c9_l2.eq_1]
    simp only [shA] at h
    cases ht : some.testBit i
    · rw [ht] at h hand
      simp only [Bool.false_eq_true, if_false] at h
      have next := ih (i + 1) ks (by omega) h
      simp [go_sem, hlt, ld, shr_i64, hand, i64_suc (show i < 1000000 by omega)]
      exact next
    · rw [ht] at h hand
      simp only [if_true] at h
      have next := ih (i + 1) _ (by omega) h
      simp [go_sem, hlt, ld, shr_i64, hand]
      refine l9_1 hx 32 x ks (by omega) hx ?_
      simp [go_sem, i64_suc (show i < 1000000 by omega)]
      exact next
/-- the loop over all shelves -/
theorem l9_3 {ver fz n r k L m : Nat} {S : List Nat} (hS : ∀ x ∈ S, x < 32) (hm : m = S.length) (hm10 : m ≤ 10) (hL : L = pw m) {R : PQ} : ∀ (c z best : Nat), z + c = L →
    R (.exit 2) [(7, .int .i64 (n : Nat)), (8, .int .i64 (r : Nat)), (9, .vec 0 ver 0 m 1), (11, .int .i64 (k : Nat)), (12, .int .i64 (bestS S k c z best : Nat)), (64, .int .i64 (L : Nat)), (65, .int .i64 (L : Nat)), (66, .bool false)] [.row ver (nats S) fz false] →
    Wp E 0 0 (.loop c9_l3) [(7, .int .i64 (n : Nat)), (8, .int .i64 (r : Nat)), (9, .vec 0 ver 0 m 1), (11, .int .i64 (k : Nat)), (12, .int .i64 (best : Nat)), (64, .int .i64 (L : Nat)), (65, .int .i64 (z : Nat))] [.row ver (nats S) fz false] R := by
  have hp : pw m ≤ 1024 := Nat.le_trans (Nat.pow_le_pow_right (by decide) hm10) (by decide : 2 ^ 10 ≤ 1024)
  intro c
  induction c with
  | zero =>
    intro z best hz h
    obtain rfl : z = L := by omega
    rw [wp_round c9_l3.eq_1]
    simp [go_sem]
    exact h
  | succ c ih =>
    intro z best hz h
    have hlt : z < L := by omega
    simp only [bestS] at h
    rw [wp_round c9_l3.eq_1]
    simp [go_sem, hlt]
    refine kdq (by omega) ?_
    by_cases hk : pq z = k
    · rw [if_pos hk] at h
      have next := ih (z + 1) _ (by omega) h
      simp [go_sem, hk, natEq]
      refine l9_2 hS hm hm10 (by omega) m 0 [] (by omega) ?_
      rw [List.drop_zero]
      simp [go_sem, aop, i64_suc (show z < 1000000 by omega)]
      have e : (if (mks (shA z S 0 [])).length < best then (((mks (shA z S 0 [])).length : Nat) : Int) else (best : Int)) = ((min best (shA z S 0 []).length : Nat) : Int) := by
        have : (mks (shA z S 0 [])).length = (shA z S 0 []).length := by simp [mks]
        rw [this]
        split <;> omega
      rw [e]
      exact next
    · rw [if_neg hk] at h
      have next := ih (z + 1) _ (by omega) h
      simp [go_sem, hk, natEq, i64_suc (show z < 1000000 by omega)]
      exact next
end Go.Proofs.YtbkhffakhggdaaaDoor.Code
namespace Go.Proofs.YtbkhffakhggdaaaDoor.Code
open Go Go.Ab
theorem Grow.cell {S : List Nat} {v : AV} {H : Heap} (g : Grow 1 (nats S) [] v H) (h : S ≠ []) : ∃ ver fz, v = .vec 0 ver 0 S.length 1 ∧ H = [.row ver (nats S) fz false] := by
  rcases g with ⟨h1, _, _⟩ | ⟨ver, fz, _, _, h3, h4⟩
  · exact (h (nats_eq_nil.1 h1)).elim
  · exact ⟨ver, fz, by simpa [nats_length] using h3, by simpa using h4⟩
def sdrop : Nat → ACode → ACode
  | n + 1, .seq _ b => sdrop n b
  | _, c => c
/-- what comes behind the search -/
def tail9 : ACode := sdrop 8 c9.body
def fr9 (n r k ver : Nat) : Ab.Frame := [(7, .int .i64 (n : Int)), (8, .int .i64 (r : Int)), (9, .vec 0 ver 0 (ks r (pw n)).length 1), (11, .int .i64 (k : Int)), (12, .int .i64 (bestS (ks r (pw n)) k (pw (ks r (pw n)).length) 0 (pw n) : Nat)), (64, .int .i64 (pw (ks r (pw n)).length : Nat)), (65, .int .i64 (pw (ks r (pw n)).length : Nat)), (66, .bool false)]
def chk9 (ver : Nat) (R0 : Blk) (n r k : Nat) : Bool := match exec E 200000 0 0 tail9 ⟨fr9 n r k ver, [R0]⟩ with
  | some (.ret, ⟨[(6, .bool true)], _⟩) => true
  | _ => false
theorem chk9_wp {ver n r k : Nat} {R0 : Blk} (h : chk9 ver R0 n r k = true) {Q : PQ} (hq : ∀ H, Q .ret [(6, .bool true)] H) : Wp E 0 0 tail9 (fr9 n r k ver) [R0] Q := by
  unfold chk9 at h
  split at h
  · rename_i H' he
    exact ⟨_, _, _, he, hq _⟩
  · cases h
theorem law9 {m r k : Nat} (hm : m < 5) (hr : r < m + 2) (hk : k < (ks r (pw (m + 1))).length + 1) (hall : ∀ ver R0, chk9 ver R0 (m + 1) r k = true) : WpCall E false 0 0 9 [.int .u8 (m : Nat), .int .u8 (r : Nat), .int .u8 (k : Nat)] [] (fun v _ => v = .bool true) := by
  have r2 : (m : Int).tmod 5 = (m : Int) := (rest_self hm).tmod
  have r4 : (r : Int).tmod ((m + 2 : Nat) : Int) = (r : Int) := (rest_self hr).tmod
  obtain ⟨v', H', g, hf⟩ := l9 (n := m + 1) (r := r) (by omega) (pw (m + 1)) 0 .nils [] (by omega) (by exact Grow.nil)
  have hL : (ks r (pw (m + 1))).length ≤ 10 := by
    have : ∀ m, m < 5 → ∀ r, r < m + 2 → (ks r (pw (m + 1))).length ≤ 10 := by decide +kernel
    exact this m hm r hr
  have hne : ks r (pw (m + 1)) ≠ [] := by
    have : ∀ m, m < 5 → ∀ r, r < m + 2 → ks r (pw (m + 1)) ≠ [] := by decide +kernel
    exact this m hm r hr
  have hlt : ∀ x ∈ ks r (pw (m + 1)), x < 32 := by
    have : ∀ m, m < 5 → ∀ r, r < m + 2 → ∀ x ∈ ks r (pw (m + 1)), x < 32 := by decide +kernel
    exact this m hm r hr
  obtain ⟨ver, fz, rfl, rfl⟩ := Grow.cell g hne
  generalize hS : ks r (pw (m + 1)) = S at *
  have r6 : (k : Int).tmod ((S.length + 1 : Nat) : Int) = (k : Int) := (rest_self hk).tmod
  have hn : IntKind.i64.wrap (1 + (m : Int)) = ((m + 1 : Nat) : Int) := by rw [show 1 + (m : Int) = ((m + 1 : Nat) : Int) by omega, i64_nat (by omega)]
  have hn1 : IntKind.i64.wrap (((m + 1 : Nat) : Int) + 1) = ((m + 2 : Nat) : Int) := i64_suc (by omega)
  have hL1 : IntKind.i64.wrap ((S.length : Int) + 1) = ((S.length + 1 : Nat) : Int) := i64_suc (by omega)
  have hs := shl_i64 (n := m + 1) (by omega)
  have hs2 := shl_i64 (n := S.length) (by omega)
  have z2 : ((m + 2 : Nat) : Int) ≠ 0 := by omega
  have hpm : pw (m + 1) = pw (m + 1) := rfl
  generalize hm2 : m + 2 = m2 at *
  generalize hn' : m + 1 = n at *
  have hfr : fr9 n r k ver = [(7, .int .i64 (n : Int)), (8, .int .i64 (r : Int)), (9, .vec 0 ver 0 S.length 1), (11, .int .i64 (k : Int)), (12, .int .i64 (bestS S k (pw S.length) 0 (pw n) : Nat)), (64, .int .i64 (pw S.length : Nat)), (65, .int .i64 (pw S.length : Nat)), (66, .bool false)] := by unfold fr9; rw [hS]
  have zL : ((S.length + 1 : Nat) : Int) ≠ 0 := by omega
  generalize hl1 : S.length + 1 = l1 at *
  rw [call9]
  simp [go_sem, WpFun, c9, i64_nat (show m < 9223372036854775808 by omega), i64_nat (show r < 9223372036854775808 by omega), abin_rem (show (5 : Int) ≠ 0 by decide), abin_rem z2, r2, r4, hn, hn1, hs]
  refine hf k _ ?_
  simp [go_sem, i64_nat (show k < 9223372036854775808 by omega), hL1, abin_rem zL, r6, hs2, hs]
  refine l9_3 (m := S.length) hlt rfl hL rfl (pw S.length) 0 (pw n) (by omega) ?_
  simp only [exitWp_exit, if_true, thenWp_normal]
  show Wp E 0 0 tail9 _ _ _
  rw [← hfr]
  refine chk9_wp (hall _ _) fun H => ?_
  simp [go_sem]
end Go.Proofs.YtbkhffakhggdaaaDoor.Code
