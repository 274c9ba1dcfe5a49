/-
  Parts of the proofs about this chapter, joined: contracts of functions and plain laws.
-/
import Derived.Test.YtngoldipfgfecaaCall
import Derived.Test.YtngoldipfgfecaaKit
set_option linter.all false
section
set_option linter.all false
section
namespace Go.Proofs.Ytngoldipfgfecaa.Code
open Go Go.Ab
attribute [go_sem ↓] wpop_app
variable {pure : Bool} {base bar : Nat} {H : Heap} {Q : AV → Heap → Prop}
/-- is a number from a to b -/
def within (a b n : Int) : Bool := decide (a ≤ n) && decide (n ≤ b)
theorem k86 {n a b : Int} : WpCall E pure base bar 86 [.int .i64 a, .int .i64 n, .int .i64 b] H Q ↔ Q (.bool (within a b n)) H := by
  rw [call86]
  simp [go_sem, WpFun, c86]
  unfold within
  by_cases h : a ≤ n <;> simp [h]
def tz8 (s : Nat) : Nat := ((List.range 8).find? (s.testBit ·)).getD 8
theorem tz8_tab : ∀ i, i < 256 → c89_b0[i]? = some (tz8 i).toUInt8 := by decide +kernel
theorem tz8_lt (s : Nat) : tz8 s ≤ 8 := by
  unfold tz8
  cases h : (List.range 8).find? (s.testBit ·) with
  | none => simp
  | some i => have := List.mem_of_find?_eq_some h; simp at this; simp; omega
theorem k89 {s : Nat} (hs : s < 256) : WpCall E pure base bar 89 [.int .u8 s] H Q ↔ Q (.int .i64 (tz8 s)) H := by
  rw [call89]
  have h2 := tz8_lt s
  simp [go_sem, WpFun, c89, aop, AV.asNat, tz8_tab s hs]
  rw [show ((tz8 s : Nat) : Int) % 256 = tz8 s by omega, i64_nat (by omega)]
/-- the people of a set -/
def bitsOf (s : Nat) : List Nat := (List.range 8).filter (s.testBit ·)
theorem bits_step : ∀ s, s < 256 → s ≠ 0 → bitsOf s = tz8 s :: bitsOf (band s (s - 1)) ∧ band s (s - 1) < s := by decide +kernel
theorem bits_zero : bitsOf 0 = [] := by decide
theorem bits_len (s : Nat) : (bitsOf s).length ≤ 8 := by
  unfold bitsOf
  exact Nat.le_trans (List.length_filter_le _ _) (by simp)
theorem u8_sub1 {s : Nat} (hs : s < 256) (h0 : s ≠ 0) : IntKind.u8.wrap ((s : Int) - 1) = ((s - 1 : Nat) : Int) := by
  rw [show (s : Int) - 1 = ((s - 1 : Nat) : Int) by omega, u8_nat (by omega)]
theorem l67 (H0 : Heap) (hb : bar ≤ H0.length) (hbase : base ≤ H0.length) {R : PQ} : ∀ (s : Nat), s < 256 → ∀ (done : List Nat) (v : AV) (H : Heap), Grow 1 (nats done) H0 v H → done.length + (bitsOf s).length ≤ 1000 →
    (∀ v' H', Grow 1 (nats (done ++ bitsOf s)) H0 v' H' → R (.exit 0) [(0, .int .u8 0), (3, v'), (5, .bool false)] H') →
    Wp E base bar (.loop c67_l0) [(0, .int .u8 s), (3, v)] H R := by
  intro s
  induction s using Nat.strongRecOn with
  | _ s ih =>
    intro hs done v H hg hl h
    rw [wp_round c67_l0.eq_1]
    simp [go_sem]
    by_cases h0 : s = 0
    · subst h0
      simp [go_sem]
      exact h v H (by simpa [bits_zero] using hg)
    · have e := bits_step s hs h0
      simp [go_sem, h0, k89 hs, aop, fillA, setCells, chunks, AV.noVec.noVecs, AV.noVec]
      rw [e.1] at hl
      simp at hl
      refine hg.nat hb hbase (by omega) fun v' H' tc g' => ?_
      simp [go_sem, u8_sub1 hs h0, and_u8 hs (show s - 1 < 256 by omega)]
      refine ih _ e.2 (by omega) _ _ _ g' (by simp; omega) fun v'' H'' g'' => h _ _ ?_
      rw [e.1]; simpa using g''
theorem k67 {s : Nat} (hs : s < 256) (hb : bar ≤ H.length) (h : Q (outL 1 (nats (bitsOf s))) H) : WpCall E pure base bar 67 [.int .u8 s] H Q := by
  rw [call67]
  have hb := bar_ok (pure := pure) hb
  simp [go_sem, WpFun, c67] at hb ⊢
  refine l67 H hb (Nat.le_refl _) s hs [] _ _ .nil (by have := bits_len s; simp; omega) fun v' H' g => ?_
  simp [go_sem]
  refine g.out hb (Nat.le_refl _) ?_
  simpa using h
theorem k85 {s x : Nat} (hs : s < 256) : WpCall E pure base bar 85 [.int .u8 s, .int .i64 x] H Q ↔ Q (.bool (s.testBit x)) H := by
  rw [call85]
  simp [go_sem, WpFun, c85, shr_u8, and_u8_one, shr_lt hs, shr_bit s hs]
  cases s.testBit x <;> simp
theorem upd_lt {w : Nat → Nat} {i x : Nat} (hw : ∀ j, w j < 256) (hx : x < 256) : ∀ j, upd w i x j < 256 := fun j => by unfold upd; split <;> simp [*]
theorem i64_suc {i : Nat} (h : i < 1000000) : IntKind.i64.wrap ((i : Int) + 1) = ((i + 1 : Nat) : Int) := by
  rw [show (i : Int) + 1 = ((i + 1 : Nat) : Int) by omega, i64_nat (by omega)]
theorem bits_mem {s x : Nat} : x ∈ bitsOf s ↔ x < 8 ∧ s.testBit x = true := by simp [bitsOf]
theorem bits_pairwise (s : Nat) : (bitsOf s).Pairwise (· < ·) := by
  unfold bitsOf
  exact List.Pairwise.filter _ (by decide)
theorem findSome_congr {α β : Type} {f g : α → Option β} : ∀ {l : List α}, (∀ x ∈ l, f x = g x) → l.findSome? f = l.findSome? g
  | [], _ => rfl
  | x :: r, h => by
    rw [List.findSome?_cons, List.findSome?_cons, h x (List.mem_cons_self ..), findSome_congr fun y hy => h y (List.mem_cons_of_mem _ hy)]
theorem filter_range_cut {p : Nat → Bool} {m : Nat} : ∀ (d : Nat), (∀ c, m ≤ c → c < m + d → p c = false) → (List.range (m + d)).filter p = (List.range m).filter p
  | 0, _ => rfl
  | d + 1, h => by
    rw [← Nat.add_assoc, List.range_succ, List.filter_append, filter_range_cut d fun c h1 h2 => h c h1 (by omega)]
    have : [m + d].filter p = [] := by simp [h (m + d) (by omega) (by omega)]
    rw [this, List.append_nil]
theorem testBit_all {m i : Nat} : (pw m - 1).testBit i = decide (i < m) := by unfold pw; exact Nat.testBit_two_pow_sub_one ..
theorem bits_cut : ∀ s, s < 256 → ∀ b, b < 8 → (bitsOf (clr s (pw b))).length + (if s.testBit b = true then 1 else 0) = (bitsOf s).length := by decide +kernel
theorem bits_put : ∀ s, s < 256 → ∀ b, b < 8 → s.testBit b = false → (bitsOf (bor s (pw b))).length = (bitsOf s).length + 1 := by decide +kernel
theorem sub_len : ∀ {l m : List Nat}, l.Nodup → (∀ x ∈ l, x ∈ m) → l.length ≤ m.length
  | [], _, _, _ => by simp
  | x :: r, m, hn, h => by
    rw [List.nodup_cons] at hn
    have hx := h x (List.mem_cons_self ..)
    have h2 : ∀ y ∈ r, y ∈ m.erase x := fun y hy => by
      have hne : y ≠ x := fun hc => hn.1 (hc ▸ hy)
      exact (List.mem_erase_of_ne hne).2 (h y (List.mem_cons_of_mem _ hy))
    have := sub_len hn.2 h2
    rw [List.length_erase_of_mem hx] at this
    have := List.length_pos_of_mem hx
    rw [List.length_cons]; omega
theorem eqWp_flat2 {neg : Bool} {k1 k2 : IntKind} {a b c d : Int} {K : AV → Heap → List Nat → Prop} :
    eqWp neg (.flat [false, false]) (some (.agg [.int k1 a, .int k2 b])) (some (.agg [.int k1 c, .int k2 d])) H K = K (.bool (if neg then !(a == c && b == d) else (a == c && b == d))) H [] := by
  cases h1 : (a == c) <;> cases h2 : (b == d) <;> simp [eqWp, aeq, eqCells, eqCell, h1, h2]
/-- do two quarrel in a list -/
theorem isP.cut {q : AV} {l : List ZZ} (hq : isP q l) {i : Nat} (hi : i < l.length) : ∃ q', aslice H (.slc 2) q none (some (.int .i64 (i : Int))) none = some q' ∧ isP q' (l.take i) := by
  rcases hq with ⟨rfl, rfl⟩ | ⟨ex, rfl⟩
  · simp at hi
  · refine ⟨.lst 2 (ex && i == l.length) (prA (l.take i)), ?_, .inr ⟨_, rfl⟩⟩
    have hl : (prA l).length = l.length := by simp [prA]
    simp [aslice, optBound, bound1, AV.asNat, hl, Nat.le_of_lt hi]
    simp [prA, List.map_take]
def tri : Nat → Nat
  | 0 => 0
  | b + 1 => tri b + b
theorem bit_lt {n s i : Nat} (h : s < pw n) (hb : s.testBit i = true) : i < n := by
  apply Decidable.byContradiction
  intro hc
  rw [Nat.testBit_lt_two_pow (Nat.lt_of_lt_of_le h (Nat.pow_le_pow_right (by decide) (Nat.not_lt.1 hc) : 2 ^ n ≤ 2 ^ i))] at hb
  cases hb
end Go.Proofs.Ytngoldipfgfecaa.Code
end
section
namespace Go.Proofs.Ytngoldipfgfecaa.Code
open Go Go.Ab
variable {pure : Bool} {base bar : Nat} {H : Heap} {Q : AV → Heap → Prop}
section
variable {K : AV → Heap → List Nat → Prop}
/-- a row of a number and seven sets -/
def bcells (n : Nat) (w : Nat → Nat) : List AV := .int .i64 (n : Int) :: (List.range 7).map fun a => .int .u8 ((w a : Nat) : Int)
theorem bcells_length {n : Nat} {w : Nat → Nat} : (bcells n w).length = 8 := by simp [bcells]
theorem bcells_n {n : Nat} {w : Nat → Nat} : (bcells n w)[0]? = some (.int .i64 (n : Int)) := rfl
theorem bcells_get {n i : Nat} {w : Nat → Nat} (hi : i < 7) : (bcells n w)[1 + i]? = some (.int .u8 ((w i : Nat) : Int)) := by
  rw [Nat.add_comm]; simp [bcells, hi]
theorem bcells_set {n i x : Nat} {w : Nat → Nat} (hi : i < 7) : setCells (bcells n w) (1 + i) [.int .u8 (x : Int)] = bcells n (upd w i x) := by
  simp only [setCells]
  apply List.ext_getElem?
  intro j
  rw [List.getElem?_set]
  rcases j with _ | j
  · rw [if_neg (by omega)]; rfl
  · by_cases hj : 1 + i = j + 1
    · obtain rfl : i = j := by omega
      rw [if_pos (by omega)]
      simp [bcells, upd, hi]; omega
    · rw [if_neg hj]
      by_cases h8 : j < 7
      · simp [bcells, upd, h8, show ¬ j = i by omega]
      · simp [bcells, h8]
theorem bcells_plain {n : Nat} {w : Nat → Nat} : ∀ c ∈ bcells n w, Plain c := fun c hc => by
  simp only [bcells, List.mem_cons, List.mem_map] at hc
  rcases hc with rfl | ⟨a, _, rfl⟩ <;> exact Plain.int
theorem bcells_tops {n : Nat} {w : Nat → Nat} : AV.top.tops (bcells n w) = 0 := tops_zero fun x hx => by
  simp only [bcells, List.mem_cons, List.mem_map] at hx
  rcases hx with rfl | ⟨a, _, rfl⟩ <;> rfl
theorem storeB {base id ver n i x : Nat} {ex : Bool} {w : Nat → Nat} (hid : H[id]? = some (.row ver (bcells n w) 0 ex)) (hi : i < 7) (hb : bar ≤ id) :
    storeWp base bar 1 (.ptr id ver (1 + i)) (.int .u8 (x : Int)) H K = K (.tup []) (H.set id (.row ver (bcells n (upd w i x)) 0 ex)) [id] := by
  rw [storeWp_ptr (size := 1) hid rfl rfl (by omega) (by rw [bcells_length]; omega) hb (.inr (by simp [AV.cells, tops_cons, tops_nil, top_int]))]
  simp only [AV.cells, bcells_set hi]
theorem loadB {id ver n i s : Nat} {ex : Bool} {w : Nat → Nat} {fz : Nat} (hid : H[id]? = some (.row ver (bcells n w) fz ex)) (hi : i < 7) :
    aload H ⟨false, s⟩ (.ptr id ver (1 + i)) = some (.int .u8 ((w i : Nat) : Int)) := by
  rw [aload_ptr hid, part_one, bcells_get hi]
theorem loadBN {id ver n s : Nat} {ex : Bool} {w : Nat → Nat} {fz : Nat} (hid : H[id]? = some (.row ver (bcells n w) fz ex)) :
    aload H ⟨false, s⟩ (.ptr id ver 0) = some (.int .i64 (n : Int)) := by
  rw [aload_ptr hid, part_one, bcells_n]
end
/-! who beat whom, as 49 cells -/
def gcells (f : Nat → Nat → Bool) : List AV := (List.range 49).map fun i => .bool (f (i / 7) (i % 7))
def upd2 (f : Nat → Nat → Bool) (a b : Nat) (x : Bool) : Nat → Nat → Bool := fun i j => if i = a ∧ j = b then x else f i j
@[go_sem] theorem gcells_tops {f : Nat → Nat → Bool} : AV.top.tops (gcells f) = 0 := tops_zero fun x hx => by
  simp only [gcells, List.mem_map] at hx
  obtain ⟨a, _, rfl⟩ := hx; rfl
@[go_sem] theorem gcells_noVec {f : Nat → Nat → Bool} : AV.noVec.noVecs (gcells f) = true := by
  unfold gcells
  generalize List.range 49 = l
  induction l with
  | nil => rfl
  | cons x r ih => simpa [AV.noVec.noVecs, AV.noVec] using ih
/-! who is met: seven cells -/
def mcells (f : Nat → Bool) : List AV := (List.range 7).map fun i => .bool (f i)
@[go_sem] theorem mcells_tops {f : Nat → Bool} : AV.top.tops (mcells f) = 0 := tops_zero fun x hx => by
  simp only [mcells, List.mem_map] at hx
  obtain ⟨a, _, rfl⟩ := hx; rfl
@[go_sem] theorem mcells_noVec {f : Nat → Bool} : AV.noVec.noVecs (mcells f) = true := by
  unfold mcells
  generalize List.range 7 = l
  induction l with
  | nil => rfl
  | cons x r ih => simpa [AV.noVec.noVecs, AV.noVec] using ih
@[go_sem] theorem mz : AV.agg [.bool false, .bool false, .bool false, .bool false, .bool false, .bool false, .bool false] = .agg (mcells fun _ => false) := rfl
@[go_sem] theorem gz : AV.agg [.bool false, .bool false, .bool false, .bool false, .bool false, .bool false, .bool false, .bool false, .bool false, .bool false, .bool false, .bool false, .bool false, .bool false, .bool false, .bool false, .bool false, .bool false, .bool false, .bool false, .bool false, .bool false, .bool false, .bool false, .bool false, .bool false, .bool false, .bool false, .bool false, .bool false, .bool false, .bool false, .bool false, .bool false, .bool false, .bool false, .bool false, .bool false, .bool false, .bool false, .bool false, .bool false, .bool false, .bool false, .bool false, .bool false, .bool false, .bool false, .bool false] = .agg (gcells fun _ _ => false) := rfl
end Go.Proofs.Ytngoldipfgfecaa.Code
end
section
namespace Go.Proofs.Ytngoldipfgfecaa.Code
open Go Go.Ab
variable {pure : Bool} {base bar : Nat} {H : Heap} {Q : AV → Heap → Prop}
/-- have two met -/
def qin (l : List ZZ) (a b : Int) : Bool := l.any fun p => (p.1 == a && p.2 == b) || (p.1 == b && p.2 == a)
def chkF (n : Int) : List ZZ → List ZZ → Int
  | _, [] => 0
  | b, p :: r => if p.1 < 0 ∨ p.2 < 0 ∨ n ≤ p.1 ∨ n ≤ p.2 then 2 else if p.1 = p.2 then 13 else if qin b p.1 p.2 = true then 6 else chkF n (b ++ [p]) r
def halfN (n : Nat) : Nat := n * (n - 1) / 2
/-- the error of a contest -/
def checkS (n : Int) (l : List ZZ) : Int := if within 1 7 n = true then (if chkF n [] l = 0 then (if l.length < halfN n.toNat then 21 else 0) else chkF n [] l) else 1
theorem l63a {n : Int} {q q' : AV} {b : List ZZ} {p1 p2 : Int} (hq : isP q' b) (hqt : q.top = 0) (hb : b.length < 1000) {len i : Nat} (hbar : bar ≤ H.length) {R : PQ} : ∀ (k j : Nat), j + k = b.length →
    (qin (b.drop j) p1 p2 = true → ∀ H', H'.take H.length = H → R .ret [(2, .int .i64 6)] H') →
    (qin (b.drop j) p1 p2 = false → R (.exit 3) [(1, .ptr H.length 0 0), (12, q), (13, .int .i64 (len : Nat)), (14, .int .i64 (i : Nat)), (4, .ptr (H.length + 1) 0 0), (45, q'), (46, .int .i64 (b.length : Nat)), (47, .int .i64 (b.length : Nat)), (48, .bool false)] (H ++ [.row 0 [.int .i64 n, q] 0 true, .row 0 [.int .i64 p1, .int .i64 p2] 0 true])) →
    Wp E base bar (.loop c63_l0) [(1, .ptr H.length 0 0), (12, q), (13, .int .i64 (len : Nat)), (14, .int .i64 (i : Nat)), (4, .ptr (H.length + 1) 0 0), (45, q'), (46, .int .i64 (b.length : Nat)), (47, .int .i64 (j : Nat))] (H ++ [.row 0 [.int .i64 n, q] 0 true, .row 0 [.int .i64 p1, .int .i64 p2] 0 true]) R := by
  intro k
  induction k with
  | zero =>
    intro j hj h1 h2
    obtain rfl : j = b.length := by omega
    rw [wp_round c63_l0.eq_1]
    simp [go_sem]
    exact h2 (by simp [qin])
  | succ k ih =>
    intro j hj h1 h2
    have hlt : j < b.length := by omega
    obtain ⟨⟨a, c⟩, hp⟩ : ∃ p, b[j] = p := ⟨_, rfl⟩
    have hst : qin (b.drop j) p1 p2 = ((a == p1 && c == p2 || a == p2 && c == p1) || qin (b.drop (j + 1)) p1 p2) := by
      rw [List.drop_eq_getElem_cons hlt, hp]; simp [qin]
    rw [hst] at h1 h2
    rw [wp_round c63_l0.eq_1]
    simp [go_sem, hlt, hq.ix hlt, hp, zc, storeWp, astore, own_get, own_set, setCells, show bar ≤ H.length + 2 by omega, aload, Ab.part, eqWp_flat2]
    by_cases c901 : a = p1 ∧ c = p2
    · obtain ⟨rfl, rfl⟩ := c901
      simp [go_sem]
      exact h1 (by simp) _ (by simp)
    · have e1 : (a == p1 && c == p2) = false := by simpa using fun h => by simpa using fun h2 => c901 ⟨h, h2⟩
      by_cases c902 : a = p2 ∧ c = p1
      · obtain ⟨rfl, rfl⟩ := c902
        simp [go_sem, e1, own_get, aload, Ab.part, fillA, setCells, eqWp_flat2]
        exact h1 (by simp) _ (by simp)
      · have e2 : (a == p2 && c == p1) = false := by simpa using fun h => by simpa using fun h2 => c902 ⟨h, h2⟩
        simp only [e1, e2, Bool.false_or] at h1 h2
        simp [go_sem, e1, e2, own_get, aload, Ab.part, fillA, setCells, eqWp_flat2, i64_suc (show j < 1000000 by omega)]
        rw [if_pos (fun h h2 => c901 ⟨h, h2⟩), if_neg c902]
        exact ⟨by rw [hqt, hq.top]; omega, ih (j + 1) (by omega) h1 h2⟩
theorem l63 {n : Int} {q : AV} {l : List ZZ} (hq : isP q l) (hl : l.length < 1000) (hbar : bar ≤ H.length) {R : PQ} : ∀ (k i : Nat), i + k = l.length →
    (∀ e H', chkF n (l.take i) (l.drop i) = e → e ≠ 0 → H'.take H.length = H → R .ret [(2, .int .i64 e)] H') →
    (chkF n (l.take i) (l.drop i) = 0 → R (.exit 0) [(1, .ptr H.length 0 0), (12, q), (13, .int .i64 (l.length : Nat)), (14, .int .i64 (l.length : Nat)), (15, .bool false)] (H ++ [.row 0 [.int .i64 n, q] 0 true])) →
    Wp E base bar (.loop c63_l1) [(1, .ptr H.length 0 0), (12, q), (13, .int .i64 (l.length : Nat)), (14, .int .i64 (i : Nat))] (H ++ [.row 0 [.int .i64 n, q] 0 true]) R := by
  intro k
  induction k with
  | zero =>
    intro i hi h1 h2
    obtain rfl : i = l.length := by omega
    rw [wp_round c63_l1.eq_1]
    simp [go_sem]
    exact h2 (by rw [List.drop_length]; rfl)
  | succ k ih =>
    intro i hi h1 h2
    have hlt : i < l.length := by omega
    rw [wp_round c63_l1.eq_1]
    rw [List.drop_eq_getElem_cons hlt] at h1 h2
    obtain ⟨⟨a, b⟩, hp⟩ : ∃ p, l[i] = p := ⟨_, rfl⟩
    rw [hp] at h1 h2
    simp only [chkF] at h1 h2
    obtain ⟨q', hq1, hq2⟩ := isP.cut (H := H ++ [Blk.row 0 [.int .i64 n, q] 0 true, .row 0 [.int .i64 a, .int .i64 b] 0 true]) hq hlt
    have ht : ∀ L : Heap, (H ++ L).take H.length = H := fun L => by simp
    simp [go_sem, hlt, hq.ix hlt, hp, zc, storeWp, astore, own_get, own_set, setCells, show bar ≤ H.length + 1 by omega, aload, Ab.part, aop]
    by_cases h0 : a < 0 ∨ b < 0 ∨ n ≤ a ∨ n ≤ b
    · have g1 := h1 2 (H ++ [Blk.row 0 [.int .i64 n, q] 0 true, .row 0 [.int .i64 a, .int .i64 b] 0 true]) (by rw [if_pos h0]) (by decide) (ht _)
      by_cases h3 : 0 ≤ (if b < a then b else a)
      · have h4 : n ≤ (if a < b then b else a) := by split at h3 <;> split <;> omega
        simp [h3, h4, go_sem, own_get, own_get0, aload, Ab.part, aop]
        exact g1
      · simp [h3, go_sem]
        exact g1
    · rw [if_neg h0] at h1 h2
      have h3 : 0 ≤ (if b < a then b else a) := by split <;> omega
      have h4 : ¬ n ≤ (if a < b then b else a) := by split <;> omega
      by_cases hab : a = b
      · have g1 := h1 13 (H ++ [Blk.row 0 [.int .i64 n, q] 0 true, .row 0 [.int .i64 a, .int .i64 b] 0 true]) (by rw [if_pos hab]) (by decide) (ht _)
        simp [h3, h4, go_sem, own_get, own_get0, aload, Ab.part, aop, hab]
        subst hab
        rw [if_pos (show 0 ≤ a by omega), if_neg (show ¬ n ≤ a by omega)]
        exact g1
      · rw [if_neg hab] at h1 h2
        simp [h3, h4, go_sem, own_get, own_get0, aload, Ab.part, aop, hab, Opd.evo, hq1, hq2.len]
        rw [show ((min i l.length : Nat) : Int) = ((l.take i).length : Nat) by simp]
        refine l63a hq2 hq.top (by simp; omega) hbar (l.take i).length 0 (by omega) (fun hc H' hH => ?_) (fun hc => ?_)
        · rw [List.drop_zero] at hc
          rw [if_pos hc] at h1
          simp [go_sem]
          exact h1 6 H' rfl (by decide) hH
        · rw [List.drop_zero] at hc
          rw [if_neg (by simp [hc])] at h1 h2
          have hs : l.take i ++ [(a, b)] = l.take (i + 1) := by rw [List.take_succ_eq_append_getElem hlt, hp]
          rw [hs] at h1 h2
          simp [go_sem, hq.top, i64_suc (show i < 1000000 by omega)]
          exact ih (i + 1) (by omega) h1 h2
def prN (n : Nat) : Nat := n * (n - 1)
theorem k63 {n : Int} {q : AV} {l : List ZZ} (hq : isP q l) (hl : l.length < 1000) (hbar : bar ≤ H.length) (h : Q (.int .i64 (checkS n l)) H) : WpCall E pure base bar 63 [.agg [.int .i64 n, q]] H Q := by
  rw [call63]
  have hb' := bar_ok (pure := pure) hbar
  have ln : aload (H ++ [Blk.row 0 [.int .i64 n, q] 0 true]) ⟨false, 1⟩ (.ptr H.length 0 0) = some (.int .i64 n) := by simp [aload, own_get0, Ab.part]
  have lq : aload (H ++ [Blk.row 0 [.int .i64 n, q] 0 true]) ⟨false, 1⟩ (.ptr H.length 0 1) = some q := by simp [aload, own_get0, Ab.part]
  simp [go_sem, WpFun, c63, hq.frz, ln, k86] at hb' ⊢
  generalize (if pure = true then H.length else bar) = bar' at hb' ⊢
  unfold checkS at h
  cases hr : within 1 7 n
  · rw [hr, if_neg (by decide)] at h
    simp [go_sem]
    exact h
  · rw [hr, if_pos rfl] at h
    have hr' := hr
    simp [within] at hr'
    simp [go_sem, lq, hq.len]
    refine l63 hq hl hb' l.length 0 (by omega) (fun e H' he hne ht => ?_) (fun he => ?_)
    · simp only [List.take_zero, List.drop_zero] at he
      rw [he, if_neg hne] at h
      simp [go_sem, ht]
      exact h
    · simp only [List.take_zero, List.drop_zero] at he
      rw [he, if_pos rfl] at h
      obtain ⟨n, rfl⟩ := Int.eq_ofNat_of_zero_le (show 0 ≤ n by omega)
      rw [Int.toNat_natCast] at h
      have e1 : IntKind.i64.wrap ((n : Int) - 1) = ((n - 1 : Nat) : Int) := by
        rw [show (n : Int) - 1 = ((n - 1 : Nat) : Int) by omega, i64_nat (by omega)]
      have hpr : prN n ≤ 42 := by
        unfold prN
        have h7 : n ≤ 7 := by omega
        exact Nat.mul_le_mul h7 (show n - 1 ≤ 6 by omega)
      have e2 : IntKind.i64.wrap ((n : Int) * ((n - 1 : Nat) : Int)) = ((prN n : Nat) : Int) := by
        rw [show (n : Int) * ((n - 1 : Nat) : Int) = ((prN n : Nat) : Int) by unfold prN; exact (Int.natCast_mul ..).symm, i64_nat (by omega)]
      have e3 : abin .quo (.int .i64 ((prN n : Nat) : Int)) (.int .i64 2) = some (.int .i64 ((halfN n : Nat) : Int)) := by
        rw [abin_quo (by decide), Go.IntWalk.i64_quo _ _ ⟨by omega, by omega, by omega⟩]
        rfl
      generalize hnn : n - 1 = m at *
      simp [go_sem, lq, ln, hq.len, e1, e2, e3]
      by_cases hlen : l.length < halfN n
      · rw [if_pos hlen] at h
        simp [go_sem, hlen]
        exact h
      · rw [if_neg hlen] at h
        simp [go_sem, hlen]
        exact h
end Go.Proofs.Ytngoldipfgfecaa.Code
end
section
namespace Go.Proofs.Ytngoldipfgfecaa.Code
open Go Go.Ab
variable {pure : Bool} {base bar : Nat} {H : Heap} {Q : AV → Heap → Prop}
/-- a board: whom each one beat -/
structure BoardW (n : Nat) (w : Nat → Nat) : Prop where
  le : n ≤ 7
  lt : ∀ x, w x < 256
  dom : ∀ x y, (w x).testBit y = true → x < n ∧ y < n
  irr : ∀ x, (w x).testBit x = false
  one : ∀ x y, x < n → y < n → x ≠ y → (w x).testBit y = !(w y).testBit x
/-! 64: all to whom chains lead -/
inductive Rch (w : Nat → Nat) (x : Nat) : Nat → Prop
  | refl : Rch w x x
  | step {y z : Nat} : Rch w x y → (w y).testBit z = true → Rch w x z
theorem Rch.trans {w : Nat → Nat} {x y z : Nat} (h : Rch w x y) (k : Rch w y z) : Rch w x z := by
  induction k with
  | refl => exact h
  | step _ h2 ih => exact .step ih h2
theorem more_bits : ∀ s, s < 128 → ∀ t, t < 128 → band s t = s → s ≠ t → (bitsOf s).length < (bitsOf t).length := by decide +kernel
theorem sub_band {s t : Nat} (h : ∀ y, s.testBit y = true → t.testBit y = true) : band s t = s := by
  apply Nat.eq_of_testBit_eq
  intro i
  rw [testBit_band]
  cases hs : s.testBit i
  · rfl
  · rw [h i hs]; rfl
/-! 59: all -/
theorem k42 {id ver n : Nat} {ex : Bool} {w : Nat → Nat} {fz : Nat} (hid : H[id]? = some (.row ver (bcells n w) fz ex)) (hn : n ≤ 7) : WpCall E pure base bar 42 [.ptr id ver 0] H Q ↔ Q (.int .u8 ((pw n - 1 : Nat) : Int)) H := by
  have hp : pw n ≤ 128 := Nat.pow_le_pow_right (by decide) hn
  have h1 : 1 ≤ pw n := Nat.one_le_two_pow
  have e : IntKind.u8.wrap (((pw n : Nat) : Int) - 1) = ((pw n - 1 : Nat) : Int) := by
    rw [show ((pw n : Nat) : Int) - 1 = ((pw n - 1 : Nat) : Int) by omega, u8_nat (by omega)]
  generalize hm : pw n - 1 = m at *
  rw [call42]
  simp [go_sem, WpFun, c42, loadBN hid, shl_u8 (show n < 8 by omega), e]
end Go.Proofs.Ytngoldipfgfecaa.Code
end
section
namespace Go.Proofs.Ytngoldipfgfecaa.Code
open Go Go.Ab
variable {pure : Bool} {base bar : Nat} {H : Heap} {Q : AV → Heap → Prop}
/-! 44: the contest of games by numbers -/
/-- the meetings so far, and who beat whom -/
structure MadeTo (n bits a b : Nat) (l : List ZZ) (f : Nat → Nat → Bool) : Prop where
  chk : chkF n [] l = 0
  len : l.length = tri a + b
  beat : ∀ x y, f x y = true ↔ ((x : Int), (y : Int)) ∈ l
  won : ∀ x y, y < x → (x < a ∨ x = a ∧ y < b) → f x y = !bits.testBit (tri x + y) ∧ f y x = bits.testBit (tri x + y)
  out : ∀ x y, y < x → ¬ (x < a ∨ x = a ∧ y < b) → f x y = false ∧ f y x = false
  irr : ∀ x, f x x = false
  nat : ∀ p ∈ l, ∃ x y : Nat, p = ((x : Int), (y : Int))
theorem chkF_snoc {n : Int} {p : ZZ} : ∀ {l b : List ZZ}, chkF n b l = 0 → 0 ≤ p.1 → 0 ≤ p.2 → p.1 < n → p.2 < n → p.1 ≠ p.2 → qin (b ++ l) p.1 p.2 = false → chkF n b (l ++ [p]) = 0
  | [], b, _, h1, h2, h3, h4, h5, h6 => by
    simp only [List.append_nil] at h6
    simp only [List.nil_append, chkF]
    rw [if_neg (by omega), if_neg h5, if_neg (by simp [h6])]
  | o :: r, b, h, h1, h2, h3, h4, h5, h6 => by
    rw [List.cons_append]
    simp only [chkF] at h ⊢
    split at h
    · cases h
    rename_i g1
    split at h
    · cases h
    rename_i g2
    split at h
    · cases h
    rename_i g3
    rw [if_neg g1, if_neg g2, if_neg g3]
    exact chkF_snoc h h1 h2 h3 h4 h5 (by simpa using h6)
theorem qin_mem {l : List ZZ} {a b : Int} : qin l a b = true ↔ (a, b) ∈ l ∨ (b, a) ∈ l := by
  simp only [qin, List.any_eq_true, Bool.or_eq_true, Bool.and_eq_true, beq_iff_eq]
  constructor
  · rintro ⟨⟨x, y⟩, hp, (⟨h1, h2⟩ | ⟨h1, h2⟩)⟩
    · simp only at h1 h2; subst h1 h2; exact .inl hp
    · simp only at h1 h2; subst h1 h2; exact .inr hp
  · rintro (h | h)
    · exact ⟨_, h, .inl ⟨rfl, rfl⟩⟩
    · exact ⟨_, h, .inr ⟨rfl, rfl⟩⟩
theorem MadeTo.zero {n bits : Nat} : MadeTo n bits 0 0 [] (fun _ _ => false) := ⟨rfl, rfl, by simp, fun x y _ h => by omega, fun _ _ _ _ => ⟨rfl, rfl⟩, fun _ => rfl, by simp⟩
theorem MadeTo.put {n bits a b x y : Nat} {l : List ZZ} {f : Nat → Nat → Bool} (h : MadeTo n bits a b l f) (hab : b < a) (han : a < n)
    (hxy : (bits.testBit (tri a + b) = true ∧ x = b ∧ y = a) ∨ (bits.testBit (tri a + b) = false ∧ x = a ∧ y = b)) : MadeTo n bits a (b + 1) (l ++ [((x : Int), (y : Int))]) (upd2 f x y true) := by
  have ho := h.out a b hab (by omega)
  have hno : ((a : Int), (b : Int)) ∉ l ∧ ((b : Int), (a : Int)) ∉ l := ⟨fun hc => (by rw [(h.beat a b).2 hc] at ho; cases ho.1), fun hc => (by rw [(h.beat b a).2 hc] at ho; cases ho.2)⟩
  refine ⟨chkF_snoc h.chk (by omega) (by omega) (by simp only; omega) (by simp only; omega) (by simp only; omega) ?_, by simp [h.len]; omega, fun u v => ?_, fun u v huv hc => ?_, fun u v huv hc => ?_, fun u => ?_, fun p hp => ?_⟩
  · cases hq : qin ([] ++ l) (x : Int) (y : Int)
    · rfl
    · rw [List.nil_append, qin_mem] at hq
      rcases hxy with ⟨_, rfl, rfl⟩ | ⟨_, rfl, rfl⟩
      · rcases hq with hq | hq
        · exact absurd hq hno.2
        · exact absurd hq hno.1
      · rcases hq with hq | hq
        · exact absurd hq hno.1
        · exact absurd hq hno.2
  · unfold upd2
    rw [List.mem_append, List.mem_singleton, Prod.mk.injEq]
    split
    · rename_i he; obtain ⟨rfl, rfl⟩ := he; simp
    · rename_i he
      rw [h.beat]
      constructor
      · exact .inl
      · rintro (hm | ⟨h1, h2⟩)
        · exact hm
        · exact absurd ⟨by omega, by omega⟩ he
  · unfold upd2
    by_cases he : u = a ∧ v = b
    · obtain ⟨rfl, rfl⟩ := he
      rcases hxy with ⟨hb, rfl, rfl⟩ | ⟨hb, rfl, rfl⟩
      · rw [if_neg (by omega), if_pos ⟨rfl, rfl⟩, hb, ho.1]; exact ⟨rfl, rfl⟩
      · rw [if_pos ⟨rfl, rfl⟩, if_neg (by omega), hb, ho.2]; exact ⟨rfl, rfl⟩
    · rw [if_neg (by rcases hxy with ⟨_, rfl, rfl⟩ | ⟨_, rfl, rfl⟩ <;> omega), if_neg (by rcases hxy with ⟨_, rfl, rfl⟩ | ⟨_, rfl, rfl⟩ <;> omega)]
      exact h.won u v huv (by omega)
  · unfold upd2
    rw [if_neg (by rcases hxy with ⟨_, rfl, rfl⟩ | ⟨_, rfl, rfl⟩ <;> omega), if_neg (by rcases hxy with ⟨_, rfl, rfl⟩ | ⟨_, rfl, rfl⟩ <;> omega)]
    exact h.out u v huv (by omega)
  · unfold upd2
    rw [if_neg (by rcases hxy with ⟨_, rfl, rfl⟩ | ⟨_, rfl, rfl⟩ <;> omega)]
    exact h.irr u
  · rcases List.mem_append.1 hp with hp | hp
    · exact h.nat p hp
    · rw [List.mem_singleton] at hp; exact ⟨x, y, hp⟩
theorem MadeTo.next {n bits a : Nat} {l : List ZZ} {f : Nat → Nat → Bool} (h : MadeTo n bits a a l f) : MadeTo n bits (a + 1) 0 l f :=
  ⟨h.chk, by rw [h.len]; simp [tri], h.beat, fun x y hxy hc => h.won x y hxy (by omega), fun x y hxy hc => h.out x y hxy (by omega), h.irr, h.nat⟩
/-- the contest of games, and who beat whom -/
structure MadeC (n bits : Nat) (l : List ZZ) (f : Nat → Nat → Bool) : Prop where
  le : n ≤ 7
  pos : 1 ≤ n
  chk : chkF n [] l = 0
  len : l.length = halfN n
  beat : ∀ x y, f x y = true ↔ ((x : Int), (y : Int)) ∈ l
  won : ∀ x y, y < x → x < n → f x y = !bits.testBit (tri x + y) ∧ f y x = bits.testBit (tri x + y)
  dom : ∀ x y, f x y = true → x < n ∧ y < n
  irr : ∀ x, f x x = false
  nat : ∀ p ∈ l, ∃ x y : Nat, p = ((x : Int), (y : Int))
theorem tri_half : ∀ n, n ≤ 7 → tri n = halfN n := by decide
theorem MadeTo.done {n bits : Nat} {l : List ZZ} {f : Nat → Nat → Bool} (h : MadeTo n bits n 0 l f) (h1 : 1 ≤ n) (h7 : n ≤ 7) : MadeC n bits l f :=
  ⟨h7, h1, h.chk, by rw [h.len, ← tri_half n h7]; rfl, h.beat, fun x y hxy hx => h.won x y hxy (by omega), fun x y hb => by
    rcases Nat.lt_trichotomy x y with hlt | heq | hlt
    · have hy : y < n := by
        apply Decidable.byContradiction
        intro hc
        rw [(h.out y x hlt (by omega)).2] at hb; cases hb
      omega
    · subst heq; rw [h.irr] at hb; cases hb
    · have hx : x < n := by
        apply Decidable.byContradiction
        intro hc
        rw [(h.out x y hlt (by omega)).1] at hb; cases hb
      omega, h.irr, h.nat⟩
theorem MadeC.one {n bits : Nat} {l : List ZZ} {f : Nat → Nat → Bool} (h : MadeC n bits l f) {x y : Nat} (hx : x < n) (hy : y < n) (hne : x ≠ y) : f x y = !f y x := by
  rcases Nat.lt_or_gt_of_ne hne with hlt | hlt
  · obtain ⟨h1, h2⟩ := h.won y x hlt hy
    rw [h1, h2]; simp
  · obtain ⟨h1, h2⟩ := h.won x y hlt hx
    rw [h1, h2]
theorem MadeC.check {n bits : Nat} {l : List ZZ} {f : Nat → Nat → Bool} (h : MadeC n bits l f) : checkS (n : Int) l = 0 := by
  have := h.le; have := h.pos
  unfold checkS
  rw [if_pos (by simp [within]; omega), if_pos h.chk, Int.toNat_natCast, if_neg (by rw [h.len]; omega)]
end Go.Proofs.Ytngoldipfgfecaa.Code
end
section
namespace Go.Proofs.Ytngoldipfgfecaa.Code
open Go Go.Ab
variable {pure : Bool} {base bar : Nat} {H : Heap} {Q : AV → Heap → Prop}
end Go.Proofs.Ytngoldipfgfecaa.Code
end
section
namespace Go.Proofs.Ytngoldipfgfecaa.Code
open Go Go.Ab
variable {pure : Bool} {base bar : Nat} {H : Heap} {Q : AV → Heap → Prop}
/-! 56: the board of a contest, or its error -/
def winW (w : Nat → Nat) (p : ZZ) : Nat → Nat := upd w p.1.toNat (bor (w p.1.toNat) (pw p.2.toNat))
def boardF (l : List ZZ) (w : Nat → Nat) : Nat → Nat := l.foldl winW w
theorem chkF_valid {n : Int} : ∀ {l b : List ZZ}, chkF n b l = 0 → ∀ p ∈ l, 0 ≤ p.1 ∧ 0 ≤ p.2 ∧ p.1 < n ∧ p.2 < n ∧ p.1 ≠ p.2
  | [], _, _, p, hp => by simp at hp
  | o :: r, b, h, p, hp => by
    simp only [chkF] at h
    split at h
    · cases h
    rename_i g1
    split at h
    · cases h
    rename_i g2
    split at h
    · cases h
    rcases List.mem_cons.1 hp with rfl | hp
    · exact ⟨by omega, by omega, by omega, by omega, g2⟩
    · exact chkF_valid h p hp
theorem winW_lt {w : Nat → Nat} {p : ZZ} (hw : ∀ x, w x < 256) (h2 : p.2.toNat < 8) : ∀ x, winW w p x < 256 := upd_lt hw (bor_lt (hw _) (pw_lt h2))
theorem winW_bit {w : Nat → Nat} {a b x y : Nat} : (winW w ((a : Int), (b : Int)) x).testBit y = ((w x).testBit y || (decide (x = a) && decide (y = b))) := by
  unfold winW upd
  simp only [Int.toNat_natCast]
  split
  · rename_i h; subst h
    rw [testBit_bor, testBit_pw]; simp [eq_comm]
  · rename_i h; simp [h]
theorem boardF_bit : ∀ {l : List ZZ} {w : Nat → Nat} {x y : Nat}, (∀ p ∈ l, 0 ≤ p.1 ∧ 0 ≤ p.2) → ((boardF l w x).testBit y = true ↔ (w x).testBit y = true ∨ ((x : Int), (y : Int)) ∈ l)
  | [], w, x, y, _ => by simp [boardF]
  | (a, b) :: r, w, x, y, h => by
    obtain ⟨h1, h2⟩ := h (a, b) (List.mem_cons_self ..)
    obtain ⟨a, rfl⟩ := Int.eq_ofNat_of_zero_le h1
    obtain ⟨b, rfl⟩ := Int.eq_ofNat_of_zero_le h2
    have e : boardF (((a : Int), (b : Int)) :: r) w = boardF r (winW w ((a : Int), (b : Int))) := rfl
    rw [e, boardF_bit fun p hp => h p (List.mem_cons_of_mem _ hp), winW_bit, List.mem_cons, Prod.mk.injEq]
    simp only [Bool.or_eq_true, Bool.and_eq_true, decide_eq_true_eq]
    constructor
    · rintro ((h | ⟨h1, h2⟩) | h)
      · exact .inl h
      · exact .inr (.inl ⟨by omega, by omega⟩)
      · exact .inr (.inr h)
    · rintro (h | ⟨h1, h2⟩ | h)
      · exact .inl (.inl h)
      · exact .inl (.inr ⟨by omega, by omega⟩)
      · exact .inr h
theorem leave1_nil {e : Int} : leave 1 base bar [.nilp, .int .i64 e] H = some (.tup [.nilp, .int .i64 e], H.take base) := by
  have h2 : frzAll bar H [.nilp, .int .i64 e] = some ([.nilp, .int .i64 e], H) := rfl
  simp only [leave, h2]
  simp [firstOwn, AV.top.tops, AV.top, tupled]
theorem leave1_ptr {id ver n fz : Nat} {ex : Bool} {w : Nat → Nat} {e : Int} (hid : H[id]? = some (.row ver (bcells n w) fz ex)) (hb : base ≤ id) :
    leave 1 base bar [.ptr id ver 0, .int .i64 e] H = some (.tup [.ptr base ver 0, .int .i64 e], H.take base ++ [.row ver (bcells n w) fz ex]) := by
  have h1 : frzAll bar H (bcells n w) = some (bcells n w, H) := by
    simp only [frzAll, frz.frzs]
    exact plains (d := 6) bcells_plain
  have h2 : frzAll bar H [.ptr id ver 0, .int .i64 e] = some ([.ptr id ver 0, .int .i64 e], H) := rfl
  simp only [leave, h2]
  simp [firstOwn, hb, hid, h1, bcells_tops, movable, AV.top, moveP, tupled]
theorem l30 {n : Nat} {q : AV} {l : List ZZ} (hq : isP q l) (hl : l.length < 1000) (hv : ∀ p ∈ l, 0 ≤ p.1 ∧ 0 ≤ p.2 ∧ p.1 < 7 ∧ p.2 < 7) (hbar : bar ≤ H.length) {R : PQ} :
    ∀ (k i : Nat) (w : Nat → Nat), i + k = l.length → (∀ x, w x < 256) →
    (R (.exit 0) [(5, .ptr (H.length + 1) 0 0), (18, q), (19, .int .i64 (l.length : Nat)), (20, .int .i64 (l.length : Nat)), (21, .bool false)] (H ++ [.row 0 [.int .i64 (n : Nat), q] 0 true, .row 0 (bcells n (boardF (l.drop i) w)) 0 true])) →
    Wp E H.length bar (.loop c30_l0) [(5, .ptr (H.length + 1) 0 0), (18, q), (19, .int .i64 (l.length : Nat)), (20, .int .i64 (i : Nat))] (H ++ [.row 0 [.int .i64 (n : Nat), q] 0 true, .row 0 (bcells n w) 0 true]) R := by
  intro k
  induction k with
  | zero =>
    intro i w hi hw h
    obtain rfl : i = l.length := by omega
    rw [List.drop_length] at h
    rw [wp_round c30_l0.eq_1]
    simp [go_sem]
    exact h
  | succ k ih =>
    intro i w hi hw h
    have hlt : i < l.length := by omega
    rw [List.drop_eq_getElem_cons hlt] at h
    obtain ⟨⟨a, b⟩, hp⟩ : ∃ p, l[i] = p := ⟨_, rfl⟩
    rw [hp] at h
    obtain ⟨h1, h2, h3, h4⟩ := hv (a, b) (by rw [← hp]; exact List.getElem_mem hlt)
    simp only at h1 h2 h3 h4
    obtain ⟨a, rfl⟩ := Int.eq_ofNat_of_zero_le h1
    obtain ⟨b, rfl⟩ := Int.eq_ofNat_of_zero_le h2
    have ha : a < 7 := by omega
    have hb : b < 8 := by omega
    have e : boardF (((a : Int), (b : Int)) :: l.drop (i + 1)) w = boardF (l.drop (i + 1)) (upd w a (bor (w a) (pw b))) := rfl
    rw [e] at h
    have hid : ∀ L : Heap, (H ++ (.row 0 [.int .i64 (n : Nat), q] 0 true :: .row 0 (bcells n w) 0 true :: L))[H.length + 1]? = some (.row 0 (bcells n w) 0 true) := fun L => by simp [own_get]
    have next := ih (i + 1) _ (by omega) (upd_lt (i := a) hw (bor_lt (hw a) (pw_lt hb))) h
    rw [wp_round c30_l0.eq_1]
    have ld : ∀ L : Heap, aload (H ++ (.row 0 [.int .i64 (n : Nat), q] 0 true :: .row 0 (bcells n w) 0 true :: L)) ⟨false, 1⟩ (.ptr (H.length + 1) 0 (1 + a)) = some (.int .u8 ((w a : Nat) : Int)) := fun L => loadB (hid L) ha
    have st : ∀ (L : Heap) (K : AV → Heap → List Nat → Prop) (bs : Nat), storeWp bs bar 1 (.ptr (H.length + 1) 0 (1 + a)) (.int .u8 ((bor (w a) (pw b) : Nat) : Int)) (H ++ (.row 0 [.int .i64 (n : Nat), q] 0 true :: .row 0 (bcells n w) 0 true :: L)) K
        = K (.tup []) (H ++ (.row 0 [.int .i64 (n : Nat), q] 0 true :: .row 0 (bcells n (upd w a (bor (w a) (pw b)))) 0 true :: L)) [H.length + 1] := fun L K bs => by
      rw [storeB (hid L) ha (by omega), own_set]; rfl
    have l2 : ∀ (X Y : Blk), aload (H ++ [X, Y, .row 0 [.int .i64 (a : Int), .int .i64 (b : Int)] 0 true]) ⟨false, 1⟩ (.ptr (H.length + 2) 0 0) = some (.int .i64 (a : Nat)) := fun X Y => by simp [aload, own_get, Ab.part]
    have l3 : ∀ (X Y : Blk), aload (H ++ [X, Y, .row 0 [.int .i64 (a : Int), .int .i64 (b : Int)] 0 true]) ⟨false, 1⟩ (.ptr (H.length + 2) 0 1) = some (.int .i64 (b : Nat)) := fun X Y => by simp [aload, own_get, Ab.part]
    have s2 : ∀ (X Y : Blk) (K : AV → Heap → List Nat → Prop) (bs : Nat), storeWp bs bar 2 (.ptr (H.length + 2) 0 0) (.agg [.int .i64 (a : Int), .int .i64 (b : Int)]) (H ++ [X, Y, .row 0 [.int .i64 0, .int .i64 0] 0 true]) K
        = K (.tup []) (H ++ [X, Y, .row 0 [.int .i64 (a : Int), .int .i64 (b : Int)] 0 true]) [H.length + 2] := fun X Y K bs => by
      simp [storeWp, astore, own_get, own_set, setCells, show bar ≤ H.length + 2 by omega, AV.isTup, AV.cells, AV.top.tops, AV.top]
    have lf : aload (H ++ [Blk.row 0 [.int .i64 (n : Nat), q] 0 true, .row 0 (bcells n w) 0 true]) ⟨true, 2⟩ (.fp (.agg [.int .i64 (a : Int), .int .i64 (b : Int)])) = some (.agg [.int .i64 (a : Int), .int .i64 (b : Int)]) := by simp [aload]
    simp [go_sem, hlt, hq.ix hlt, hp, zc, lf]
    rw [s2]
    simp [go_sem, l2, l3, ha, ld, shl_u8 hb, or_u8 (hw a) (pw_lt hb)]
    rw [st]
    simp [go_sem, hq.top, i64_suc (show i < 1000000 by omega)]
    exact next
theorem k30 {n : Int} {q : AV} {l : List ZZ} (hq : isP q l) (hl : l.length < 1000) (hbar : bar ≤ H.length)
    (h1 : checkS n l ≠ 0 → Q (.tup [.nilp, .int .i64 (checkS n l)]) H)
    (h2 : ∀ m : Nat, n = m → 1 ≤ m → m ≤ 7 → checkS n l = 0 → Q (.tup [.ptr H.length 0 0, .int .i64 0]) (H ++ [.row 0 (bcells m (boardF l fun _ => 0)) 0 true])) :
    WpCall E false base bar 30 [.agg [.int .i64 n, q]] H Q := by
  rw [call30]
  have lh : aload (H ++ [Blk.row 0 [.int .i64 n, q] 0 true]) ⟨true, 2⟩ (.ptr H.length 0 0) = some (.agg [.int .i64 n, q]) := by simp [aload, own_get0, Ab.part]
  have ln : aload (H ++ [Blk.row 0 [.int .i64 n, q] 0 true]) ⟨false, 1⟩ (.ptr H.length 0 0) = some (.int .i64 n) := by simp [aload, own_get0, Ab.part]
  simp [go_sem, WpFun, c30, hq.frz, lh]
  refine k63 hq hl (by simp; omega) ?_
  by_cases hc : checkS n l = 0
  · rw [hc]
    have hr : within 1 7 n = true := by
      unfold checkS at hc
      split at hc
      · assumption
      · cases hc
    have hchk : chkF n [] l = 0 := by
      unfold checkS at hc
      rw [if_pos hr] at hc
      split at hc
      · assumption
      · exact hc
    simp [within] at hr
    obtain ⟨n, rfl⟩ := Int.eq_ofNat_of_zero_le (show 0 ≤ n by omega)
    have hv := chkF_valid hchk
    have e0 : [AV.int .i64 (n : Int), .int .u8 0, .int .u8 0, .int .u8 0, .int .u8 0, .int .u8 0, .int .u8 0, .int .u8 0] = bcells n (fun _ => 0) := rfl
    have lq : ∀ L : Heap, aload (H ++ (Blk.row 0 [.int .i64 (n : Int), q] 0 true :: L)) ⟨false, 1⟩ (.ptr H.length 0 1) = some q := fun L => by simp [aload, own_get0, Ab.part]
    simp [go_sem, ln, fillA, setCells, lq, hq.len]
    rw [e0]
    refine l30 hq hl (fun p hp => by have := hv p hp; omega) hbar l.length 0 (fun _ => 0) (by omega) (fun _ => by decide) ?_
    rw [List.drop_zero]
    simp [go_sem]
    rw [leave1_ptr (id := H.length + 1) (n := n) (w := boardF l fun _ => 0) (fz := 0) (ex := true) (by simp [own_get]) (by omega)]
    simp [go_sem]
    exact h2 n rfl (by omega) (by omega) hc
  · simp [go_sem, hc, leave1_nil]
    exact h1 hc
theorem MadeC.board {n bits : Nat} {l : List ZZ} {f : Nat → Nat → Bool} (h : MadeC n bits l f) : BoardW n (boardF l fun _ => 0) ∧ ∀ x y, (boardF l (fun _ => 0) x).testBit y = f x y := by
  have hv := chkF_valid h.chk
  have hb : ∀ x y, (boardF l (fun _ => 0) x).testBit y = f x y := fun x y => by
    rw [Bool.eq_iff_iff, boardF_bit fun p hp => by have := hv p hp; exact ⟨this.1, this.2.1⟩, h.beat]
    simp
  have hlt : ∀ (r : List ZZ) (w : Nat → Nat), (∀ x, w x < 256) → (∀ p ∈ r, p.2.toNat < 8) → ∀ x, boardF r w x < 256 := by
    intro r
    induction r with
    | nil => intro w hw _; exact hw
    | cons p r ih =>
      intro w hw hp
      exact ih (winW w p) (winW_lt hw (hp p (List.mem_cons_self ..))) fun q hq => hp q (List.mem_cons_of_mem _ hq)
  have h7 := h.le
  exact ⟨⟨h.le, hlt l _ (fun _ => by decide) fun p hp => by have := hv p hp; omega, fun x y hxy => h.dom x y (by rw [← hb]; exact hxy), fun x => by rw [hb]; exact h.irr x, fun x y hx hy hne => by rw [hb, hb]; exact h.one hx hy hne⟩, hb⟩
end Go.Proofs.Ytngoldipfgfecaa.Code
end
section
namespace Go.Proofs.Ytngoldipfgfecaa.Code
open Go Go.Ab
variable {pure : Bool} {base bar : Nat} {H : Heap} {Q : AV → Heap → Prop}
theorem bits_clr {s g : Nat} (hs : s < 256) : bitsOf (clr s g) = (bitsOf s).filter fun i => !g.testBit i := by
  unfold bitsOf
  rw [List.filter_filter]
  congr 1
  funext i
  rw [testBit_clr hs, Bool.and_comm]
theorem len_split {p : Nat → Bool} : ∀ {l : List Nat}, l.length = (l.filter p).length + (l.filter fun u => !p u).length
  | [] => rfl
  | x :: r => by
    have := len_split (p := p) (l := r)
    rw [List.filter_cons, List.filter_cons, List.length_cons]
    cases p x <;> simp <;> omega
theorem flatMap_len {α : Type} {f : Nat → List α} {m : Nat} : ∀ (l : List Nat), (∀ x ∈ l, (f x).length ≤ m) → (l.flatMap f).length ≤ l.length * m
  | [], _ => by simp
  | x :: r, h => by
    have h1 := h x (List.mem_cons_self ..)
    have h2 := flatMap_len r fun y hy => h y (List.mem_cons_of_mem _ hy)
    simp only [List.flatMap_cons, List.length_append, List.length_cons, Nat.succ_mul]; omega
/-- the sets to which chains lead -/
structure ReachW (w : Nat → Nat) (g : Nat → Nat) : Prop where
  lt : ∀ x, x < 7 → g x < 128
  bit : ∀ x y, x < 7 → ((g x).testBit y = true ↔ Rch w x y)
theorem Rch.lt {n : Nat} {w : Nat → Nat} (hbd : BoardW n w) {x y : Nat} (hx : x < n) (h : Rch w x y) : y < n := by
  induction h with
  | refl => exact hx
  | step _ h2 _ => exact (hbd.dom _ _ h2).2
/-! groups -/
def cntG (g : Nat → Nat) (left x : Nat) : Nat := (bitsOf (band (g x) left)).length
def stepG (g : Nat → Nat) (left : Nat) (s : Nat × Nat) (x : Nat) : Nat × Nat := if s.2 < cntG g left x then (pw x, cntG g left x) else if cntG g left x = s.2 then (bor s.1 (pw x), s.2) else s
def firstG (g : Nat → Nat) (left : Nat) : Nat × Nat := (bitsOf left).foldl (stepG g left) (0, 0)
def groupsT (g : Nat → Nat) : Nat → Nat → List (List Nat)
  | 0, _ => []
  | f + 1, left => if left = 0 then [] else bitsOf (firstG g left).1 :: groupsT g f (clr left (firstG g left).1)
theorem fold_group {g : Nat → Nat} {left : Nat} (hc : ∀ x, left.testBit x = true → x < 8 → 1 ≤ cntG g left x) : ∀ (L done : List Nat) (s : Nat × Nat), (∀ x ∈ L, left.testBit x = true ∧ x < 8) → s.1 < 256 →
    (∀ x ∈ done, cntG g left x ≤ s.2) → (s.2 = 0 ∧ done = [] ∨ ∃ x ∈ done, cntG g left x = s.2) → (∀ x, s.1.testBit x = true ↔ x ∈ done ∧ cntG g left x = s.2) →
    (L.foldl (stepG g left) s).1 < 256 ∧ (∀ x ∈ done ++ L, cntG g left x ≤ (L.foldl (stepG g left) s).2) ∧ ((L.foldl (stepG g left) s).2 = 0 ∧ done ++ L = [] ∨ ∃ x ∈ done ++ L, cntG g left x = (L.foldl (stepG g left) s).2) ∧
      (∀ x, (L.foldl (stepG g left) s).1.testBit x = true ↔ x ∈ done ++ L ∧ cntG g left x = (L.foldl (stepG g left) s).2)
  | [], done, s, _, h0, h1, h2, h3 => by simpa using ⟨h0, h1, h2, h3⟩
  | z :: r, done, s, hL, h0, h1, h2, h3 => by
    obtain ⟨hz, hz8⟩ := hL z (List.mem_cons_self ..)
    have hcz := hc z hz hz8
    rw [List.foldl_cons]
    have e : done ++ z :: r = (done ++ [z]) ++ r := by simp
    rw [e]
    refine fold_group hc r (done ++ [z]) (stepG g left s z) (fun x hx => hL x (List.mem_cons_of_mem _ hx)) ?_ ?_ ?_ ?_
    · unfold stepG
      split
      · exact pw_lt hz8
      · split
        · exact bor_lt h0 (pw_lt hz8)
        · exact h0
    · intro x hx
      unfold stepG
      rcases List.mem_append.1 hx with hx | hx
      · have := h1 x hx
        split
        · exact Nat.le_trans this (by simp only; omega)
        · split <;> exact this
      · rw [List.mem_singleton] at hx; subst hx
        split
        · exact Nat.le_refl _
        · rename_i g1
          split
          · rename_i g2; exact Nat.le_of_eq g2
          · exact Nat.le_of_not_lt g1
    · right
      unfold stepG
      split
      · exact ⟨z, by simp, rfl⟩
      · split
        · rename_i h; exact ⟨z, by simp, h⟩
        · rename_i g1 g2
          rcases h2 with ⟨h2, _⟩ | ⟨x, hx, h2⟩
          · omega
          · exact ⟨x, List.mem_append_left _ hx, h2⟩
    · intro x
      rw [List.mem_append, List.mem_singleton]
      unfold stepG
      split
      · rename_i hlt
        rw [testBit_pw, decide_eq_true_eq]
        constructor
        · rintro rfl; exact ⟨.inr rfl, rfl⟩
        · rintro ⟨hx | hx, he⟩
          · have := h1 x hx; simp only at he; omega
          · exact hx.symm
      · split
        · rename_i hge heq
          simp only
          rw [testBit_bor, Bool.or_eq_true, testBit_pw, decide_eq_true_eq, h3]
          constructor
          · rintro (⟨hx, he⟩ | rfl)
            · exact ⟨.inl hx, he⟩
            · exact ⟨.inr rfl, heq⟩
          · rintro ⟨hx | hx, he⟩
            · exact .inl ⟨hx, he⟩
            · exact .inr hx.symm
        · rename_i hge hne
          rw [h3]
          constructor
          · rintro ⟨hx, he⟩; exact ⟨.inl hx, he⟩
          · rintro ⟨hx | hx, he⟩
            · exact ⟨hx, he⟩
            · subst hx; exact absurd he hne
end Go.Proofs.Ytngoldipfgfecaa.Code
end
section
namespace Go.Proofs.Ytngoldipfgfecaa.Code
open Go Go.Ab
variable {pure : Bool} {base bar : Nat} {H : Heap} {Q : AV → Heap → Prop}
section
variable {n : Nat} {w g : Nat → Nat}
theorem cnt_pos (hg : ReachW w g) {left x : Nat} (hx : left.testBit x = true) (hx7 : x < 7) : 1 ≤ cntG g left x := by
  unfold cntG
  exact List.length_pos_of_mem (a := x) (bits_mem.2 ⟨by omega, by rw [testBit_band, hx, (hg.bit x x hx7).2 .refl]; rfl⟩)
/-- the first group: those with the greatest number -/
theorem first_spec (hg : ReachW w g) {left : Nat} (hl : left < 128) (h0 : left ≠ 0) : ∃ m, (firstG g left).1 < 256 ∧ (∀ x, left.testBit x = true → cntG g left x ≤ m) ∧ (∃ x, left.testBit x = true ∧ cntG g left x = m) ∧ ∀ x, (firstG g left).1.testBit x = true ↔ left.testBit x = true ∧ cntG g left x = m := by
  have h7 : ∀ x, left.testBit x = true → x < 7 := fun x hx => bit_lt (n := 7) hl hx
  have := fold_group (g := g) (left := left) (fun x hx _ => cnt_pos hg hx (h7 x hx)) (bitsOf left) [] (0, 0) (fun x hx => ⟨(bits_mem.1 hx).2, (bits_mem.1 hx).1⟩) (by decide) (by simp) (.inl ⟨rfl, rfl⟩) (by simp)
  obtain ⟨a1, a2, a3, a4⟩ := this
  simp only [List.nil_append] at a2 a3 a4
  have hm : ∀ x, left.testBit x = true → x ∈ bitsOf left := fun x hx => bits_mem.2 ⟨by have := h7 x hx; omega, hx⟩
  refine ⟨(firstG g left).2, a1, fun x hx => a2 x (hm x hx), ?_, fun x => ?_⟩
  · rcases a3 with ⟨_, h⟩ | ⟨x, hx, h⟩
    · exfalso
      apply h0
      apply Nat.eq_of_testBit_eq
      intro i
      rw [Nat.zero_testBit]
      cases hi : left.testBit i
      · rfl
      · have := hm i hi; rw [h] at this; simp at this
    · exact ⟨x, (bits_mem.1 hx).2, h⟩
  · refine (a4 x).trans ⟨fun ⟨h1, h2⟩ => ⟨(bits_mem.1 h1).2, h2⟩, fun ⟨h1, h2⟩ => ⟨hm x h1, h2⟩⟩
/-- what groups are -/
structure GroupsOK (w : Nat → Nat) (left : Nat) (G : List (List Nat)) : Prop where
  each : ∀ l ∈ G, l.Pairwise (· < ·) ∧ l ≠ [] ∧ ∀ x ∈ l, left.testBit x = true
  all : ∀ x, left.testBit x = true → ∃ l ∈ G, x ∈ l
  order : G.Pairwise fun a b => ∀ x ∈ a, ∀ y ∈ b, (w x).testBit y = true
  inside : ∀ l ∈ G, ∀ x ∈ l, ∀ y ∈ l, Rch w x y
  sum : (G.flatMap fun l => l).length = (bitsOf left).length
theorem cnt_mono {left x y : Nat} (h : ∀ z, (g y).testBit z = true → (g x).testBit z = true) (hl : left < 128) : cntG g left y ≤ cntG g left x ∧ (cntG g left y = cntG g left x → ∀ z, left.testBit z = true → (g x).testBit z = true → (g y).testBit z = true) := by
  have hb : ∀ u, band u left < 128 := fun u => Nat.lt_of_le_of_lt Nat.and_le_right hl
  have hsub : band (band (g y) left) (band (g x) left) = band (g y) left := sub_band fun z hz => by
    rw [testBit_band, Bool.and_eq_true] at hz ⊢
    exact ⟨h z hz.1, hz.2⟩
  by_cases he : band (g y) left = band (g x) left
  · refine ⟨by unfold cntG; rw [he]; exact Nat.le_refl _, fun _ z hz hx => ?_⟩
    have := congrArg (·.testBit z) he
    simp only [testBit_band, hz, hx, Bool.and_self, Bool.and_true] at this
    exact this
  · have := more_bits _ (hb (g y)) _ (hb (g x)) hsub he
    unfold cntG
    exact ⟨by omega, fun hc => by omega⟩
theorem groups_ok (hbd : BoardW n w) (hg : ReachW w g) : ∀ (f left : Nat), (bitsOf left).length ≤ f → left < pw n → GroupsOK w left (groupsT g f left)
  | 0, left, hf, _ => by
    have hn : bitsOf left = [] := List.length_eq_zero_iff.1 (by omega)
    have : ∀ x, left.testBit x = true → False := fun x hx => by
      have hx7 := bit_lt (by assumption : left < pw n) hx
      have hn7 := hbd.le
      have := bits_mem.2 ⟨show x < 8 by omega, hx⟩
      rw [hn] at this; simp at this
    exact ⟨by simp [groupsT], fun x hx => (this x hx).elim, .nil, by simp [groupsT], by simp [groupsT, hn]⟩
  | f + 1, left, hf, hl => by
    have hn7 : pw n ≤ 128 := Nat.pow_le_pow_right (by decide) hbd.le
    have hl7 : left < 128 := by omega
    have h7 : ∀ x, left.testBit x = true → x < n := fun x hx => bit_lt hl hx
    have hn := hbd.le
    by_cases h0 : left = 0
    · subst h0
      rw [groupsT, if_pos rfl]
      exact ⟨by simp, fun x hx => by simp at hx, .nil, by simp, by simp [bits_zero]⟩
    obtain ⟨m, s1, s2, ⟨x0, s3, s3'⟩, s4⟩ := first_spec hg hl7 h0
    rw [groupsT, if_neg h0]
    generalize (firstG g left).1 = grp at *
    have hsub : ∀ x, grp.testBit x = true → left.testBit x = true := fun x hx => ((s4 x).1 hx).1
    have hlen : (bitsOf left).length = (bitsOf grp).length + (bitsOf (clr left grp)).length := by
      have e1 := len_split (p := grp.testBit) (l := bitsOf left)
      have e2 : (bitsOf left).filter grp.testBit = bitsOf grp := by
        unfold bitsOf
        rw [List.filter_filter]
        apply List.filter_congr
        intro x _
        cases hgx : grp.testBit x
        · rfl
        · rw [hsub x hgx]; rfl
      rw [e2, ← bits_clr (by omega)] at e1
      exact e1
    have hx0 := (s4 x0).2 ⟨s3, s3'⟩
    have hgl : 1 ≤ (bitsOf grp).length := List.length_pos_of_mem (bits_mem.2 ⟨by have := h7 x0 s3; omega, hx0⟩)
    have hc : ∀ x, (clr left grp).testBit x = true ↔ left.testBit x = true ∧ grp.testBit x = false := fun x => by
      rw [testBit_clr (by omega)]; simp
    have ih := groups_ok hbd hg f (clr left grp) (by omega) (Nat.lt_of_le_of_lt Nat.and_le_left hl)
    refine ⟨fun l hl' => ?_, fun x hx => ?_, ?_, fun l hl' => ?_, ?_⟩
    · rcases List.mem_cons.1 hl' with rfl | hl'
      · exact ⟨bits_pairwise grp, fun he => by rw [he] at hgl; simp at hgl, fun x hx => hsub x (bits_mem.1 hx).2⟩
      · obtain ⟨i1, i2, i3⟩ := ih.each l hl'
        exact ⟨i1, i2, fun x hx => ((hc x).1 (i3 x hx)).1⟩
    · cases hgx : grp.testBit x
      · obtain ⟨l, i1, i2⟩ := ih.all x ((hc x).2 ⟨hx, hgx⟩)
        exact ⟨l, List.mem_cons_of_mem _ i1, i2⟩
      · exact ⟨_, List.mem_cons_self .., bits_mem.2 ⟨by have := h7 x hx; omega, hgx⟩⟩
    · rw [List.pairwise_cons]
      refine ⟨fun b hb x hx y hy => ?_, ih.order⟩
      have hx := (bits_mem.1 hx).2
      have hy := (hc y).1 ((ih.each b hb).2.2 y hy)
      have hxl := hsub x hx
      have hxn := h7 x hxl
      have hyn := h7 y hy.1
      have hne : x ≠ y := fun he => by subst he; rw [hx] at hy; cases hy.2
      cases hw : (w x).testBit y
      · exfalso
        have hyx : (w y).testBit x = true := by rw [hbd.one y x hyn hxn (Ne.symm hne), hw]; rfl
        have hmn := cnt_mono (g := g) (left := left) (x := y) (y := x) (fun z hz => (hg.bit y z (by omega)).2 ((Rch.step .refl hyx).trans ((hg.bit x z (by omega)).1 hz))) hl7
        have e1 := ((s4 x).1 hx).2
        have e2 := s2 y hy.1
        have : grp.testBit y = true := (s4 y).2 ⟨hy.1, by omega⟩
        rw [this] at hy; cases hy.2
      · rfl
    · rcases List.mem_cons.1 hl' with rfl | hl'
      · intro x hx y hy
        have hx := (s4 x).1 (bits_mem.1 hx).2
        have hy := (s4 y).1 (bits_mem.1 hy).2
        have hxn := h7 x hx.1
        have hyn := h7 y hy.1
        by_cases hne : x = y
        · subst hne; exact .refl
        cases hw : (w x).testBit y
        · have hyx : (w y).testBit x = true := by rw [hbd.one y x hyn hxn (Ne.symm hne), hw]; rfl
          have hmn := cnt_mono (g := g) (left := left) (x := y) (y := x) (fun z hz => (hg.bit y z (by omega)).2 ((Rch.step .refl hyx).trans ((hg.bit x z (by omega)).1 hz))) hl7
          exact (hg.bit x y (by omega)).1 (hmn.2 (by rw [hx.2, hy.2]) y hy.1 ((hg.bit y y (by omega)).2 .refl))
        · exact .step .refl hw
      · exact ih.inside l hl'
    · rw [List.flatMap_cons, List.length_append, ih.sum, hlen]
end
end Go.Proofs.Ytngoldipfgfecaa.Code
end
section
namespace Go.Proofs.Ytngoldipfgfecaa.Code
open Go Go.Ab
variable {pure : Bool} {base bar : Nat} {H : Heap} {Q : AV → Heap → Prop}
/-! 45: to whom chains lead, with at most so many steps -/
def nextR (f : Nat → Nat → Bool) (n : Nat) (met : Nat → Bool) (a : Nat) : Nat → Bool := fun j => met j || (decide (j < n) && (List.range a).any fun x => met x && f x j)
def reachR (f : Nat → Nat → Bool) (n x : Nat) : Nat → Nat → Bool
  | 0 => fun j => decide (j = x)
  | k + 1 => nextR f n (reachR f n x k) n
/-! what it says -/
theorem nextR_iff {f : Nat → Nat → Bool} {n j : Nat} {met : Nat → Bool} : nextR f n met n j = true ↔ met j = true ∨ j < n ∧ ∃ x, x < n ∧ met x = true ∧ f x j = true := by
  unfold nextR
  simp [List.any_eq_true, Bool.or_eq_true, Bool.and_eq_true]
section
variable {n x : Nat} {f : Nat → Nat → Bool} {w : Nat → Nat}
theorem reachR_mono {k j : Nat} (h : reachR f n x k j = true) : reachR f n x (k + 1) j = true := nextR_iff.2 (.inl h)
end
end Go.Proofs.Ytngoldipfgfecaa.Code
end
section
namespace Go.Proofs.Ytngoldipfgfecaa.Code
open Go Go.Ab
variable {base bar : Nat} {H : Heap}
def Fill (F f : Nat → Nat) (P : List Nat) : Prop := ∀ x ∈ P, f x = F x
theorem Fill.put {F f : Nat → Nat} {P : List Nat} {x i : Nat} (h : Fill F f P) (hx : F x = i) : Fill F (upd f x i) (P ++ [x]) := fun y hy => by
  unfold upd
  split
  · rename_i he; subst he; exact hx.symm
  · rename_i hne
    rcases List.mem_append.1 hy with hy | hy
    · exact h y hy
    · simp only [List.mem_singleton] at hy; exact absurd hy hne
/-- those of the first groups -/
def doneL (G : List (List Nat)) (i : Nat) : List Nat := (G.take i).flatMap fun l => l
end Go.Proofs.Ytngoldipfgfecaa.Code
end
section
namespace Go.Proofs.Ytngoldipfgfecaa.Code
open Go Go.Ab
variable {base bar : Nat} {H : Heap}
/-! the groups of a contest -/
def idxG (G : List (List Nat)) (x : Nat) : Nat := G.findIdx fun l => l.contains x
structure Parts (n : Nat) (w : Nat → Nat) (G : List (List Nat)) : Prop where
  len : G.length ≤ n
  each : ∀ l ∈ G, l.Pairwise (· < ·) ∧ l ≠ [] ∧ (∀ x ∈ l, x < n) ∧ l.length ≤ n
  idx : ∀ i (hi : i < G.length), ∀ x ∈ G[i], idxG G x = i
  has : ∀ x, x < n → ∃ h : idxG G x < G.length, x ∈ G[idxG G x]
  order : ∀ a b, a < n → b < n → idxG G a < idxG G b → (w a).testBit b = true
  inside : ∀ a b, a < n → b < n → idxG G a = idxG G b → Rch w a b
  sum : (doneL G G.length).length = n
theorem flat_ge : ∀ (G : List (List Nat)), (∀ l ∈ G, l ≠ []) → G.length ≤ (G.flatMap fun l => l).length
  | [], _ => by simp
  | a :: r, h => by
    have h1 := flat_ge r fun l hl => h l (List.mem_cons_of_mem _ hl)
    have h2 := List.length_pos_iff.2 (h a (List.mem_cons_self ..))
    rw [List.flatMap_cons, List.length_append, List.length_cons]; omega
theorem parts_of {n : Nat} {w g : Nat → Nat} (hbd : BoardW n w) (hg : ReachW w g) : Parts n w (groupsT g 8 (pw n - 1)) := by
  have h1 : 1 ≤ pw n := Nat.one_le_two_pow
  have hn := hbd.le
  have hok := groups_ok hbd hg 8 (pw n - 1) (bits_len _) (by omega)
  generalize groupsT g 8 (pw n - 1) = G at hok
  have hall : ∀ x, (pw n - 1).testBit x = true ↔ x < n := fun x => by rw [testBit_all, decide_eq_true_eq]
  have hbits : (bitsOf (pw n - 1)).length = n := by
    have e : bitsOf (pw n - 1) = List.range n := by
      unfold bitsOf
      obtain ⟨d, hd⟩ : ∃ d, 8 = n + d := ⟨8 - n, by omega⟩
      rw [hd, filter_range_cut d fun c hc1 hc2 => by rw [testBit_all]; simp; omega]
      rw [List.filter_eq_self.2 fun x hx => (hall x).2 (List.mem_range.1 hx)]
    rw [e, List.length_range]
  have hdone : doneL G G.length = G.flatMap fun l => l := by unfold doneL; rw [List.take_length]
  have hord := List.pairwise_iff_getElem.1 hok.order
  have hidx : ∀ i (hi : i < G.length), ∀ x ∈ G[i], idxG G x = i := fun i hi x hx => by
    unfold idxG
    rw [List.findIdx_eq hi]
    refine ⟨by simpa using hx, fun j hj => ?_⟩
    cases hc : G[j].contains x
    · rfl
    · have := hord j i (by omega) hi hj x (by simpa using hc) x hx
      rw [hbd.irr] at this; cases this
  have hhas : ∀ x, x < n → ∃ h : idxG G x < G.length, x ∈ G[idxG G x] := fun x hx => by
    obtain ⟨l, hl, hxl⟩ := hok.all x ((hall x).2 hx)
    obtain ⟨i, hi, rfl⟩ := List.getElem_of_mem hl
    have := hidx i hi x hxl
    refine ⟨by rw [this]; exact hi, ?_⟩
    simp only [this]; exact hxl
  refine ⟨?_, fun l hl => ?_, hidx, hhas, fun a b ha hb hlt => ?_, fun a b ha hb he => ?_, by rw [hdone, hok.sum, hbits]⟩
  · have := flat_ge G fun l hl => (hok.each l hl).2.1
    rw [hok.sum, hbits] at this
    exact this
  · obtain ⟨e1, e2, e3⟩ := hok.each l hl
    refine ⟨e1, e2, fun x hx => (hall x).1 (e3 x hx), ?_⟩
    have := sub_len (l := l) (m := List.range n) (e1.imp fun h => Nat.ne_of_lt h) fun x hx => List.mem_range.2 ((hall x).1 (e3 x hx))
    simpa using this
  · obtain ⟨h1, h2⟩ := hhas a ha
    obtain ⟨h3, h4⟩ := hhas b hb
    exact hord _ _ h1 h3 hlt a h2 b h4
  · obtain ⟨h1, h2⟩ := hhas a ha
    obtain ⟨h3, h4⟩ := hhas b hb
    simp only [← he] at h4
    exact hok.inside _ (List.getElem_mem h1) a h2 b h4
end Go.Proofs.Ytngoldipfgfecaa.Code
end
section
namespace Go.Proofs.Ytngoldipfgfecaa.Code
open Go Go.Ab
variable {pure : Bool} {base bar : Nat} {H : Heap} {Q : AV → Heap → Prop}
end Go.Proofs.Ytngoldipfgfecaa.Code
end
section
namespace Go.Proofs.Ytngoldipfgfecaa.Code
open Go Go.Ab
variable {pure : Bool} {base bar : Nat} {H : Heap} {Q : AV → Heap → Prop}
/-! a list that is still owned -/
def Wv (l : List Nat) (v : AV) (H : Heap) : Prop := (l = [] ∧ v = .nils) ∨ ∃ id ver fz, l ≠ [] ∧ v = .vec id ver 0 l.length 1 ∧ H[id]? = some (.row ver (nats l) fz false)
theorem Wv.len {l : List Nat} {v : AV} (h : Wv l v H) {K : AV → Heap → List Nat → Prop} : lenWp (some v) H K = K (.int .i64 (l.length : Int)) H [] := by
  rcases h with ⟨rfl, rfl⟩ | ⟨id, ver, fz, h1, rfl, h2⟩ <;> rfl
theorem Wv.frz {l : List Nat} {v : AV} (h : Wv l v H) : ∃ v' H', frz 8 0 H v = some (v', H') ∧ isL v' l ∧ Wv l v H' := by
  rcases h with ⟨rfl, rfl⟩ | ⟨id, ver, fz, h1, rfl, h2⟩
  · exact ⟨.nils, H, rfl, .nil, .inl ⟨rfl, rfl⟩⟩
  · have e := frz_vec (d := 7) (bar := 0) (H := H) (id := id) (ver := ver) (off := 0) (len := l.length) (sz := 1) (cs := nats l) (fz := fz) (ex := false) (xs := nats l)
      (H' := H.set id (.row ver (nats l) (max fz (0 + l.length * 1)) false)) h2 (by rw [nats_length]; omega) (Nat.zero_le _) (by
        rw [List.drop_zero, List.take_of_length_le (by rw [nats_length]; omega), plains nats_plain])
    have hch : chunks 1 l.length (nats l) = nats l := by
      have := chunks_one (l := nats l)
      rw [nats_length] at this; exact this
    rw [hch] at e
    exact ⟨_, _, e, .lst (ex := false), .inr ⟨id, ver, max fz (0 + l.length * 1), h1, rfl, set_get h2⟩⟩
theorem Wv.ix {l : List Nat} {v : AV} (h : Wv l v H) {i : Nat} (hi : i < l.length) : ∃ p, (∀ K : AV → Heap → List Nat → Prop, ixaSWp 1 (some v) (some (.int .i64 (i : Int))) H K = K p H []) ∧ aload H ⟨false, 1⟩ p = some (.int .i64 ((l[i] : Nat) : Int)) := by
  rcases h with ⟨rfl, rfl⟩ | ⟨id, ver, fz, h1, rfl, h2⟩
  · simp at hi
  · refine ⟨.ptr id ver i, fun K => ?_, ?_⟩
    · simp [ixaSWp_vec, hi]
    · rw [aload_ptr h2, part_one, nats_get hi]
end Go.Proofs.Ytngoldipfgfecaa.Code
end
section
namespace Go.Proofs.Ytngoldipfgfecaa.Code
open Go Go.Ab
/-! who reaches all in two steps -/
end Go.Proofs.Ytngoldipfgfecaa.Code
end
section
namespace Go.Proofs.Ytngoldipfgfecaa.Code
open Go Go.Ab
variable {base bar : Nat} {H : Heap}
end Go.Proofs.Ytngoldipfgfecaa.Code
end
section
namespace Go.Proofs.Ytngoldipfgfecaa.Code
open Go Go.Ab
end Go.Proofs.Ytngoldipfgfecaa.Code
end
section
namespace Go.Proofs.Ytngoldipfgfecaa.Code
open Go Go.Ab
variable {pure : Bool} {base bar : Nat} {H : Heap} {Q : AV → Heap → Prop}
/-! 66: who beat whom, asked of a board -/
theorem k61 {id ver n x y fz : Nat} {ex : Bool} {w : Nat → Nat} (hid : H[id]? = some (.row ver (bcells n w) fz ex)) (hw : ∀ x, w x < 256) (hx : x < 7) :
    WpCall E pure base bar 61 [.ptr id ver 0, .int .i64 (x : Nat), .int .i64 (y : Nat)] H Q ↔ Q (.bool ((w x).testBit y)) H := by
  rw [call61]
  simp [go_sem, WpFun, c61, loadB hid hx, k85 (hw x), hx]
/-! steps at the front -/
theorem reachR_le {f : Nat → Nat → Bool} {n x j : Nat} : ∀ {m k : Nat}, reachR f n x k j = true → k ≤ m → reachR f n x m j = true
  | 0, k, h, hk => by obtain rfl : k = 0 := by omega
                      exact h
  | m + 1, k, h, hk => by
    by_cases e : k = m + 1
    · subst e; exact h
    · exact reachR_mono (reachR_le (m := m) h (by omega))
theorem reach_front {f : Nat → Nat → Bool} {n z : Nat} (hd : ∀ x y, f x y = true → x < n ∧ y < n) (hz : z < n) : ∀ {k y : Nat}, reachR f n z (k + 1) y = true ↔ reachR f n z k y = true ∨ ∃ u, u < n ∧ f z u = true ∧ reachR f n u k y = true
  | 0, y => by
    show nextR f n (reachR f n z 0) n y = true ↔ _
    rw [nextR_iff]
    simp only [reachR, decide_eq_true_eq]
    constructor
    · rintro (h | ⟨h1, x, h2, rfl, h3⟩)
      · exact .inl h
      · exact .inr ⟨y, h1, h3, rfl⟩
    · rintro (h | ⟨u, h1, h2, rfl⟩)
      · exact .inl h
      · exact .inr ⟨h1, z, hz, rfl, h2⟩
  | k + 1, y => by
    show nextR f n (reachR f n z (k + 1)) n y = true ↔ _
    rw [nextR_iff]
    constructor
    · rintro (h | ⟨h1, x, h2, h3, h4⟩)
      · exact .inl h
      · rcases (reach_front hd hz).1 h3 with h | ⟨u, u1, u2, u3⟩
        · exact .inl (nextR_iff.2 (.inr ⟨h1, x, h2, h, h4⟩))
        · exact .inr ⟨u, u1, u2, nextR_iff.2 (.inr ⟨h1, x, h2, u3, h4⟩)⟩
    · rintro (h | ⟨u, u1, u2, u3⟩)
      · exact .inl h
      · rcases nextR_iff.1 u3 with h | ⟨h1, x, h2, h3, h4⟩
        · exact .inl ((reach_front hd hz).2 (.inr ⟨u, u1, u2, h⟩))
        · exact .inr ⟨h1, x, h2, (reach_front hd hz).2 (.inr ⟨u, u1, u2, h3⟩), h4⟩
/-- so many steps, and no fewer -/
def isLv (f : Nat → Nat → Bool) (n y z d : Nat) : Prop := reachR f n z d y = true ∧ ∀ j, j < d → reachR f n z j y = false
theorem isLv.le {f : Nat → Nat → Bool} {n y z a b : Nat} (h1 : isLv f n y z a) (h2 : reachR f n z b y = true) : a ≤ b := by
  apply Nat.le_of_not_lt
  intro h
  rw [h1.2 b h] at h2; cases h2
/-- one that is beaten and from whom chains lead in one step less -/
theorem isLv.pred {f : Nat → Nat → Bool} {n y z d u : Nat} (hd : ∀ x y, f x y = true → x < n ∧ y < n) (hz : z < n) (h : isLv f n y z (d + 1)) (hf : f z u = true) (hu : reachR f n u d y = true) : isLv f n y u d :=
  ⟨hu, fun j hj => by
    cases hr : reachR f n u j y
    · rfl
    · have := (reach_front hd hz).2 (.inr ⟨u, (hd _ _ hf).2, hf, hr⟩)
      rw [h.2 (j + 1) (by omega)] at this; cases this⟩
theorem isLv.next {f : Nat → Nat → Bool} {n y z d : Nat} (hd : ∀ x y, f x y = true → x < n ∧ y < n) (hz : z < n) (h : isLv f n y z (d + 1)) : ∃ u, u < n ∧ f z u = true ∧ isLv f n y u d := by
  rcases (reach_front hd hz).1 h.1 with h1 | ⟨u, u1, u2, u3⟩
  · rw [h.2 d (by omega)] at h1; cases h1
  · exact ⟨u, u1, u2, h.pred hd hz u2 u3⟩
/-- those from whom at most k steps lead to y, with their numbers of steps -/
structure Known (f : Nat → Nat → Bool) (n y k s : Nat) (lv : Nat → Nat) : Prop where
  lt : s < 128
  bit : ∀ z, s.testBit z = true ↔ z < n ∧ reachR f n z k y = true
  lev : ∀ z, s.testBit z = true → isLv f n y z (lv z)
def newB (s : Nat) (w : Nat → Nat) (b z : Nat) : Bool := decide (z < b) && (!s.testBit z && !decide (band (w z) s = 0))
theorem band_meet {a s : Nat} : band a s ≠ 0 ↔ ∃ u, a.testBit u = true ∧ s.testBit u = true := by
  constructor
  · intro h
    obtain ⟨u, hu⟩ := Nat.exists_testBit_of_ne_zero h
    rw [testBit_band, Bool.and_eq_true] at hu
    exact ⟨u, hu⟩
  · rintro ⟨u, h1, h2⟩ hc
    have := congrArg (fun m => m.testBit u) hc
    simp only [testBit_band, h1, h2, Nat.zero_testBit] at this; cases this
section
variable {f : Nat → Nat → Bool} {w : Nat → Nat} {n y : Nat}
theorem Known.next {k s nx : Nat} {lv lv' : Nat → Nat} (hd : ∀ x y, f x y = true → x < n ∧ y < n) (hw : ∀ x y, (w x).testBit y = f x y) (h : Known f n y k s lv) (hn : nx < 128)
    (hb : ∀ z, nx.testBit z = (s.testBit z || newB s w n z)) (hl : ∀ z, lv' z = if newB s w n z = true then k + 1 else lv z) : Known f n y (k + 1) nx lv' := by
  have key : ∀ z, newB s w n z = true ↔ z < n ∧ reachR f n z k y = false ∧ ∃ u, u < n ∧ f z u = true ∧ reachR f n u k y = true := fun z => by
    unfold newB
    rw [Bool.and_eq_true, Bool.and_eq_true, decide_eq_true_eq, Bool.not_eq_true', Bool.not_eq_true', decide_eq_false_iff_not]
    constructor
    · rintro ⟨h1, h2, h3⟩
      obtain ⟨u, u1, u2⟩ := band_meet.1 h3
      obtain ⟨u3, u4⟩ := (h.bit u).1 u2
      refine ⟨h1, ?_, u, u3, by rw [← hw]; exact u1, u4⟩
      cases hr : reachR f n z k y
      · rfl
      · rw [(h.bit z).2 ⟨h1, hr⟩] at h2; cases h2
    · rintro ⟨h1, h2, u, u1, u2, u3⟩
      refine ⟨h1, ?_, band_meet.2 ⟨u, by rw [hw]; exact u2, (h.bit u).2 ⟨u1, u3⟩⟩⟩
      cases hs : s.testBit z
      · rfl
      · rw [((h.bit z).1 hs).2] at h2; cases h2
  have hbit : ∀ z, nx.testBit z = true ↔ z < n ∧ reachR f n z (k + 1) y = true := fun z => by
    rw [hb, Bool.or_eq_true, h.bit, key]
    constructor
    · rintro (⟨h1, h2⟩ | ⟨h1, h2, h3⟩)
      · exact ⟨h1, reachR_mono h2⟩
      · exact ⟨h1, (reach_front hd h1).2 (.inr h3)⟩
    · rintro ⟨h1, h2⟩
      cases hr : reachR f n z k y
      · rcases (reach_front hd h1).1 h2 with h3 | h3
        · rw [hr] at h3; cases h3
        · exact .inr ⟨h1, rfl, h3⟩
      · exact .inl ⟨h1, rfl⟩
  refine ⟨hn, hbit, fun z hz => ?_⟩
  rw [hl]
  split
  · rename_i hk
    obtain ⟨k1, k2, _⟩ := (key z).1 hk
    refine ⟨((hbit z).1 hz).2, fun j hj => ?_⟩
    cases hr : reachR f n z j y
    · rfl
    · rw [reachR_le hr (by omega)] at k2; cases k2
  · rename_i hk
    refine h.lev z ?_
    rw [hb] at hz
    cases hs : s.testBit z
    · rw [hs, Bool.false_or] at hz; exact absurd hz hk
    · rfl
theorem Known.zero {lv : Nat → Nat} (hy : y < n) (hn : n ≤ 7) (hl : lv y = 0) : Known f n y 0 (pw y) lv := by
  refine ⟨Nat.pow_lt_pow_right (n := 7) (a := 2) (by decide) (by omega), fun z => ?_, fun z hz => ?_⟩
  · rw [testBit_pw]
    simp only [reachR, decide_eq_true_eq]
    omega
  · rw [testBit_pw, decide_eq_true_eq] at hz
    subst hz
    rw [hl]
    exact ⟨by simp [reachR], fun j hj => by omega⟩
end
/-! 25: a shortest chain -/
/-- what is known of a chain's beginning -/
structure ChainP (f : Nat → Nat → Bool) (n y x d : Nat) (L : List Nat) : Prop where
  ne : 0 < L.length
  first : L.getD 0 0 = x
  lv : ∀ i, i < L.length → i ≤ d ∧ isLv f n y (L.getD i 0) (d - i) ∧ L.getD i 0 < n
  beat : ∀ i, 0 < i → i < L.length → f (L.getD (i - 1) 0) (L.getD i 0) = true
  least : ∀ i, 0 < i → i < L.length → ∀ z, z < L.getD i 0 → f (L.getD (i - 1) 0) z = true → reachR f n z (d - i) y = false
theorem ChainP.one {f : Nat → Nat → Bool} {n y x d : Nat} (hx : x < n) (h : isLv f n y x d) : ChainP f n y x d [x] := by
  refine ⟨by simp, rfl, fun i hi => ?_, fun i h0 hi => by simp at hi; omega, fun i h0 hi => by simp at hi; omega⟩
  simp at hi; subst hi
  exact ⟨Nat.zero_le _, h, hx⟩
/-! a list under construction that began with a literal -/
def Gro (l : List Nat) (H0 : Heap) (v : AV) (H : Heap) : Prop := (l ≠ [] ∧ v = .lst 1 true (nats l) ∧ H = H0) ∨ Grow 1 (nats l) H0 v H
theorem nats_flat : ∀ (b : List Nat), (nats b).flatMap AV.cells = nats b := fun b => by
  induction b with
  | nil => rfl
  | cons x r ih => simp only [nats, List.map_cons, List.flatMap_cons, AV.cells] at ih ⊢; rw [ih]; rfl
theorem Gro.nat {bytes : Nat} {l : List Nat} {H0 : Heap} {v : AV} {ex : Bool} {x : Nat} {K : AV → Heap → List Nat → Prop} (g : Gro l H0 v H) (hb : bar ≤ H0.length) (hbase : base ≤ H0.length)
    (hlen : (l.length + 1) * bytes ≤ 140737488355328)
    (h : ∀ v' H' tc, Gro (l ++ [x]) H0 v' H' → K v' H' tc) : appWp base bar 1 bytes (some v) (some (.lst 1 ex [.int .i64 (x : Int)])) H K := by
  rcases g with ⟨hne, rfl, rfl⟩ | g
  · have hp : ∀ c ∈ [AV.int .i64 (x : Int)], Plain c := fun c hc => by simp at hc; subst hc; exact Plain.int
    have e : [AV.int .i64 (x : Int)].flatMap AV.cells = [AV.int .i64 (x : Int)] := rfl
    simp only [appWp, asrc_lst, frzAll, frz.frzs, e]
    rw [plains (d := 6) hp]
    simp only [AV.noVec.noVecs, AV.noVec, Bool.and_true, if_true]
    rw [if_neg (by simp)]
    simp only [aappend]
    rw [if_neg (by simp), if_neg (by simp)]
    have hl2 : ((nats l).length + [AV.int .i64 (x : Int)].length / 1) * bytes ≤ 140737488355328 := by simpa [nats_length] using hlen
    rw [if_pos ⟨trivial, hl2⟩]
    simp only
    refine h _ _ _ (.inr (.inr ⟨0, 0, by simp [nats_eq_nil], Nat.zero_le _, ?_, ?_⟩))
    · simp [nats_length]
    · rw [nats_flat, nats_append, nats_one]
  · exact g.nat hb hbase hlen fun v' H' tc g' => h v' H' tc (.inr g')
theorem Gro.frz {l : List Nat} {H0 : Heap} {v : AV} (g : Gro l H0 v H) (hb : bar ≤ H0.length) : ∃ q H', frz 8 bar H v = some (q, H') ∧ isL q l ∧ H'.take H0.length = H0 := by
  rcases g with ⟨hne, rfl, rfl⟩ | g
  · refine ⟨_, _, ?_, isL.lst (ex := true), List.take_length⟩
    exact (isL.lst (ex := true) (l := l)).frz
  · obtain ⟨H', h1, h2, h3, h4⟩ := g.frz (d := 5) (bar := bar) (by omega) (Nat.one_dvd _) nats_plain hb
    exact ⟨_, H', h1, isL.out, h4⟩
theorem Gro.get {l : List Nat} {H0 : Heap} {v : AV} (g : Gro l H0 v H) {i : Nat} {b : Blk} (h : H0[i]? = some b) : H[i]? = some b := by
  rcases g with ⟨_, _, rfl⟩ | g
  · exact h
  · exact g.get h
theorem Gro.len {l : List Nat} {H0 : Heap} {v : AV} (g : Gro l H0 v H) : H0.length ≤ H.length := by
  rcases g with ⟨_, _, rfl⟩ | g
  · exact Nat.le_refl _
  · exact g.len
end Go.Proofs.Ytngoldipfgfecaa.Code
end
section
namespace Go.Proofs.Ytngoldipfgfecaa.Code
open Go Go.Ab
variable {pure : Bool} {base bar : Nat} {H : Heap} {Q : AV → Heap → Prop}
end Go.Proofs.Ytngoldipfgfecaa.Code
end
section
namespace Go.Proofs.Ytngoldipfgfecaa.Code
open Go Go.Ab
variable {pure : Bool} {base bar : Nat} {H : Heap} {Q : AV → Heap → Prop}
end Go.Proofs.Ytngoldipfgfecaa.Code
end
section
namespace Go.Proofs.Ytngoldipfgfecaa.Code
open Go Go.Ab
variable {base bar : Nat} {H : Heap}
end Go.Proofs.Ytngoldipfgfecaa.Code
end
section
namespace Go.Proofs.Ytngoldipfgfecaa.Code
open Go Go.Ab
variable {pure : Bool} {base bar : Nat} {H : Heap} {Q : AV → Heap → Prop}
/-! a contest without an error, in general -/
structure OkC (n : Nat) (l : List ZZ) : Prop where
  le : n ≤ 7
  pos : 1 ≤ n
  check : checkS (n : Int) l = 0
theorem MadeC.ok {n bits : Nat} {l : List ZZ} {f : Nat → Nat → Bool} (h : MadeC n bits l f) : OkC n l := ⟨h.le, h.pos, h.check⟩
theorem OkC.chk {n : Nat} {l : List ZZ} (h : OkC n l) : chkF (n : Int) [] l = 0 := by
  have hc := h.check
  unfold checkS at hc
  split at hc
  · split at hc
    · assumption
    · exact hc
  · cases hc
theorem OkC.len {n : Nat} {l : List ZZ} (h : OkC n l) : halfN n ≤ l.length := by
  have hc := h.check
  unfold checkS at hc
  have hk := h.chk
  split at hc
  · split at hc
    · cases hc
    · rename_i g; simpa using g
  · cases hc
def codeP (p : ZZ) : Nat := tri (max p.1.toNat p.2.toNat) + min p.1.toNat p.2.toNat
theorem tri_mono {a b : Nat} (h : a ≤ b) : tri a ≤ tri b := by
  induction b with
  | zero => obtain rfl : a = 0 := by omega
            exact Nat.le_refl _
  | succ b ih =>
    by_cases e : a = b + 1
    · subst e; exact Nat.le_refl _
    · have := ih (by omega)
      simp only [tri]; omega
theorem tri_inj {a b c d : Nat} (hb : b < a) (hd : d < c) (h : tri a + b = tri c + d) : a = c ∧ b = d := by
  rcases Nat.lt_trichotomy a c with hl | hl | hl
  · have := tri_mono (show a + 1 ≤ c by omega)
    simp only [tri] at this; omega
  · subst hl; exact ⟨rfl, by omega⟩
  · have := tri_mono (show c + 1 ≤ a by omega)
    simp only [tri] at this; omega
theorem chkF_new {n : Int} : ∀ {l b : List ZZ}, chkF n b l = 0 → ∀ p ∈ l, qin b p.1 p.2 = false
  | [], _, _, p, hp => by simp at hp
  | o :: r, b, h, p, hp => by
    simp only [chkF] at h
    split at h
    · cases h
    split at h
    · cases h
    split at h
    · cases h
    rename_i g
    rcases List.mem_cons.1 hp with rfl | hp
    · simpa using g
    · have := chkF_new h p hp
      rw [qin, List.any_append, Bool.or_eq_false_iff] at this
      exact this.1
theorem chkF_codes {n : Int} : ∀ {l b : List ZZ}, chkF n b l = 0 → (l.map codeP).Nodup
  | [], _, _ => List.nodup_nil
  | o :: r, b, h => by
    have hv := chkF_valid h o (List.mem_cons_self ..)
    have hvr := fun p hp => chkF_valid h p (List.mem_cons_of_mem _ hp)
    simp only [chkF] at h
    split at h
    · cases h
    split at h
    · cases h
    split at h
    · cases h
    rw [List.map_cons, List.nodup_cons]
    refine ⟨fun hm => ?_, chkF_codes h⟩
    obtain ⟨p, hp, he⟩ := List.mem_map.1 hm
    have hn := chkF_new h p hp
    have hvp := hvr p hp
    rw [qin, List.any_append, Bool.or_eq_false_iff] at hn
    have h2 := hn.2
    simp only [List.any_cons, List.any_nil, Bool.or_false, Bool.or_eq_false_iff, Bool.and_eq_false_iff, beq_eq_false_iff_ne] at h2
    unfold codeP at he
    have := tri_inj (by omega) (by omega) he
    omega
theorem codeP_lt {n : Nat} {p : ZZ} (h : 0 ≤ p.1 ∧ 0 ≤ p.2 ∧ p.1 < (n : Int) ∧ p.2 < (n : Int) ∧ p.1 ≠ p.2) : codeP p < tri n := by
  unfold codeP
  have := tri_mono (show max p.1.toNat p.2.toNat + 1 ≤ n by omega)
  simp only [tri] at this
  omega
/-- no two met twice, and there are enough meetings: so all have met -/
theorem met_all {n : Nat} {l : List ZZ} (hc : chkF (n : Int) [] l = 0) (hl : tri n ≤ l.length) {x y : Nat} (hx : x < n) (hyx : y < x) : ((x : Int), (y : Int)) ∈ l ∨ ((y : Int), (x : Int)) ∈ l := by
  apply Decidable.byContradiction
  intro hno
  rw [not_or] at hno
  have hv := chkF_valid hc
  have hnd := chkF_codes hc
  have hnc : tri x + y ∉ l.map codeP := fun hm => by
    obtain ⟨⟨a, b⟩, hp, he⟩ := List.mem_map.1 hm
    have h1 := hv _ hp
    simp only at h1
    obtain ⟨a, rfl⟩ := Int.eq_ofNat_of_zero_le h1.1
    obtain ⟨b, rfl⟩ := Int.eq_ofNat_of_zero_le h1.2.1
    unfold codeP at he
    simp only [Int.toNat_natCast] at he
    obtain ⟨e1, e2⟩ := tri_inj (by omega) hyx he
    by_cases hab : a ≤ b
    · obtain rfl : b = x := by omega
      obtain rfl : a = y := by omega
      exact hno.2 hp
    · obtain rfl : a = x := by omega
      obtain rfl : b = y := by omega
      exact hno.1 hp
  have hxy : tri x + y < tri n := by
    have := tri_mono (show x + 1 ≤ n by omega)
    simp only [tri] at this; omega
  have := sub_len (l := (tri x + y) :: l.map codeP) (m := List.range (tri n)) (List.nodup_cons.2 ⟨hnc, hnd⟩) fun c hcm => by
    rcases List.mem_cons.1 hcm with rfl | hcm
    · exact List.mem_range.2 hxy
    · obtain ⟨p, hp, rfl⟩ := List.mem_map.1 hcm
      exact List.mem_range.2 (codeP_lt (hv p hp))
  rw [List.length_cons, List.length_map, List.length_range] at this
  omega
theorem not_both {n : Int} : ∀ {l b : List ZZ}, chkF n b l = 0 → ∀ x y, (x, y) ∈ l → (y, x) ∈ l → False
  | [], _, _, x, y, h, _ => by simp at h
  | o :: r, b, h, x, y, h1, h2 => by
    have hv := chkF_valid h
    have hne := (hv _ h1).2.2.2.2
    simp only at hne
    simp only [chkF] at h
    split at h
    · cases h
    split at h
    · cases h
    split at h
    · cases h
    rcases List.mem_cons.1 h1 with rfl | g1
    · rcases List.mem_cons.1 h2 with h2 | h2
      · cases h2; exact hne rfl
      · have hn := chkF_new h _ h2
        rw [qin, List.any_append, Bool.or_eq_false_iff] at hn
        have h3 := hn.2
        simp [List.any_cons] at h3
    · rcases List.mem_cons.1 h2 with h2 | g2
      · subst h2
        have hn := chkF_new h _ g1
        rw [qin, List.any_append, Bool.or_eq_false_iff] at hn
        have h3 := hn.2
        simp [List.any_cons] at h3
      · exact not_both h x y g1 g2
theorem boardF_lt : ∀ (r : List ZZ) (w : Nat → Nat), (∀ x, w x < 256) → (∀ p ∈ r, p.2.toNat < 8) → ∀ x, boardF r w x < 256
  | [], w, hw, _ => hw
  | p :: r, w, hw, hp => boardF_lt r (winW w p) (winW_lt hw (hp p (List.mem_cons_self ..))) fun q hq => hp q (List.mem_cons_of_mem _ hq)
/-- whom each one beat -/
def bitL (l : List ZZ) (x y : Nat) : Bool := l.any fun p => p.1 == (x : Int) && p.2 == (y : Int)
theorem bitL_iff {l : List ZZ} {x y : Nat} : bitL l x y = true ↔ ((x : Int), (y : Int)) ∈ l := by
  unfold bitL
  rw [List.any_eq_true]
  constructor
  · rintro ⟨⟨a, b⟩, h1, h2⟩
    simp at h2
    obtain ⟨rfl, rfl⟩ := h2; exact h1
  · exact fun h => ⟨_, h, by simp⟩
theorem OkC.board {n : Nat} {l : List ZZ} (h : OkC n l) : BoardW n (boardF l fun _ => 0) ∧ ∀ x y, (boardF l (fun _ => 0) x).testBit y = bitL l x y := by
  have hv := chkF_valid h.chk
  have hle := h.le
  have hl := h.len
  have ht := tri_half n hle
  have hb : ∀ x y, (boardF l (fun _ => 0) x).testBit y = true ↔ ((x : Int), (y : Int)) ∈ l := fun x y => by
    rw [boardF_bit fun p hp => by have := hv p hp; exact ⟨this.1, this.2.1⟩]
    simp
  have hdom : ∀ x y : Nat, ((x : Int), (y : Int)) ∈ l → x < n ∧ y < n ∧ x ≠ y := fun x y hm => by
    have := hv _ hm
    simp only at this; omega
  refine ⟨⟨hle, boardF_lt l _ (fun _ => by decide) fun p hp => by have := hv p hp; omega, fun x y hxy => ?_, fun x => ?_, fun x y hx hy hne => ?_⟩, fun x y => by rw [Bool.eq_iff_iff, hb, bitL_iff]⟩
  · have := hdom x y ((hb x y).1 hxy); exact ⟨this.1, this.2.1⟩
  · cases hx : (boardF l (fun _ => 0) x).testBit x
    · rfl
    · exact absurd rfl (hdom x x ((hb x x).1 hx)).2.2
  · have hall : ((x : Int), (y : Int)) ∈ l ∨ ((y : Int), (x : Int)) ∈ l := by
      rcases Nat.lt_or_ge y x with hlt | hge
      · exact met_all h.chk (by omega) hx hlt
      · exact (met_all h.chk (by omega) hy (show x < y by omega)).symm
    cases h1 : (boardF l (fun _ => 0) x).testBit y
    · cases h2 : (boardF l (fun _ => 0) y).testBit x
      · exfalso
        rcases hall with hm | hm
        · rw [(hb x y).2 hm] at h1; cases h1
        · rw [(hb y x).2 hm] at h2; cases h2
      · rfl
    · cases h2 : (boardF l (fun _ => 0) y).testBit x
      · rfl
      · exact (not_both h.chk _ _ ((hb x y).1 h1) ((hb y x).1 h2)).elim
end Go.Proofs.Ytngoldipfgfecaa.Code
end
section
namespace Go.Proofs.Ytngoldipfgfecaa.Code
open Go Go.Ab
variable {pure : Bool} {base bar : Nat} {H : Heap} {Q : AV → Heap → Prop}
/-! a function's own copy of a contest -/
def HI (H : Heap) (n : Int) (q : AV) : Heap := H ++ [.row 0 [.int .i64 n, q] 0 true]
theorem HI_len {n : Int} {q : AV} : (HI H n q).length = H.length + 1 := by simp [HI]
theorem HI_get {n : Int} {q : AV} : (HI H n q)[H.length]? = some (.row 0 [.int .i64 n, q] 0 true) := by simp [HI, own_get0]
theorem HI_h {n : Int} {q : AV} : aload (HI H n q) ⟨true, 2⟩ (.ptr H.length 0 0) = some (.agg [.int .i64 n, q]) := by rw [aload_ptr HI_get]; rfl
end Go.Proofs.Ytngoldipfgfecaa.Code
end
section
namespace Go.Proofs.Ytngoldipfgfecaa.Code
open Go Go.Ab
variable {pure : Bool} {base bar : Nat} {H : Heap} {Q : AV → Heap → Prop}
end Go.Proofs.Ytngoldipfgfecaa.Code
end
section
namespace Go.Proofs.Ytngoldipfgfecaa.Code
open Go Go.Ab
variable {pure : Bool} {base bar : Nat} {H : Heap} {Q : AV → Heap → Prop}
/-! 86: all chains of so many steps more -/
def lastN (s : List Nat) : Nat := s.getD (s.length - 1) 0
/-- what a call found, and its own copy of the contest, are as they were -/
def Pre (H : Heap) (n : Int) (q : AV) (Hc : Heap) : Prop := H.length + 1 ≤ Hc.length ∧ ∀ j, j < H.length + 1 → Hc[j]? = (HI H n q)[j]?
theorem Pre.refl {n : Int} {q : AV} : Pre H n q (HI H n q) := ⟨by rw [HI_len]; omega, fun _ _ => rfl⟩
theorem Pre.get {n : Int} {q : AV} {Hc : Heap} (h : Pre H n q Hc) : Hc[H.length]? = some (.row 0 [.int .i64 n, q] 0 true) := by
  rw [h.2 _ (by omega), HI_get]
theorem Pre.n {n : Int} {q : AV} {Hc : Heap} (h : Pre H n q Hc) {s : Nat} : aload Hc ⟨false, s⟩ (.ptr H.length 0 0) = some (.int .i64 n) := by rw [aload_ptr h.get]; rfl
theorem Pre.q {n : Int} {q : AV} {Hc : Heap} (h : Pre H n q Hc) {s : Nat} : aload Hc ⟨false, s⟩ (.ptr H.length 0 1) = some q := by rw [aload_ptr h.get]; rfl
theorem Pre.h {n : Int} {q : AV} {Hc : Heap} (h : Pre H n q Hc) : aload Hc ⟨true, 2⟩ (.ptr H.length 0 0) = some (.agg [.int .i64 n, q]) := by rw [aload_ptr h.get]; rfl
theorem Pre.take {n : Int} {q : AV} {Hc : Heap} (h : Pre H n q Hc) : Hc.take H.length = H := by
  apply List.ext_getElem?
  intro j
  rw [List.getElem?_take]
  by_cases hj : j < H.length
  · rw [if_pos hj, h.2 j (by omega)]
    simp [HI, List.getElem?_append_left hj]
  · rw [if_neg hj, List.getElem?_eq_none (by omega)]
theorem Pre.next {n : Int} {q : AV} {Hc Hd : Heap} (h : Pre H n q Hc) (hl : Hc.length ≤ Hd.length) (hs : ∀ j, j < H.length + 1 → Hd[j]? = Hc[j]?) : Pre H n q Hd :=
  ⟨by have := h.1; omega, fun j hj => (hs j hj).trans (h.2 j hj)⟩
theorem lastN_get {s : List Nat} (h : s ≠ []) : s.length - 1 < s.length ∧ ∀ hi : s.length - 1 < s.length, s[s.length - 1] = lastN s := by
  have := List.length_pos_iff.2 h
  refine ⟨by omega, fun hi => ?_⟩
  unfold lastN
  rw [List.getD_eq_getElem?_getD, List.getElem?_eq_getElem hi]; rfl
end Go.Proofs.Ytngoldipfgfecaa.Code
end
section
namespace Go.Proofs.Ytngoldipfgfecaa.Code
open Go Go.Ab
variable {pure : Bool} {base bar : Nat} {H : Heap} {Q : AV → Heap → Prop}
/-! what chains say -/
theorem lastN_snoc {s : List Nat} {x : Nat} : lastN (s ++ [x]) = x := by simp [lastN, List.getD_eq_getElem?_getD]
section
variable {l : List ZZ} {n b : Nat}
theorem OkC.dom {n : Nat} {l : List ZZ} (h : OkC n l) : ∀ x y, bitL l x y = true → x < n ∧ y < n := fun x y hxy => h.board.1.dom x y (by rw [h.board.2]; exact hxy)
end
end Go.Proofs.Ytngoldipfgfecaa.Code
end
section
namespace Go.Proofs.Ytngoldipfgfecaa.Code
open Go Go.Ab
variable {pure : Bool} {base bar : Nat} {H : Heap} {Q : AV → Heap → Prop}
theorem eqWp_nil {neg : Bool} {v : AV} {l : List Nat} (hv : isL v l) (hn : v ≠ .nils) {K : AV → Heap → List Nat → Prop} : eqWp neg .nilS (some v) (some .nils) H K = K (.bool neg) H [] := by
  rcases hv with ⟨rfl, _⟩ | ⟨ex, rfl⟩
  · exact absurd rfl hn
  · simp [eqWp, aeq]
theorem eqWp_nil0 {neg : Bool} {K : AV → Heap → List Nat → Prop} : eqWp neg .nilS (some .nils) (some .nils) H K = K (.bool (!neg)) H [] := by
  simp [eqWp, aeq]
end Go.Proofs.Ytngoldipfgfecaa.Code
end
section
namespace Go.Proofs.Ytngoldipfgfecaa.Code
open Go Go.Ab
variable {pure : Bool} {base bar : Nat} {H : Heap} {Q : AV → Heap → Prop}
end Go.Proofs.Ytngoldipfgfecaa.Code
end
section
namespace Go.Proofs.Ytngoldipfgfecaa.Code
open Go Go.Ab
variable {pure : Bool} {base bar : Nat} {H : Heap} {Q : AV → Heap → Prop}
end Go.Proofs.Ytngoldipfgfecaa.Code
end
section
namespace Go.Proofs.Ytngoldipfgfecaa.Code
open Go Go.Ab
variable {pure : Bool} {base bar : Nat} {H : Heap} {Q : AV → Heap → Prop}
end Go.Proofs.Ytngoldipfgfecaa.Code
end
section
namespace Go.Proofs.Ytngoldipfgfecaa.Code
open Go Go.Ab
variable {pure : Bool} {base bar : Nat} {H : Heap} {Q : AV → Heap → Prop}
theorem sum_le {α : Type} {f : α → Nat} {c : Nat} : ∀ {l : List α}, (∀ x ∈ l, f x ≤ c) → (l.map f).sum ≤ l.length * c
  | [], _ => by simp
  | x :: r, h => by
    have h1 := h x (List.mem_cons_self ..)
    have h2 := sum_le (f := f) (c := c) (l := r) fun y hy => h y (List.mem_cons_of_mem _ hy)
    simp only [List.map_cons, List.sum_cons, List.length_cons, Nat.succ_mul]; omega
end Go.Proofs.Ytngoldipfgfecaa.Code
end
section
namespace Go.Proofs.Ytngoldipfgfecaa.Code
open Go Go.Ab
variable {pure : Bool} {base bar : Nat} {H : Heap} {Q : AV → Heap → Prop}
end Go.Proofs.Ytngoldipfgfecaa.Code
end
section
namespace Go.Proofs.Ytngoldipfgfecaa.Code
open Go Go.Ab
end Go.Proofs.Ytngoldipfgfecaa.Code
end
section
namespace Go.Proofs.Ytngoldipfgfecaa.Code
open Go Go.Ab
end Go.Proofs.Ytngoldipfgfecaa.Code
end
section
namespace Go.Proofs.Ytngoldipfgfecaa.Code
open Go Go.Ab
variable {pure : Bool} {base bar : Nat} {H : Heap} {Q : AV → Heap → Prop}
end Go.Proofs.Ytngoldipfgfecaa.Code
end
section
namespace Go.Proofs.Ytngoldipfgfecaa.Code
open Go Go.Ab
variable {pure : Bool} {base bar : Nat} {H : Heap} {Q : AV → Heap → Prop}
/-! 83: a list without room -/
theorem k74 {sv : AV} {s : List Nat} (hs : isL sv s) (h0 : s = [] → sv = .nils) (hQ : ∀ c, Gro s H c H → Q c H) : WpCall E pure base bar 74 [sv] H Q := by
  rw [call74]
  by_cases he : s = []
  · obtain rfl := h0 he
    have := hQ .nils (.inr (by rw [he]; exact .nil))
    simp [go_sem, WpFun, c74, aop, Opd.evo, aslice, optBound, bound1, AV.asNat]
    exact this
  · rcases hs with ⟨rfl, h⟩ | ⟨ex, rfl⟩
    · exact absurd h he
    · have hl : (nats s).length = s.length := nats_length
      simp [go_sem, WpFun, c74, aop, Opd.evo, aslice, optBound, bound1, AV.asNat, tops_nats]
      exact hQ _ (.inl ⟨he, rfl, rfl⟩)
/-! 67: the first way through all, searched -/
def rowS (f : Nat → Nat → Bool) (g : Nat → Bool) : Nat → List Nat → Nat → Option (List Nat)
  | 0, s, _ => if g (lastN s) = true then some s else none
  | k + 1, s, left => (bitsOf left).findSome? fun x => if (s.isEmpty || f (lastN s) x) = true then rowS f g k (s ++ [x]) (clr left (pw x)) else none
def Ext (H Hc : Heap) : Prop := H.length ≤ Hc.length ∧ ∀ j, j < H.length → Hc[j]? = H[j]?
theorem Ext.refl : Ext H H := ⟨Nat.le_refl _, fun _ _ => rfl⟩
theorem Ext.trans {A B C : Heap} (h1 : Ext A B) (h2 : Ext B C) : Ext A C := ⟨Nat.le_trans h1.1 h2.1, fun j hj => (h2.2 j (Nat.lt_of_lt_of_le hj h1.1)).trans (h1.2 j hj)⟩
theorem Ext.get {A B : Heap} (h : Ext A B) {i : Nat} {b : Blk} (hi : A[i]? = some b) : B[i]? = some b := by
  rw [h.2 i (List.getElem?_eq_some_iff.1 hi).1]; exact hi
theorem Ext.take {A B : Heap} (h : Ext A B) : B.take A.length = A := by
  apply List.ext_getElem?
  intro j
  rw [List.getElem?_take]
  by_cases hj : j < A.length
  · rw [if_pos hj, h.2 j hj]
  · rw [if_neg hj, List.getElem?_eq_none (by omega)]
theorem Gro.frz2 {l : List Nat} {H0 H : Heap} {v : AV} (g : Gro l H0 v H) (hb : bar ≤ H0.length) : ∃ q H', Go.Ab.frz 8 bar H v = some (q, H') ∧ isL q l ∧ Ext H0 H' := by
  rcases g with ⟨hne, rfl, rfl⟩ | g
  · refine ⟨_, _, ?_, isL.lst (ex := true), Ext.refl⟩
    exact (isL.lst (ex := true) (l := l)).frz
  · obtain ⟨H', h1, h2, h3, h4⟩ := g.frz (d := 5) (bar := bar) (by omega) (Nat.one_dvd _) nats_plain hb
    refine ⟨_, H', h1, isL.out, ?_, fun j hj => ?_⟩
    · have := congrArg List.length h4
      rw [List.length_take] at this; omega
    · have := congrArg (fun L : Heap => L[j]?) h4
      simpa [List.getElem?_take, hj] using this
/-- a function that says of a curler whether a row may end so -/
structure GoalAt (fid : FuncId) (caps : List AV) (g : Nat → Bool) (Hg : Heap) : Prop where
  top : AV.top.tops caps ≤ Hg.length
  call : ∀ {pure : Bool} {base bar : Nat} {H : Heap} {Q : AV → Heap → Prop} {x : Nat}, x < 7 → Ext Hg H → bar ≤ H.length → Q (.bool (g x)) H → WpCall E pure base bar fid (.int .i64 (x : Nat) :: caps) H Q
def Rec67 (Hg : Heap) (ib ver : Nat) (w : Nat → Nat) (fid : FuncId) (caps : List AV) (g : Nat → Bool) (k : Nat) : Prop := ∀ (s : List Nat) (sv : AV) (left : Nat) (H : Heap) (pure : Bool) (base bar : Nat) (Q : AV → Heap → Prop), isL sv s → (s = [] → sv = .nils) → (∀ x ∈ s, x < 7) → s.length + k ≤ 100 → left < 128 → (bitsOf left).length = k →
  (k = 0 → s ≠ []) → Ext Hg H → bar ≤ H.length → (∀ L v, rowS (fun a b => (w a).testBit b) g k s left = some L → isL v L → Q (.tup [v, .bool true]) H) → (rowS (fun a b => (w a).testBit b) g k s left = none → ∀ v s', isL v s' → Q (.tup [v, .bool false]) H) →
  WpFun E pure base bar c41 [.ptr ib ver 0, sv, .int .u8 (left : Nat), .fn fid [] caps] H Q
theorem lastN_mem {s : List Nat} (h : s ≠ []) : lastN s ∈ s := by
  have := List.length_pos_iff.2 h
  rw [← (lastN_get h).2 (by omega)]
  exact List.getElem_mem _
section
variable {Hg : Heap} {ib ver fz n : Nat} {ex : Bool} {w : Nat → Nat} {fid : FuncId} {caps : List AV} {g : Nat → Bool}
set_option maxRecDepth 4000 in
theorem l41 (hid : Hg[ib]? = some (.row ver (bcells n w) fz ex)) (hw : ∀ x, w x < 256) (hgo : GoalAt fid caps g Hg) {k : Nat} (hrec : Rec67 Hg ib ver w fid caps g k) {s : List Nat} {sv : AV} {left : Nat} (hs : isL sv s) (hs0 : s = [] → sv = .nils) (hs7 : ∀ x ∈ s, x < 7) (hsl : s.length + (k + 1) ≤ 100) (hl7 : left < 128)
    (hcard : (bitsOf left).length = k + 1) (hext : Ext Hg H) (hbar : bar ≤ H.length) {lv : AV} (hlv : isL lv (bitsOf left)) {R : PQ} :
    ∀ (d i : Nat), i + d = (bitsOf left).length →
    (∀ L v Hd, ((bitsOf left).drop i).findSome? (fun x => if (s.isEmpty || (w (lastN s)).testBit x) = true then rowS (fun a b => (w a).testBit b) g k (s ++ [x]) (clr left (pw x)) else none) = some L → isL v L → Ext H Hd → R .ret [(8, v), (9, .bool true)] Hd) →
    (((bitsOf left).drop i).findSome? (fun x => if (s.isEmpty || (w (lastN s)).testBit x) = true then rowS (fun a b => (w a).testBit b) g k (s ++ [x]) (clr left (pw x)) else none) = none → R (.exit 0) [(0, .ptr ib ver 0), (1, sv), (2, .int .u8 (left : Nat)), (3, .fn fid [] caps), (26, lv), (27, .int .i64 ((bitsOf left).length : Nat)), (28, .int .i64 ((bitsOf left).length : Nat)), (29, .bool false)] H) →
    Wp E base bar (.loop c41_l0) [(0, .ptr ib ver 0), (1, sv), (2, .int .u8 (left : Nat)), (3, .fn fid [] caps), (26, lv), (27, .int .i64 ((bitsOf left).length : Nat)), (28, .int .i64 (i : Nat))] H R := by
  intro d
  induction d with
  | zero =>
    intro i hi h1 h2
    obtain rfl : i = (bitsOf left).length := by omega
    rw [wp_round c41_l0.eq_1]
    simp [go_sem]
    exact h2 (by simp)
  | succ d ih =>
    intro i hi h1 h2
    have hlt : i < (bitsOf left).length := by omega
    have hid' := hext.get hid
    have hib := (List.getElem?_eq_some_iff.1 hid').1
    have htop : AV.top.tops caps ≤ H.length := Nat.le_trans hgo.top hext.1
    rw [List.drop_eq_getElem_cons hlt, List.findSome?_cons] at h1 h2
    have hx8 : (bitsOf left)[i] < 7 := bit_lt (n := 7) hl7 (bits_mem.1 (List.getElem_mem hlt)).2
    have hcl : (bitsOf (clr left (pw (bitsOf left)[i]))).length = k := by
      have := bits_cut left (by omega) (bitsOf left)[i] (by omega)
      rw [if_pos (bits_mem.1 (List.getElem_mem hlt)).2] at this
      omega
    have hb8 : (bitsOf left).length ≤ 8 := bits_len left
    have hix : ∀ {H : Heap} {K : AV → Heap → List Nat → Prop}, ixaSWp 1 (some lv) (some (.int .i64 (i : Int))) H K = K (.fp (.int .i64 ((bitsOf left)[i] : Nat))) H [] := fun {H K} => hlv.ix hlt
    have hz := i64_suc (show i < 1000000 by omega)
    have next := ih (i + 1) (by omega)
    generalize (bitsOf left)[i] = x at *
    generalize (bitsOf left).length = len at *
    have e1 : IntKind.i64.wrap ((s.length : Int) - 1) = ((s.length - 1 : Nat) : Int) ∨ s = [] := by
      by_cases he : s = []
      · exact .inr he
      · have := List.length_pos_iff.2 he
        left
        rw [show (s.length : Int) - 1 = ((s.length - 1 : Nat) : Int) by omega, i64_nat (by omega)]
    have hix2 : s ≠ [] → ∀ {H : Heap} {K : AV → Heap → List Nat → Prop}, ixaSWp 1 (some sv) (some (.int .i64 ((s.length - 1 : Nat) : Int))) H K = K (.fp (.int .i64 (lastN s : Nat))) H [] := fun he {H K} => by
      have := List.length_pos_iff.2 he
      rw [hs.ix (by omega), (lastN_get he).2]
    have hl7' : s ≠ [] → lastN s < 7 := fun he => hs7 _ (lastN_mem he)
    rw [wp_round c41_l0.eq_1]
    by_cases hc : (s.isEmpty || (w (lastN s)).testBit x) = true
    · simp only [hc, if_true] at h1 h2
      have hcond : s = [] ∨ (s ≠ [] ∧ (w (lastN s)).testBit x = true) := by
        by_cases he : s = []
        · exact .inl he
        · right
          refine ⟨he, ?_⟩
          rw [Bool.or_eq_true] at hc
          rcases hc with hc | hc
          · exact absurd (List.isEmpty_iff.1 hc) he
          · exact hc
      rcases hcond with he | ⟨he, hb⟩
      case' inl => simp [go_sem, hlt, hix, hs.len, he]
      case' inr =>
        have hl0 : ¬ s.length = 0 := fun h => he (List.length_eq_zero_iff.1 h)
        have e1' := e1.resolve_right he
        have hix2' := fun (H : Heap) (K : AV → Heap → List Nat → Prop) => hix2 he (H := H) (K := K)
        generalize s.length - 1 = m at *
        simp [go_sem, hlt, hix, hs.len, he, hl0, e1', hix2', k61 hid' hw (hl7' he), hb]
      all_goals
        refine k74 hs hs0 fun c gc => ?_
        simp [go_sem, hs.noVec, aop, fillA, setCells, chunks]
        refine gc.nat hbar (Nat.le_refl _) (by omega) fun v2 H2 tc2 g2 => ?_
        obtain ⟨q2, H3, f1, f2, f3⟩ := g2.frz2 (bar := bar) hbar
        have hcl7 : clr left (pw x) < 128 := Nat.lt_of_le_of_lt Nat.and_le_left hl7
        simp [go_sem, shl_u8 (show x < 8 by omega), andNot_u8 (show left < 256 by omega) (pw_lt (show x < 8 by omega)), call41, f1]
        refine hrec (s ++ [x]) q2 (clr left (pw x)) H3 true _ bar _ f2 (fun hc => absurd hc (by simp)) (fun y hy => by
          rcases List.mem_append.1 hy with hy | hy
          · exact hs7 y hy
          · rw [List.mem_singleton] at hy; omega) (by simp; omega) hcl7 hcl (fun _ => by simp) (hext.trans f3) (Nat.le_trans hbar f3.1) (fun L v hL hv => ?_) (fun hn v s' hv => ?_)
        · rw [hL] at h1
          simp [go_sem, hv.isTup]
          exact h1 L v H3 rfl hv f3
        · rw [hn] at h1 h2
          simp [go_sem, hv.isTup, hs.top, hlv.top, f3.take, hz]
          refine ⟨by omega, ?_⟩
          exact next h1 h2
    · simp only [hc] at h1 h2
      have he : s ≠ [] := fun he => hc (by rw [he]; rfl)
      have hb : (w (lastN s)).testBit x = false := by
        cases hb : (w (lastN s)).testBit x
        · rfl
        · exact absurd (by rw [hb, Bool.or_true]) hc
      have hl0 : ¬ s.length = 0 := fun h => he (List.length_eq_zero_iff.1 h)
      have e1' := e1.resolve_right he
      have hix2' := fun (H : Heap) (K : AV → Heap → List Nat → Prop) => hix2 he (H := H) (K := K)
      generalize s.length - 1 = m at *
      simp [go_sem, hlt, hix, hs.len, he, hl0, e1', hix2', k61 hid' hw (hl7' he), hb, hs.top, hlv.top, hz]
      refine ⟨by omega, ?_⟩
      exact next h1 h2
end
end Go.Proofs.Ytngoldipfgfecaa.Code
end
section
namespace Go.Proofs.Ytngoldipfgfecaa.Code
open Go Go.Ab
variable {pure : Bool} {base bar : Nat} {H : Heap} {Q : AV → Heap → Prop}
theorem bits_nil {left : Nat} (hl : left < 256) (h : (bitsOf left).length = 0) : left = 0 := by
  apply Nat.eq_of_testBit_eq
  intro i
  rw [Nat.zero_testBit]
  cases hi : left.testBit i
  · rfl
  · have := bits_mem.2 ⟨bit_lt (n := 8) hl hi, hi⟩
    rw [List.length_eq_zero_iff.1 h] at this; simp at this
section
variable {Hg : Heap} {ib ver fz n : Nat} {ex : Bool} {w : Nat → Nat} {fid : FuncId} {caps : List AV} {g : Nat → Bool}
set_option maxRecDepth 4000 in
theorem f41 (hid : Hg[ib]? = some (.row ver (bcells n w) fz ex)) (hw : ∀ x, w x < 256) (hgo : GoalAt fid caps g Hg) : ∀ k, Rec67 Hg ib ver w fid caps g k
  | 0 => fun s sv left H pure base bar Q hs hs0 hs7 hsl hl7 hcard hne hext hbar h1 h2 => by
    have hb' := bar_ok (pure := pure) hbar
    obtain rfl := bits_nil (show left < 256 by omega) hcard
    have he : s ≠ [] := hne rfl
    have hpos := List.length_pos_iff.2 he
    have e1 : IntKind.i64.wrap ((s.length : Int) - 1) = ((s.length - 1 : Nat) : Int) := by
      rw [show (s.length : Int) - 1 = ((s.length - 1 : Nat) : Int) by omega, i64_nat (by omega)]
    have hix : ∀ {H : Heap} {K : AV → Heap → List Nat → Prop}, ixaSWp 1 (some sv) (some (.int .i64 ((s.length - 1 : Nat) : Int))) H K = K (.fp (.int .i64 (lastN s : Nat))) H [] := fun {H K} => by rw [hs.ix (by omega), (lastN_get he).2]
    have hl7' : lastN s < 7 := hs7 _ (lastN_mem he)
    generalize s.length - 1 = m at *
    unfold rowS at h1 h2
    simp [go_sem, WpFun, c41, hs.len, e1, hix] at hb' ⊢
    refine hgo.call hl7' hext (by omega) ?_
    cases hg : g (lastN s)
    · rw [hg] at h2
      simp [go_sem, hs.isTup, hs.frz, hs.top]
      exact h2 (by simp) sv s hs
    · rw [hg] at h1
      simp [go_sem, hs.isTup, hs.frz, hs.top]
      exact h1 s sv (by simp) hs
  | k + 1 => fun s sv left H pure base bar Q hs hs0 hs7 hsl hl7 hcard hne hext hbar h1 h2 => by
    have hb' := bar_ok (pure := pure) hbar
    have hne0 : ¬ ((left : Nat) : Int) = 0 := fun h0 => by
      have : left = 0 := by omega
      subst this
      rw [bits_zero] at hcard; cases hcard
    have hne1 : ¬ left = 0 := fun h => hne0 (by rw [h]; rfl)
    simp [go_sem, WpFun, c41, hne0, hne1] at hb' ⊢
    generalize (if pure = true then H.length else bar) = bar' at hb' ⊢
    refine k67 (by omega) (by omega) ?_
    have hlv := isL.out (l := bitsOf left)
    generalize outL 1 (nats (bitsOf left)) = lv at hlv
    simp [go_sem, hlv.len]
    refine l41 hid hw hgo (f41 hid hw hgo k) hs hs0 hs7 hsl hl7 hcard hext hb' hlv (bitsOf left).length 0 (by omega) (fun L v Hd hL hv hx => ?_) fun hn => ?_
    · rw [List.drop_zero] at hL
      simp [go_sem, hv.isTup, hv.frz, hv.top, hx.take]
      exact h1 L v hL hv
    · rw [List.drop_zero] at hn
      simp [go_sem]
      exact h2 hn .nils [] isL.nil
theorem k41 {k : Nat} {s : List Nat} {sv : AV} {left : Nat} (hid : H[ib]? = some (.row ver (bcells n w) fz ex)) (hw : ∀ x, w x < 256) (hgo : GoalAt fid caps g H) (hs : isL sv s) (hs0 : s = [] → sv = .nils) (hs7 : ∀ x ∈ s, x < 7) (hsl : s.length ≤ 90) (hl7 : left < 128) (hcard : (bitsOf left).length = k) (hne : k = 0 → s ≠ []) (hbar : bar ≤ H.length)
    (h1 : ∀ L v, rowS (fun a b => (w a).testBit b) g k s left = some L → isL v L → Q (.tup [v, .bool true]) H) (h2 : rowS (fun a b => (w a).testBit b) g k s left = none → ∀ v s', isL v s' → Q (.tup [v, .bool false]) H) :
    WpCall E pure base bar 41 [.ptr ib ver 0, sv, .int .u8 (left : Nat), .fn fid [] caps] H Q := by
  rw [call41]
  have hb8 := bits_len left
  simp [go_sem, hs.frz]
  exact f41 hid hw hgo k s sv left H pure base bar Q hs hs0 hs7 (by omega) hl7 hcard hne Ext.refl hbar h1 h2
end
/-! 27: the first row -/
theorem k43 {x : Nat} (h : Q (.bool true) H) : WpCall E pure base bar 43 [.int .i64 (x : Nat)] H Q := by
  rw [call43]
  simp [go_sem, WpFun, c43]
  exact h
theorem goal68 : GoalAt 43 [] (fun _ => true) H := ⟨by simp [AV.top.tops], fun _ _ _ h => k43 h⟩
theorem bits_all {n : Nat} (hn : n ≤ 7) : (bitsOf (pw n - 1)).length = n := by
  have : ∀ n, n ≤ 7 → (bitsOf (pw n - 1)).length = n := by decide
  exact this n hn
theorem k14 {n : Nat} {q : AV} {l : List ZZ} (hq : isP q l) (hl : l.length < 1000) (hm : OkC n l) (hbar : bar ≤ H.length)
    (h1 : ∀ L v, rowS (bitL l) (fun _ => true) n [] (pw n - 1) = some L → isL v L → Q (.tup [v, .int .i64 0]) H) (h2 : rowS (bitL l) (fun _ => true) n [] (pw n - 1) = none → False) :
    WpCall E pure base bar 14 [.agg [.int .i64 (n : Int), q]] H Q := by
  rw [call14]
  have hb' := bar_ok (pure := pure) hbar
  have e0 : H ++ [.row 0 [.int .i64 (n : Int), q] 0 true] = HI H n q := rfl
  obtain ⟨hbd, hbit⟩ := hm.board
  have hn := hm.le
  have hpos := hm.pos
  simp [go_sem, WpFun, c14, hq.frz, e0, HI_h] at hb' ⊢
  generalize (if pure = true then H.length else bar) = bar' at hb' ⊢
  refine k30 hq hl (by rw [HI_len]; omega) (fun hc => absurd hm.check hc) (fun m hnm _ _ _ => ?_)
  obtain rfl : n = m := by omega
  have hid : (HI H (n : Int) q ++ [Blk.row 0 (bcells n (boardF l fun _ => 0)) 0 true])[H.length + 1]? = some (.row 0 (bcells n (boardF l fun _ => 0)) 0 true) := by simp [HI, own_get]
  have htk : (HI H (n : Int) q ++ [Blk.row 0 (bcells n (boardF l fun _ => 0)) 0 true]).take H.length = H := by simp [HI]
  have hlen : (HI H (n : Int) q ++ [Blk.row 0 (bcells n (boardF l fun _ => 0)) 0 true]).length = H.length + 2 := by simp [HI]
  rw [HI_len]
  generalize HI H (n : Int) q ++ [Blk.row 0 (bcells n (boardF l fun _ => 0)) 0 true] = X at *
  have hf : (fun a b => (boardF l (fun _ => 0) a).testBit b) = bitL l := by funext a b; exact hbit a b
  have hpn : pw n - 1 < 128 := by
    have : ∀ n, n ≤ 7 → pw n - 1 < 128 := by decide
    exact this n hn
  have hba := bits_all hn
  have h59 := fun (P : Bool) (B C : Nat) (Q : AV → Heap → Prop) => k42 (pure := P) (base := B) (bar := C) (Q := Q) hid hn
  generalize pw n - 1 = m at *
  simp [go_sem, h59]
  refine k41 (s := []) (k := n) (g := fun _ => true) hid hbd.lt goal68 isL.nil (fun _ => rfl) (by simp) (by simp) hpn hba (by omega) (by omega) (fun L v hL hv => ?_) fun hn => ?_
  · rw [hf] at hL
    simp [go_sem, hv.isTup, hv.frz, hv.top, htk]
    exact h1 L v hL hv
  · rw [hf] at hn
    exact (h2 hn).elim
end Go.Proofs.Ytngoldipfgfecaa.Code
end
section
namespace Go.Proofs.Ytngoldipfgfecaa.Code
open Go Go.Ab
variable {pure : Bool} {base bar : Nat} {H : Heap} {Q : AV → Heap → Prop}
end Go.Proofs.Ytngoldipfgfecaa.Code
end
section
namespace Go.Proofs.Ytngoldipfgfecaa.Code
open Go Go.Ab
variable {pure : Bool} {base bar : Nat} {H : Heap} {Q : AV → Heap → Prop}
/-! 69: all rows -/
def rowsR (f : Nat → Nat → Bool) (n : Nat) : Nat → List Nat → List (List Nat)
  | 0, s => [s]
  | k + 1, s => (List.range' 0 n).flatMap fun (x : Nat) => if (!s.contains x && (s.isEmpty || f (lastN s) x)) = true then rowsR f n k (s ++ [x]) else []
theorem rowsR_len {f : Nat → Nat → Bool} {n : Nat} (hn : n ≤ 7) : ∀ (k : Nat) (s : List Nat), (rowsR f n k s).length ≤ 7 ^ k
  | 0, s => by simp [rowsR]
  | k + 1, s => by
    have := flatMap_len (m := 7 ^ k) (f := fun (x : Nat) => if (!s.contains x && (s.isEmpty || f (lastN s) x)) = true then rowsR f n k (s ++ [x]) else []) (List.range' 0 n) fun x _ => by
      split
      · exact rowsR_len hn k _
      · simp
    simp only [List.length_range'] at this
    have h2 : n * 7 ^ k ≤ 7 * 7 ^ k := Nat.mul_le_mul_right _ hn
    rw [Nat.pow_succ, Nat.mul_comm (7 ^ k) 7]
    exact Nat.le_trans this h2
end Go.Proofs.Ytngoldipfgfecaa.Code
end
section
namespace Go.Proofs.Ytngoldipfgfecaa.Code
open Go Go.Ab
variable {pure : Bool} {base bar : Nat} {H : Heap} {Q : AV → Heap → Prop}
end Go.Proofs.Ytngoldipfgfecaa.Code
end
section
namespace Go.Proofs.Ytngoldipfgfecaa.Code
open Go Go.Ab
variable {base bar : Nat} {H : Heap}
def updZ (c : Nat → Nat → Int) (a b : Nat) (v : Int) : Nat → Nat → Int := fun i j => if i = a ∧ j = b then v else c i j
/-! arithmetic that wraps -/
theorem wrap_ex (a : Int) : ∃ k : Int, IntKind.i64.wrap a = a + k * 18446744073709551616 := by
  unfold IntKind.wrap
  simp only [show IntKind.i64.bits = 64 from rfl, show IntKind.i64.signed = true from rfl, Bool.true_and]
  rw [show (2 : Int) ^ 64 = 18446744073709551616 by decide]
  split
  · exact ⟨-(a / 18446744073709551616) - 1, by omega⟩
  · exact ⟨-(a / 18446744073709551616), by omega⟩
theorem wrap_cong (a k : Int) : IntKind.i64.wrap (a + k * 18446744073709551616) = IntKind.i64.wrap a := by
  unfold IntKind.wrap
  simp only [show IntKind.i64.bits = 64 from rfl]
  rw [show (2 : Int) ^ 64 = 18446744073709551616 by decide, Int.add_mul_emod_self_right]
end Go.Proofs.Ytngoldipfgfecaa.Code
end
section
namespace Go.Proofs.Ytngoldipfgfecaa.Code
open Go Go.Ab
variable {pure : Bool} {base bar : Nat} {H : Heap} {Q : AV → Heap → Prop}
/-! 31: rows, set by set -/
def pushY (w : Nat → Nat) (s x : Nat) (c : Nat → Nat → Int) (y : Nat) : Nat → Nat → Int :=
  if (!s.testBit y && (w x).testBit y) = true then updZ c (bor s (pw y)) y (IntKind.i64.wrap (c (bor s (pw y)) y + c s x)) else c
def pushX (w : Nat → Nat) (n s : Nat) (c : Nat → Nat → Int) (x : Nat) : Nat → Nat → Int := (List.range n).foldl (pushY w s x) c
def pushS (w : Nat → Nat) (n : Nat) (c : Nat → Nat → Int) (s : Nat) : Nat → Nat → Int := (List.range n).foldl (pushX w n s) c
def startC (n : Nat) : Nat → Nat → Int := (List.range n).foldl (fun c x => updZ c (pw x) x 1) fun _ _ => 0
theorem foldl_succ {α : Type} {g : α → Nat → α} {a : α} {k : Nat} : (List.range (k + 1)).foldl g a = g ((List.range k).foldl g a) k := by
  rw [List.range_succ, List.foldl_append]; rfl
theorem bor_small : ∀ n, n ≤ 7 → ∀ s, s < pw n → ∀ y, y < n → bor s (pw y) < pw n := by
  intro n hn s hs y hy
  exact Nat.or_lt_two_pow hs (Nat.pow_lt_pow_right (by decide) hy)
end Go.Proofs.Ytngoldipfgfecaa.Code
end
section
namespace Go.Proofs.Ytngoldipfgfecaa.Code
open Go Go.Ab
variable {pure : Bool} {base bar : Nat} {H : Heap} {Q : AV → Heap → Prop}
section
variable {ib ver fz id n : Nat} {ex : Bool} {w : Nat → Nat} {cs : List AV}
def sumW (g : Nat → Int) (k : Nat) : Int := (List.range k).foldl (fun a i => IntKind.i64.wrap (a + g i)) 0
end
def rowsZ (w : Nat → Nat) (n : Nat) : Int := sumW ((List.range (pw n)).foldl (pushS w n) (startC n) (pw n - 1)) 7
end Go.Proofs.Ytngoldipfgfecaa.Code
end
section
namespace Go.Proofs.Ytngoldipfgfecaa.Code
open Go Go.Ab
/-! sums of numbers with signs -/
def sumZ (f : Nat → Int) : Nat → Int
  | 0 => 0
  | n + 1 => sumZ f n + f n
theorem sumZ_congr {f g : Nat → Int} : ∀ {n : Nat}, (∀ x, x < n → f x = g x) → sumZ f n = sumZ g n
  | 0, _ => rfl
  | n + 1, h => by
    simp only [sumZ]
    rw [sumZ_congr fun x hx => h x (by omega), h n (by omega)]
theorem sumZ_add {f g : Nat → Int} : ∀ {n : Nat}, sumZ (fun x => f x + g x) n = sumZ f n + sumZ g n
  | 0 => rfl
  | n + 1 => by simp only [sumZ]; rw [sumZ_add]; omega
theorem sumZ_zero : ∀ {n : Nat}, sumZ (fun _ => 0) n = 0
  | 0 => rfl
  | n + 1 => by simp only [sumZ]; rw [sumZ_zero]; rfl
theorem sumZ_at {a : Nat} {c : Int} : ∀ {n : Nat}, sumZ (fun x => if x = a then c else 0) n = if a < n then c else 0
  | 0 => rfl
  | n + 1 => by
    simp only [sumZ]
    rw [sumZ_at]
    by_cases h : n = a
    · subst h
      rw [if_neg (by omega), if_pos rfl, if_pos (by omega)]; omega
    · rw [if_neg h]
      by_cases h2 : a < n
      · rw [if_pos h2, if_pos (by omega)]; omega
      · rw [if_neg h2, if_neg (by omega)]; rfl
theorem sumZ_cut {g : Nat → Int} {n : Nat} : ∀ d, (∀ z, n ≤ z → g z = 0) → sumZ g (n + d) = sumZ g n
  | 0, _ => rfl
  | d + 1, h => by
    show sumZ g (n + d) + g (n + d) = _
    rw [sumZ_cut d h, h _ (by omega)]; omega
theorem len_flat {α : Type} {g : Nat → List α} : ∀ n, (((List.range' 0 n).flatMap g).length : Int) = sumZ (fun x => ((g x).length : Int)) n
  | 0 => rfl
  | n + 1 => by
    rw [← List.range_eq_range', List.range_succ, List.flatMap_append, List.length_append, List.range_eq_range']
    have := len_flat (g := g) n
    simp only [List.flatMap_singleton, sumZ, Int.natCast_add]
    rw [this]
/-- the same but for a multiple of 2 ^ 64 -/
def cong (a b : Int) : Prop := ∃ k : Int, a = b + k * 18446744073709551616
theorem cong.refl {a : Int} : cong a a := ⟨0, by omega⟩
theorem cong.trans {a b c : Int} : cong a b → cong b c → cong a c
  | ⟨k, h1⟩, ⟨m, h2⟩ => ⟨k + m, by rw [h1, h2, Int.add_mul]; omega⟩
theorem cong.add {a b c d : Int} : cong a b → cong c d → cong (a + c) (b + d)
  | ⟨k, h1⟩, ⟨m, h2⟩ => ⟨k + m, by rw [h1, h2, Int.add_mul]; omega⟩
theorem cong.mul {a b : Int} (c : Int) : cong a b → cong (a * c) (b * c)
  | ⟨k, h⟩ => ⟨k * c, by rw [h, Int.add_mul, Int.mul_right_comm]⟩
theorem cong.wrap (a : Int) : cong (IntKind.i64.wrap a) a := wrap_ex a
theorem cong.eq {a b : Int} : cong a b → IntKind.i64.wrap a = IntKind.i64.wrap b
  | ⟨k, h⟩ => by rw [h, wrap_cong]
/-! in how many ways a row can be ended -/
def Rk (f : Nat → Nat → Bool) (n : Nat) : Nat → Nat → Nat → Int
  | 0, _, _ => 1
  | k + 1, t, z => sumZ (fun y => if (!t.testBit y && f z y) = true then Rk f n k (bor t (pw y)) y else 0) n
def Re (f : Nat → Nat → Bool) (n t z : Nat) : Int := Rk f n (n - (bitsOf t).length) t z
def phi (f : Nat → Nat → Bool) (n : Nat) (c : Nat → Nat → Int) (S : Nat) : Int := sumZ (fun t => if S ≤ t then sumZ (fun z => c t z * Re f n t z) 7 else 0) (pw n)
section
variable {f : Nat → Nat → Bool} {n : Nat}
theorem phi_upd {c : Nat → Nat → Int} {a b S : Nat} {v : Int} (hb : b < 7) : phi f n (updZ c a b v) S = phi f n c S + if S ≤ a ∧ a < pw n then (v - c a b) * Re f n a b else 0 := by
  have hin : ∀ t, sumZ (fun z => updZ c a b v t z * Re f n t z) 7 = sumZ (fun z => c t z * Re f n t z) 7 + if t = a then (v - c a b) * Re f n a b else 0 := fun t => by
    by_cases ht : t = a
    · subst ht
      rw [if_pos rfl]
      have : sumZ (fun z => updZ c t b v t z * Re f n t z) 7 = sumZ (fun z => c t z * Re f n t z + if z = b then (v - c t b) * Re f n t b else 0) 7 := sumZ_congr fun z _ => by
        by_cases hz : z = b
        · subst hz; simp [updZ, Int.sub_mul]; omega
        · simp [updZ, hz]
      rw [this, sumZ_add, sumZ_at, if_pos hb]
    · rw [if_neg ht, Int.add_zero]
      exact sumZ_congr fun z _ => by simp [updZ, ht]
  unfold phi
  have : (fun t => if S ≤ t then sumZ (fun z => updZ c a b v t z * Re f n t z) 7 else 0) = fun t => (if S ≤ t then sumZ (fun z => c t z * Re f n t z) 7 else 0) + if t = a then (if S ≤ a then (v - c a b) * Re f n a b else 0) else 0 := by
    funext t
    rw [hin]
    by_cases ht : t = a
    · subst ht
      by_cases hS : S ≤ t <;> simp [hS]
    · simp [ht]
  rw [this, sumZ_add, sumZ_at]
  congr 1
  by_cases h1 : a < pw n <;> by_cases h2 : S ≤ a <;> simp [h1, h2]
theorem phi_cut {c : Nat → Nat → Int} {s : Nat} (hs : s < pw n) : phi f n c s = phi f n c (s + 1) + sumZ (fun z => c s z * Re f n s z) 7 := by
  unfold phi
  have : (fun t => if s ≤ t then sumZ (fun z => c t z * Re f n t z) 7 else 0) = fun t => (if s + 1 ≤ t then sumZ (fun z => c t z * Re f n t z) 7 else 0) + if t = s then sumZ (fun z => c s z * Re f n s z) 7 else 0 := by
    funext t
    rcases Nat.lt_trichotomy t s with h | h | h
    · rw [if_neg (by omega), if_neg (by omega), if_neg (by omega)]; rfl
    · subst h; rw [if_pos (Nat.le_refl _), if_neg (by omega), if_pos rfl]; omega
    · rw [if_pos (by omega), if_pos (by omega), if_neg (by omega)]; omega
  rw [this, sumZ_add, sumZ_at, if_pos hs]
def Ty (f : Nat → Nat → Bool) (n s x y : Nat) : Int := if (!s.testBit y && f x y) = true then Re f n (bor s (pw y)) y else 0
variable {w : Nat → Nat}
theorem bor_gt : ∀ s, s < 128 → ∀ y, y < 7 → s.testBit y = false → s < bor s (pw y) := by decide +kernel
theorem pushY_phi (hw : ∀ x y, (w x).testBit y = f x y) (hn : n ≤ 7) {s x y : Nat} {c : Nat → Nat → Int} (hs : s < pw n) (hy : y < n) :
    cong (phi f n (pushY w s x c y) (s + 1)) (phi f n c (s + 1) + c s x * Ty f n s x y) ∧ ∀ z, pushY w s x c y s z = c s z := by
  have hpn : pw n ≤ 128 := Nat.pow_le_pow_right (by decide) hn
  unfold pushY Ty
  rw [hw]
  split
  · rename_i hc
    rw [Bool.and_eq_true, Bool.not_eq_true'] at hc
    have hgt := bor_gt s (by omega) y (by omega) hc.1
    have hlt := bor_small n hn s hs y hy
    refine ⟨?_, fun z => ?_⟩
    · rw [phi_upd (by omega), if_pos ⟨by omega, hlt⟩]
      refine cong.refl.add (cong.mul _ ?_)
      obtain ⟨k, hk⟩ := wrap_ex (c (bor s (pw y)) y + c s x)
      exact ⟨k, by rw [hk]; omega⟩
    · unfold updZ
      rw [if_neg (by omega)]
  · rw [Int.mul_zero, Int.add_zero]
    exact ⟨cong.refl, fun _ => rfl⟩
theorem pushYs_phi (hw : ∀ x y, (w x).testBit y = f x y) (hn : n ≤ 7) {s x : Nat} {c : Nat → Nat → Int} (hs : s < pw n) : ∀ k, k ≤ n →
    cong (phi f n ((List.range k).foldl (pushY w s x) c) (s + 1)) (phi f n c (s + 1) + c s x * sumZ (Ty f n s x) k) ∧ ∀ z, (List.range k).foldl (pushY w s x) c s z = c s z
  | 0, _ => ⟨by simp only [sumZ, Int.mul_zero, Int.add_zero]; exact cong.refl, fun _ => rfl⟩
  | k + 1, hk => by
    obtain ⟨h1, h2⟩ := pushYs_phi hw hn (s := s) (x := x) (c := c) hs k (by omega)
    obtain ⟨g1, g2⟩ := pushY_phi hw hn (s := s) (x := x) (c := (List.range k).foldl (pushY w s x) c) hs (show k < n by omega)
    rw [foldl_succ]
    refine ⟨g1.trans ?_, fun z => by rw [g2, h2]⟩
    rw [h2]
    simp only [sumZ]
    rw [Int.mul_add, ← Int.add_assoc]
    exact h1.add cong.refl
theorem pushXs_phi (hw : ∀ x y, (w x).testBit y = f x y) (hn : n ≤ 7) {s : Nat} {c : Nat → Nat → Int} (hs : s < pw n) : ∀ k, k ≤ n →
    cong (phi f n ((List.range k).foldl (pushX w n s) c) (s + 1)) (phi f n c (s + 1) + sumZ (fun x => c s x * sumZ (Ty f n s x) n) k) ∧ ∀ z, (List.range k).foldl (pushX w n s) c s z = c s z
  | 0, _ => ⟨by simp only [sumZ, Int.add_zero]; exact cong.refl, fun _ => rfl⟩
  | k + 1, hk => by
    obtain ⟨h1, h2⟩ := pushXs_phi hw hn (s := s) (c := c) hs k (by omega)
    obtain ⟨g1, g2⟩ := pushYs_phi hw hn (s := s) (x := k) (c := (List.range k).foldl (pushX w n s) c) hs n (Nat.le_refl _)
    rw [foldl_succ]
    have hx : pushX w n s ((List.range k).foldl (pushX w n s) c) k = (List.range n).foldl (pushY w s k) ((List.range k).foldl (pushX w n s) c) := rfl
    rw [hx]
    refine ⟨g1.trans ?_, fun z => by rw [g2, h2]⟩
    rw [h2]
    simp only [sumZ]
    rw [← Int.add_assoc]
    exact h1.add cong.refl
theorem card_lt {s : Nat} (hn : n ≤ 7) (hs : s < pw n - 1) : (bitsOf s).length < n := by
  have : ∀ n, n ≤ 7 → ∀ s, s < pw n - 1 → (bitsOf s).length < n := by decide +kernel
  exact this n hn s hs
theorem Ty_sum {s x : Nat} (hn : n ≤ 7) (hs : s < pw n - 1) : sumZ (Ty f n s x) n = Re f n s x := by
  have hpn : pw n ≤ 128 := Nat.pow_le_pow_right (by decide) hn
  have hc := card_lt hn hs
  unfold Re
  obtain ⟨k, hk⟩ : ∃ k, n - (bitsOf s).length = k + 1 := ⟨n - (bitsOf s).length - 1, by omega⟩
  rw [hk]
  show _ = sumZ (fun y => if (!s.testBit y && f x y) = true then Rk f n k (bor s (pw y)) y else 0) n
  refine sumZ_congr fun y hy => ?_
  unfold Ty
  split
  · rename_i hcd
    rw [Bool.and_eq_true, Bool.not_eq_true'] at hcd
    unfold Re
    rw [bits_put s (by omega) y (by omega) hcd.1, show n - ((bitsOf s).length + 1) = k by omega]
  · rfl
theorem Re_out {s z : Nat} (hn : n ≤ 7) (hs : s < pw n - 1) (hd : ∀ x y, f x y = true → x < n ∧ y < n) (hz : n ≤ z) : Re f n s z = 0 := by
  rw [← Ty_sum hn hs, ← sumZ_zero (n := n)]
  refine sumZ_congr fun y hy => ?_
  unfold Ty
  rw [if_neg]
  intro hc
  rw [Bool.and_eq_true] at hc
  have := hd z y hc.2
  omega
theorem pushS_phi (hw : ∀ x y, (w x).testBit y = f x y) (hn : n ≤ 7) (hd : ∀ x y, f x y = true → x < n ∧ y < n) {s : Nat} {c : Nat → Nat → Int} (hs : s < pw n - 1) : cong (phi f n (pushS w n c s) (s + 1)) (phi f n c s) := by
  have hs' : s < pw n := by omega
  rw [phi_cut hs']
  refine (pushXs_phi hw hn hs' n (Nat.le_refl _)).1.trans ?_
  have e1 : sumZ (fun z => c s z * Re f n s z) 7 = sumZ (fun z => c s z * Re f n s z) n := by
    have := sumZ_cut (g := fun z => c s z * Re f n s z) (n := n) (7 - n) fun z hz => by rw [Re_out hn hs hd hz, Int.mul_zero]
    rw [show n + (7 - n) = 7 by omega] at this
    exact this
  rw [e1, sumZ_congr (f := fun x => c s x * sumZ (Ty f n s x) n) (g := fun z => c s z * Re f n s z) fun x _ => by rw [Ty_sum hn hs]]
  exact cong.refl
theorem all_phi (hw : ∀ x y, (w x).testBit y = f x y) (hn : n ≤ 7) (hd : ∀ x y, f x y = true → x < n ∧ y < n) {c : Nat → Nat → Int} : ∀ s, s ≤ pw n - 1 → cong (phi f n ((List.range s).foldl (pushS w n) c) s) (phi f n c 0)
  | 0, _ => cong.refl
  | s + 1, hs => by
    rw [foldl_succ]
    exact (pushS_phi hw hn hd (by omega)).trans (all_phi hw hn hd s (by omega))
theorem last_same (hn : n ≤ 7) {c : Nat → Nat → Int} : pushS w n c (pw n - 1) = c := by
  have hy : ∀ x y c, y < n → pushY w (pw n - 1) x c y = c := fun x y c hy => by
    unfold pushY
    rw [testBit_all, decide_eq_true hy]
    rfl
  have hx : ∀ x c k, k ≤ n → (List.range k).foldl (pushY w (pw n - 1) x) c = c := fun x c k => by
    induction k with
    | zero => exact fun _ => rfl
    | succ k ih => exact fun hk => by rw [foldl_succ, ih (by omega), hy _ _ _ (by omega)]
  have hs : ∀ k, (List.range k).foldl (pushX w n (pw n - 1)) c = c := fun k => by
    induction k with
    | zero => rfl
    | succ k ih => rw [foldl_succ, ih]; exact hx _ _ _ (Nat.le_refl _)
  exact hs n
theorem start_phi (hn : n ≤ 7) : ∀ k, k ≤ n → phi f n ((List.range k).foldl (fun c x => updZ c (pw x) x 1) fun _ _ => 0) 0 = sumZ (fun x => Re f n (pw x) x) k ∧ ∀ x, k ≤ x → (List.range k).foldl (fun c x => updZ c (pw x) x 1) (fun _ _ => 0) (pw x) x = 0
  | 0, _ => by
    refine ⟨?_, fun _ _ => rfl⟩
    show phi f n (fun _ _ => 0) 0 = 0
    unfold phi
    refine Eq.trans (sumZ_congr (g := fun _ => 0) fun t _ => ?_) sumZ_zero
    rw [if_pos (Nat.zero_le _)]
    exact Eq.trans (sumZ_congr (g := fun _ => 0) fun z _ => Int.zero_mul _) sumZ_zero
  | k + 1, hk => by
    obtain ⟨h1, h2⟩ := start_phi hn k (by omega)
    have hpk : pw k < pw n := Nat.pow_lt_pow_right (by decide) (show k < n by omega)
    rw [foldl_succ]
    refine ⟨?_, fun x hx => ?_⟩
    · rw [phi_upd (by omega), if_pos ⟨Nat.zero_le _, hpk⟩, h1, h2 k (Nat.le_refl _)]
      simp only [sumZ]
      omega
    · unfold updZ
      rw [if_neg (by omega)]
      exact h2 x (by omega)
theorem rows_Rk : ∀ (k : Nat) (s : List Nat) (t : Nat), s ≠ [] → (∀ y, t.testBit y = s.contains y) → ((rowsR f n k s).length : Int) = Rk f n k t (lastN s)
  | 0, s, t, _, _ => rfl
  | k + 1, s, t, h0, ht => by
    have hne : s.isEmpty = false := by cases s with
      | nil => exact absurd rfl h0
      | cons a b => rfl
    unfold rowsR
    rw [len_flat]
    refine sumZ_congr fun y hy => ?_
    rw [hne, Bool.false_or, ht]
    split
    · rw [rows_Rk k (s ++ [y]) (bor t (pw y)) (by simp) fun z => by
        rw [testBit_bor, testBit_pw, ht, List.contains_eq_mem, List.contains_eq_mem]
        simp only [List.mem_append, List.mem_singleton, ← Bool.decide_or, decide_eq_decide]
        constructor
        · rintro (h | h)
          · exact .inl h
          · exact .inr h.symm
        · rintro (h | h)
          · exact .inl h
          · exact .inr h.symm]
      rw [lastN_snoc]
    · rfl
theorem rows_start (hn : n ≤ 7) (h1 : 1 ≤ n) : ((rowsR f n n []).length : Int) = sumZ (fun x => Re f n (pw x) x) n := by
  obtain ⟨m, rfl⟩ : ∃ m, n = m + 1 := ⟨n - 1, by omega⟩
  unfold rowsR
  rw [len_flat]
  refine sumZ_congr fun x hx => ?_
  have hc : ∀ x, x < 7 → (bitsOf (pw x)).length = 1 := by decide
  rw [if_pos (show (!([] : List Nat).contains x && (([] : List Nat).isEmpty || f (lastN []) x)) = true from rfl), List.nil_append, rows_Rk m [x] (pw x) (by simp) fun z => by
    rw [testBit_pw, List.contains_eq_mem]
    simp [eq_comm]]
  unfold Re
  rw [hc x (by omega), Nat.add_sub_cancel]
  rfl
theorem sumW_cong {g : Nat → Int} : ∀ k, cong (sumW g k) (sumZ g k)
  | 0 => cong.refl
  | k + 1 => by
    have hst : sumW g (k + 1) = IntKind.i64.wrap (sumW g k + g k) := by unfold sumW; rw [foldl_succ]
    rw [hst]
    exact (cong.wrap _).trans ((sumW_cong k).add cong.refl)
/-- the program's number of rows -/
theorem rows_eq (hw : ∀ x y, (w x).testBit y = f x y) (hn : n ≤ 7) (h1 : 1 ≤ n) (hd : ∀ x y, f x y = true → x < n ∧ y < n) : rowsZ w n = ((rowsR f n n []).length : Int) := by
  have hp1 : 1 < pw n := Nat.one_lt_two_pow (by omega)
  obtain ⟨M, hM⟩ : ∃ M, pw n = M + 1 := ⟨pw n - 1, by omega⟩
  unfold rowsZ
  have hc : (List.range (pw n)).foldl (pushS w n) (startC n) = (List.range (pw n - 1)).foldl (pushS w n) (startC n) := by
    have hl := last_same (w := w) hn (c := (List.range (pw n - 1)).foldl (pushS w n) (startC n))
    have : (List.range (pw n)).foldl (pushS w n) (startC n) = pushS w n ((List.range (pw n - 1)).foldl (pushS w n) (startC n)) (pw n - 1) := by
      rw [hM, foldl_succ]; rfl
    rw [this, hl]
  rw [hc]
  have ha := all_phi hw hn hd (c := startC n) (pw n - 1) (Nat.le_refl _)
  generalize (List.range (pw n - 1)).foldl (pushS w n) (startC n) = c at *
  have hs := (start_phi (f := f) hn n (Nat.le_refl _)).1
  have hs' : phi f n (startC n) 0 = sumZ (fun x => Re f n (pw x) x) n := hs
  rw [hs', ← rows_start hn h1, phi_cut (s := pw n - 1) (by omega)] at ha
  have hz : phi f n c (pw n - 1 + 1) = 0 := by
    unfold phi
    exact Eq.trans (sumZ_congr (g := fun _ => 0) fun t ht => if_neg (by omega)) sumZ_zero
  have hfull : sumZ (fun z => c (pw n - 1) z * Re f n (pw n - 1) z) 7 = sumZ (c (pw n - 1)) 7 := sumZ_congr fun z _ => by
    unfold Re
    rw [bits_all hn, Nat.sub_self]
    exact Int.mul_one _
  rw [hz, hfull, Int.zero_add] at ha
  have hsw : sumW (c (pw n - 1)) 7 = IntKind.i64.wrap (sumW (c (pw n - 1)) 6 + c (pw n - 1) 6) := by unfold sumW; rw [foldl_succ (k := 6)]
  have hcg : cong (sumW (c (pw n - 1)) 6 + c (pw n - 1) 6) ((rowsR f n n []).length : Int) := ((sumW_cong 6).add cong.refl).trans ha
  rw [hsw, hcg.eq, i64_nat]
  have h1 := rowsR_len (f := f) hn n []
  have h2 : 7 ^ n ≤ 7 ^ 7 := Nat.pow_le_pow_right (by decide) hn
  have h3 : 7 ^ 7 = 823543 := by decide
  omega
end
end Go.Proofs.Ytngoldipfgfecaa.Code
end
section
namespace Go.Proofs.Ytngoldipfgfecaa.Code
open Go Go.Ab
/-! rows are the lists in which each one beat the next -/
def chainL (f : Nat → Nat → Bool) : List Nat → Prop
  | [] => True
  | [_] => True
  | a :: b :: r => f a b = true ∧ chainL f (b :: r)
theorem lastN_cons {a b : Nat} {r : List Nat} : lastN (a :: b :: r) = lastN (b :: r) := by
  simp [lastN, List.getD_eq_getElem?_getD]
theorem chainL_append {f : Nat → Nat → Bool} : ∀ {A B : List Nat}, A ≠ [] → B ≠ [] → (chainL f (A ++ B) ↔ chainL f A ∧ chainL f B ∧ f (lastN A) (B.getD 0 0) = true)
  | [], _, h, _ => absurd rfl h
  | [a], [], _, h => absurd rfl h
  | [a], b :: r, _, _ => by
    simp only [List.singleton_append, chainL, true_and]
    rw [and_comm]
    rfl
  | a :: a' :: r, B, _, hB => by
    have ih := chainL_append (f := f) (A := a' :: r) (B := B) (by simp) hB
    rw [lastN_cons]
    simp only [List.cons_append, chainL] at ih ⊢
    rw [ih, and_assoc]
theorem chainL_snoc {f : Nat → Nat → Bool} {s : List Nat} {x : Nat} : chainL f (s ++ [x]) ↔ chainL f s ∧ (s = [] ∨ f (lastN s) x = true) := by
  by_cases h : s = []
  · subst h; simp [chainL]
  · rw [chainL_append h (by simp)]
    simp [chainL, h]
structure Valid (f : Nat → Nat → Bool) (n : Nat) (L : List Nat) : Prop where
  nodup : L.Nodup
  lt : ∀ x ∈ L, x < n
  chain : chainL f L
section
variable {f : Nat → Nat → Bool} {n : Nat}
theorem rows_valid : ∀ {k : Nat} {s L : List Nat}, Valid f n s → L ∈ rowsR f n k s → Valid f n L ∧ L.take s.length = s ∧ L.length = s.length + k
  | 0, s, L, hv, h => by
    unfold rowsR at h
    rw [List.mem_singleton] at h; subst h
    exact ⟨hv, List.take_length, rfl⟩
  | k + 1, s, L, hv, h => by
    unfold rowsR at h
    obtain ⟨x, hx, hL⟩ := List.mem_flatMap.1 h
    split at hL
    · rename_i hc
      rw [Bool.and_eq_true, Bool.not_eq_true', Bool.or_eq_true] at hc
      have hxn : x < n := by have := List.mem_range'_1.1 hx; omega
      have hxs : x ∉ s := fun hm => by
        have := hc.1
        rw [List.contains_eq_mem, decide_eq_true hm] at this; cases this
      have hv' : Valid f n (s ++ [x]) := by
        refine ⟨?_, fun y hy => ?_, chainL_snoc.2 ⟨hv.chain, ?_⟩⟩
        · rw [List.nodup_append]
          refine ⟨hv.nodup, by simp, fun a ha b hb => ?_⟩
          rw [List.mem_singleton] at hb; subst hb
          exact fun he => hxs (he ▸ ha)
        · rcases List.mem_append.1 hy with hy | hy
          · exact hv.lt y hy
          · rw [List.mem_singleton] at hy; subst hy; exact hxn
        · rcases hc.2 with h | h
          · exact .inl (List.isEmpty_iff.1 h)
          · exact .inr h
      obtain ⟨h1, h2, h3⟩ := rows_valid hv' hL
      refine ⟨h1, ?_, by rw [h3]; simp; omega⟩
      have := congrArg (List.take s.length) h2
      rw [List.take_take, List.length_append, List.length_singleton, Nat.min_eq_left (by omega), List.take_left'] at this
      · exact this
      · rfl
    · simp at hL
theorem rows_has : ∀ {k : Nat} {s L : List Nat}, Valid f n L → L.length = s.length + k → L.take s.length = s → L ∈ rowsR f n k s
  | 0, s, L, _, h1, h2 => by
    unfold rowsR
    rw [List.mem_singleton, ← h2, List.take_of_length_le (by omega)]
  | k + 1, s, L, hv, h1, h2 => by
    have hlt : s.length < L.length := by omega
    have hs : L.take (s.length + 1) = s ++ [L[s.length]] := by rw [List.take_succ_eq_append_getElem hlt, h2]
    have ih := rows_has (k := k) (s := s ++ [L[s.length]]) hv (by simp; omega) (by rw [List.length_append, List.length_singleton, hs])
    unfold rowsR
    refine List.mem_flatMap.2 ⟨L[s.length], List.mem_range'_1.2 ⟨Nat.zero_le _, by have := hv.lt _ (List.getElem_mem hlt); omega⟩, ?_⟩
    have hch : chainL f (s ++ [L[s.length]]) := by
      rw [← hs]
      by_cases hd : L.drop (s.length + 1) = []
      · have : L.take (s.length + 1) = L := List.take_of_length_le (by have := List.drop_eq_nil_iff.1 hd; omega)
        rw [this]; exact hv.chain
      · have h3 := hv.chain
        rw [← List.take_append_drop (s.length + 1) L] at h3
        exact ((chainL_append (by intro h; have := congrArg List.length h; rw [List.length_take, List.length_nil] at this; omega) hd).1 h3).1
    have hxs : s.contains L[s.length] = false := by
      rw [List.contains_eq_mem, decide_eq_false_iff_not]
      intro hm
      have h3 : (L.take (s.length + 1)).Nodup := hv.nodup.sublist (List.take_sublist ..)
      rw [hs, List.nodup_append] at h3
      exact h3.2.2 _ hm _ (List.mem_singleton.2 rfl) rfl
    rw [hxs]
    have hch2 := (chainL_snoc.1 hch).2
    generalize L[s.length] = x at *
    rcases hch2 with h | h
    · have : s.isEmpty = true := by rw [h]; rfl
      rw [this]
      exact ih
    · rw [h, Bool.or_true]
      exact ih
/-! there is a row -/
def insertL (f : Nat → Nat → Bool) (m : Nat) : List Nat → List Nat
  | [] => [m]
  | a :: r => if f m a = true then m :: a :: r else a :: insertL f m r
theorem insertL_perm {m : Nat} : ∀ L, (insertL f m L).Perm (m :: L)
  | [] => List.Perm.refl _
  | a :: r => by
    unfold insertL
    split
    · exact List.Perm.refl _
    · exact ((insertL_perm r).cons a).trans (List.Perm.swap ..)
theorem insertL_chain {m : Nat} : ∀ {L : List Nat}, chainL f L → (∀ a ∈ L, f m a = false → f a m = true) → chainL f (insertL f m L)
  | [], _, _ => trivial
  | [a], _, h => by
    unfold insertL
    split
    · rename_i hc; exact ⟨hc, trivial⟩
    · rename_i hc; exact ⟨h a (by simp) (by simpa using hc), trivial⟩
  | a :: b :: r, hch, h => by
    have ih := insertL_chain (m := m) (L := b :: r) hch.2 fun x hx => h x (List.mem_cons_of_mem _ hx)
    unfold insertL
    split
    · rename_i hc; exact ⟨hc, hch⟩
    · rename_i hc
      unfold insertL at ih ⊢
      split
      · exact ⟨h a (by simp) (by simpa using hc), by rename_i hc2; rw [if_pos hc2] at ih; exact ih⟩
      · rename_i hc2
        rw [if_neg hc2] at ih
        exact ⟨hch.1, ih⟩
theorem row_ex (hone : ∀ x y, x < n → y < n → x ≠ y → f x y = !f y x) : ∀ m, m ≤ n → ∃ L : List Nat, L.Perm (List.range m) ∧ chainL f L
  | 0, _ => ⟨[], List.Perm.refl _, trivial⟩
  | m + 1, hm => by
    obtain ⟨L, h1, h2⟩ := row_ex hone m (by omega)
    refine ⟨insertL f m L, ?_, insertL_chain h2 fun a ha hf => ?_⟩
    · rw [List.range_succ]
      exact ((insertL_perm L).trans (h1.cons m)).trans (List.perm_append_singleton m (List.range m)).symm
    · have ha := List.mem_range.1 (h1.mem_iff.1 ha)
      rw [hone a m (by omega) (by omega) (by omega), hf]; rfl
theorem rows_ne (hone : ∀ x y, x < n → y < n → x ≠ y → f x y = !f y x) : rowsR f n n [] ≠ [] := by
  obtain ⟨L, h1, h2⟩ := row_ex hone n (Nat.le_refl _)
  have hv : Valid f n L := ⟨h1.symm.nodup List.nodup_range, fun x hx => List.mem_range.1 (h1.mem_iff.1 hx), h2⟩
  have := rows_has (k := n) (s := []) hv (by rw [h1.length_eq]; simp) rfl
  exact List.ne_nil_of_mem this
/-! the search finds the first one -/
theorem findSome_filter {α : Type} {p : Nat → Bool} {g : Nat → Option α} : ∀ {l : List Nat}, (l.filter p).findSome? g = l.findSome? fun x => if p x = true then g x else none
  | [] => rfl
  | x :: r => by
    rw [List.filter_cons]
    cases hp : p x
    · rw [if_neg (by simp), List.findSome?_cons, findSome_filter (l := r)]
      rw [hp, if_neg (by simp)]
    · rw [if_pos rfl, List.findSome?_cons, List.findSome?_cons, findSome_filter (l := r)]
      rw [hp, if_pos rfl]
theorem rowS_find (hn : n ≤ 7) {g : Nat → Bool} : ∀ (k : Nat) (s : List Nat) (left : Nat), (∀ x, left.testBit x = true ↔ x < n ∧ x ∉ s) → left < 128 → rowS f g k s left = (rowsR f n k s).find? fun L => g (lastN L)
  | 0, s, left, _, _ => by
    unfold rowS rowsR
    rw [List.find?_cons]
    cases g (lastN s) <;> rfl
  | k + 1, s, left, hl, h7 => by
    have hb : bitsOf left = (List.range' 0 n).filter fun x => !s.contains x := by
      unfold bitsOf
      obtain ⟨d, hd⟩ : ∃ d, 8 = n + d := ⟨8 - n, by omega⟩
      rw [hd, filter_range_cut d fun c hc1 hc2 => by
        cases hc : left.testBit c
        · rfl
        · have := ((hl c).1 hc).1; omega, List.range_eq_range']
      apply List.filter_congr
      intro x hx
      have hx := List.mem_range'_1.1 hx
      rw [Bool.eq_iff_iff, hl, Bool.not_eq_true', List.contains_eq_mem, decide_eq_false_iff_not]
      exact ⟨fun h => h.2, fun h => ⟨by omega, h⟩⟩
    unfold rowS rowsR
    rw [hb, findSome_filter, List.find?_flatMap]
    refine findSome_congr fun x hx => ?_
    have hx := List.mem_range'_1.1 hx
    cases hc : s.contains x
    · simp only [Bool.not_false, if_true, Bool.true_and]
      split
      · refine rowS_find hn k (s ++ [x]) (clr left (pw x)) (fun y => ?_) (Nat.lt_of_le_of_lt Nat.and_le_left h7)
        rw [testBit_clr (by omega), Bool.and_eq_true, hl, Bool.not_eq_true', testBit_pw, decide_eq_false_iff_not, List.mem_append, List.mem_singleton]
        constructor
        · rintro ⟨⟨h1, h2⟩, h3⟩
          exact ⟨h1, fun h => h.elim h2 fun h => h3 h.symm⟩
        · rintro ⟨h1, h2⟩
          exact ⟨⟨h1, fun h => h2 (.inl h)⟩, fun h => h2 (.inr h.symm)⟩
      · rfl
    · simp only [Bool.not_true, Bool.false_eq_true, if_false, Bool.false_and]
      rfl
end
end Go.Proofs.Ytngoldipfgfecaa.Code
end
section
namespace Go.Proofs.Ytngoldipfgfecaa.Code
open Go Go.Ab
section
variable {f : Nat → Nat → Bool} {n : Nat} {w : Nat → Nat}
theorem row_eq (hn : n ≤ 7) : rowS f (fun _ => true) n [] (pw n - 1) = (rowsR f n n []).head? := by
  rw [rowS_find hn n [] (pw n - 1) (fun x => by rw [testBit_all, decide_eq_true_eq]; simp) (by
    have : ∀ n, n ≤ 7 → pw n - 1 < 128 := by decide
    exact this n hn)]
  cases rowsR f n n [] <;> rfl
end
end Go.Proofs.Ytngoldipfgfecaa.Code
end
section
namespace Go.Proofs.Ytngoldipfgfecaa.Code
open Go Go.Ab
variable {pure : Bool} {base bar : Nat} {H : Heap} {Q : AV → Heap → Prop}
/-! the state of the search through all orders: how many rows, the first one, the first ring -/
def stH (H : Heap) (i6 i7 i8 : Nat) (c : Int) (v7 v8 : AV) : Heap := ((H.set i6 (.row 0 [.int .i64 c] 0 true)).set i7 (.row 0 [v7] 0 true)).set i8 (.row 0 [v8] 0 true)
structure St3 (H : Heap) (i6 i7 i8 : Nat) (c : Int) (v7 v8 : AV) : Prop where
  n67 : i6 ≠ i7
  n68 : i6 ≠ i8
  n78 : i7 ≠ i8
  h6 : H[i6]? = some (.row 0 [.int .i64 c] 0 true)
  h7 : H[i7]? = some (.row 0 [v7] 0 true)
  h8 : H[i8]? = some (.row 0 [v8] 0 true)
section
variable {i6 i7 i8 : Nat} {c c' : Int} {v7 v8 w7 w8 : AV}
theorem St3.lt (h : St3 H i6 i7 i8 c v7 v8) : i6 < H.length ∧ i7 < H.length ∧ i8 < H.length :=
  ⟨(List.getElem?_eq_some_iff.1 h.h6).1, (List.getElem?_eq_some_iff.1 h.h7).1, (List.getElem?_eq_some_iff.1 h.h8).1⟩
theorem stH_get {j : Nat} (h6 : j ≠ i6) (h7 : j ≠ i7) (h8 : j ≠ i8) : (stH H i6 i7 i8 c v7 v8)[j]? = H[j]? := by
  unfold stH
  rw [List.getElem?_set_ne (Ne.symm h8), List.getElem?_set_ne (Ne.symm h7), List.getElem?_set_ne (Ne.symm h6)]
theorem St3.set (h : St3 H i6 i7 i8 c v7 v8) : St3 (stH H i6 i7 i8 c' w7 w8) i6 i7 i8 c' w7 w8 := by
  obtain ⟨l6, l7, l8⟩ := h.lt
  refine ⟨h.n67, h.n68, h.n78, ?_, ?_, ?_⟩
  · unfold stH
    rw [List.getElem?_set_ne (Ne.symm h.n68), List.getElem?_set_ne (Ne.symm h.n67)]
    simp [l6]
  · unfold stH
    rw [List.getElem?_set_ne (Ne.symm h.n78)]
    simp [l7]
  · unfold stH
    simp [l8]
end
/-- a list that is nil just if it is empty -/
def isN (v : AV) (l : List Nat) : Prop := isL v l ∧ (l = [] → v = .nils)
theorem isN.eq {v : AV} {l : List Nat} (h : isN v l) {neg : Bool} {K : AV → Heap → List Nat → Prop} : eqWp neg .nilS (some v) (some .nils) H K = K (.bool (neg != l.isEmpty)) H [] := by
  cases l with
  | nil => rw [h.2 rfl, eqWp_nil0]; cases neg <;> rfl
  | cons a r =>
    have hn : v ≠ .nils := fun he => by
      rcases h.1 with ⟨_, h0⟩ | ⟨ex, h0⟩
      · cases h0
      · rw [he] at h0; cases h0
    rw [eqWp_nil h.1 hn]; cases neg <;> rfl
end Go.Proofs.Ytngoldipfgfecaa.Code
end
section
namespace Go.Proofs.Ytngoldipfgfecaa.Code
open Go Go.Ab
variable {base : Nat} {H : Heap} {Q : AV → Heap → Prop}
structure Env82 (H : Heap) (i2 i3 i4 i5 ig i6 i7 i8 n : Nat) (f : Nat → Nat → Bool) : Prop where
  h2 : H[i2]? = some (.row 0 [.int .i64 (n : Nat)] 0 true)
  h3 : H[i3]? = some (.row 0 [.fn 953 [] [.ptr i5 0 0, .ptr ig 0 0, .ptr i6 0 0, .ptr i7 0 0, .ptr i8 0 0]] 0 true)
  h4 : H[i4]? = some (.row 0 [.fn 982 [] [.ptr i2 0 0, .ptr i3 0 0, .ptr i4 0 0]] 0 true)
  h5 : H[i5]? = some (.row 0 [.int .i64 (n : Nat)] 0 true)
  hg : H[ig]? = some (.row 0 (gcells f) 0 true)
  d2 : i2 ≠ i6 ∧ i2 ≠ i7 ∧ i2 ≠ i8
  d3 : i3 ≠ i6 ∧ i3 ≠ i7 ∧ i3 ≠ i8
  d4 : i4 ≠ i6 ∧ i4 ≠ i7 ∧ i4 ≠ i8
  d5 : i5 ≠ i6 ∧ i5 ≠ i7 ∧ i5 ≠ i8
  dg : ig ≠ i6 ∧ ig ≠ i7 ∧ ig ≠ i8
section
variable {i2 i3 i4 i5 ig i6 i7 i8 n : Nat} {f : Nat → Nat → Bool}
theorem Env82.st (h : Env82 H i2 i3 i4 i5 ig i6 i7 i8 n f) {c : Int} {v7 v8 : AV} : Env82 (stH H i6 i7 i8 c v7 v8) i2 i3 i4 i5 ig i6 i7 i8 n f :=
  ⟨by rw [stH_get h.d2.1 h.d2.2.1 h.d2.2.2]; exact h.h2, by rw [stH_get h.d3.1 h.d3.2.1 h.d3.2.2]; exact h.h3, by rw [stH_get h.d4.1 h.d4.2.1 h.d4.2.2]; exact h.h4,
    by rw [stH_get h.d5.1 h.d5.2.1 h.d5.2.2]; exact h.h5, by rw [stH_get h.dg.1 h.dg.2.1 h.dg.2.2]; exact h.hg, h.d2, h.d3, h.d4, h.d5, h.dg⟩
end
end Go.Proofs.Ytngoldipfgfecaa.Code
end
section
namespace Go.Proofs.Ytngoldipfgfecaa.Code
open Go Go.Ab
variable {base : Nat} {H : Heap} {Q : AV → Heap → Prop}
end Go.Proofs.Ytngoldipfgfecaa.Code
end
section
namespace Go.Proofs.Ytngoldipfgfecaa.Code
open Go Go.Ab
/-- a contest that a number makes -/
structure ByBits (n T : Nat) (f : Nat → Nat → Bool) : Prop where
  lt : T < 2 ^ tri n
  won : ∀ x y, y < x → x < n → f x y = !T.testBit (tri x + y) ∧ f y x = T.testBit (tri x + y)
  dom : ∀ x y, f x y = true → x < n ∧ y < n
  irr : ∀ x, f x x = false
theorem tri_lt {n x y : Nat} (h1 : y < x) (h2 : x < n) : tri x + y < tri n := by
  have := tri_mono (show x + 1 ≤ n by omega)
  simp only [tri] at this; omega
theorem MadeC.bits {n bits : Nat} {l : List ZZ} {f : Nat → Nat → Bool} (h : MadeC n bits l f) : ByBits n (bits % 2 ^ tri n) f := by
  refine ⟨Nat.mod_lt _ (Nat.two_pow_pos _), fun x y h1 h2 => ?_, h.dom, h.irr⟩
  have := tri_lt h1 h2
  rw [Nat.testBit_mod_two_pow, decide_eq_true this, Bool.true_and]
  exact h.won x y h1 h2
end Go.Proofs.Ytngoldipfgfecaa.Code
end
section
namespace Go.Proofs.Ytngoldipfgfecaa.Code
open Go Go.Ab
end Go.Proofs.Ytngoldipfgfecaa.Code
end
section
namespace Go.Proofs.Ytngoldipfgfecaa.Code
open Go Go.Ab
variable {base bar : Nat} {H : Heap} {Q : AV → Heap → Prop} {K : AV → Heap → List Nat → Prop}
/-! lists of pairs that are made anew by each append, and two structs that hold such lists -/
/-- a list of pairs: nil, written out, or in a block from number 5 on -/
def PV (H : Heap) (v : AV) (l : List ZZ) : Prop :=
  (v = .nils ∧ l = []) ∨ v = .lst 2 true (prA l) ∨ ∃ id ver fz, 5 ≤ id ∧ v = .vec id ver 0 l.length 2 ∧ H[id]? = some (.row ver (prs l) fz false)
theorem PV.nil : PV H .nils [] := .inl ⟨rfl, rfl⟩
theorem PV.lt {v : AV} {l : List ZZ} (h : PV H v l) {j : Nat} (hj : idOf v = some j) : 5 ≤ j ∧ j < H.length := by
  rcases h with ⟨rfl, _⟩ | rfl | ⟨id, ver, fz, h1, rfl, h3⟩
  · cases hj
  · cases hj
  · cases hj; exact ⟨h1, (List.getElem?_eq_some_iff.1 h3).1⟩
/-- freezing it -/
theorem PV.frz {v : AV} {l : List ZZ} {d : Nat} (g : PV H v l) : ∃ q H', frz (d + 3) 0 H v = some (q, H') ∧ isP q l ∧ PV H' v l ∧ H'.length = H.length ∧ ∀ j, idOf v ≠ some j → H'[j]? = H[j]? := by
  rcases g with ⟨rfl, rfl⟩ | rfl | ⟨id, ver, fz, h1, rfl, h3⟩
  · exact ⟨.nils, H, rfl, .nil, .nil, rfl, fun _ _ => rfl⟩
  · exact ⟨_, H, rfl, .lst, .inr (.inl rfl), rfl, fun _ _ => rfl⟩
  · have hlt := (List.getElem?_eq_some_iff.1 h3).1
    have e := frz_vec (d := d + 2) (bar := 0) (H := H) (id := id) (ver := ver) (off := 0) (len := l.length) (sz := 2) (cs := prs l) (fz := fz) (ex := false) (xs := prs l)
        (H' := H.set id (.row ver (prs l) (max fz (0 + l.length * 2)) false)) h3 (by rw [prs_length]; omega) (Nat.zero_le _) (by
          rw [List.drop_zero, List.take_of_length_le (by rw [prs_length]; omega), plains prs_plain])
    refine ⟨_, _, e, ?_, .inr (.inr ⟨id, ver, max fz (0 + l.length * 2), h1, rfl, by simp [hlt]⟩), by simp, fun j hj => ?_⟩
    · rw [chunks_two]; exact .lst
    · have : id ≠ j := fun hc => hj (by rw [hc]; rfl)
      simp [this]
/-- three contests: c, o and back, in blocks 1, 3 and 4 -/
structure Three (n : Nat) (q : AV) (lo lb : List ZZ) (o b : AV) (H : Heap) : Prop where
  c901 : H[1]? = some (.row 0 [.int .i64 (n : Nat), q] 0 true)
  c903 : H[3]? = some (.row 0 [.int .i64 (n : Nat), o] 0 true)
  c904 : H[4]? = some (.row 0 [.int .i64 (n : Nat), b] 0 true)
  ho : PV H o lo
  hb : Own 5 2 (prs lb) b H
  sep : ∀ j, idOf o = some j → idOf b ≠ some j
variable {n : Nat} {q o b : AV} {lo lb : List ZZ}
theorem Three.len (g : Three n q lo lb o b H) : 5 ≤ H.length := by
  have := (List.getElem?_eq_some_iff.1 g.c904).1; omega
end Go.Proofs.Ytngoldipfgfecaa.Code
end
section
namespace Go.Proofs.Ytngoldipfgfecaa.Code
open Go Go.Ab
/-! contests with other numbers of the curlers, and with all meetings the other way round -/
def zV (n : Int) (p : ZZ) : Prop := 0 ≤ p.1 ∧ 0 ≤ p.2 ∧ p.1 < n ∧ p.2 < n ∧ p.1 ≠ p.2
def swZ (p : ZZ) : ZZ := (p.2, p.1)
def zN (p q : ZZ) : Prop := q ≠ p ∧ q ≠ swZ p
theorem qin_zN {b : List ZZ} {p : ZZ} : qin b p.1 p.2 = false ↔ ∀ o ∈ b, zN o p := by
  rw [← Bool.not_eq_true, qin_mem]
  constructor
  · intro h o ho
    refine ⟨fun e => h (.inl (e ▸ ho)), fun e => h (.inr ?_)⟩
    rw [e]; exact ho
  · rintro h (h1 | h1)
    · exact (h _ h1).1 rfl
    · exact (h _ h1).2 rfl
theorem chkF_iff {n : Int} : ∀ {l b : List ZZ}, chkF n b l = 0 ↔ (∀ p ∈ l, zV n p) ∧ l.Pairwise zN ∧ (∀ p ∈ l, ∀ o ∈ b, zN o p)
  | [], b => by simp [chkF]
  | p :: r, b => by
    have ih := chkF_iff (n := n) (l := r) (b := b ++ [p])
    simp only [chkF]
    constructor
    · intro h
      split at h
      · cases h
      rename_i g1
      split at h
      · cases h
      rename_i g2
      split at h
      · cases h
      rename_i g3
      obtain ⟨a1, a2, a3⟩ := ih.1 h
      refine ⟨fun q hq => ?_, List.pairwise_cons.2 ⟨fun q hq => a3 q hq p (by simp), a2⟩, fun q hq o ho => ?_⟩
      · rcases List.mem_cons.1 hq with rfl | hq
        · exact ⟨by omega, by omega, by omega, by omega, g2⟩
        · exact a1 q hq
      · rcases List.mem_cons.1 hq with rfl | hq
        · exact qin_zN.1 (by simpa using g3) o ho
        · exact a3 q hq o (List.mem_append_left _ ho)
    · rintro ⟨a1, a2, a3⟩
      obtain ⟨b1, b2⟩ := List.pairwise_cons.1 a2
      have hp := a1 p (List.mem_cons_self ..)
      obtain ⟨c901, c902, c903, c904, c905⟩ := hp
      rw [if_neg (by omega), if_neg c905, if_neg (by
        rw [Bool.not_eq_true]
        exact qin_zN.2 fun o ho => a3 p (List.mem_cons_self ..) o ho)]
      refine ih.2 ⟨fun q hq => a1 q (List.mem_cons_of_mem _ hq), b2, fun q hq o ho => ?_⟩
      rcases List.mem_append.1 ho with ho | ho
      · exact a3 q (List.mem_cons_of_mem _ hq) o ho
      · rw [List.mem_singleton] at ho; subst ho; exact b1 q hq
theorem chkF_iff0 {n : Int} {l : List ZZ} : chkF n [] l = 0 ↔ (∀ p ∈ l, zV n p) ∧ l.Pairwise zN := by
  rw [chkF_iff]
  exact ⟨fun h => ⟨h.1, h.2.1⟩, fun h => ⟨h.1, h.2, fun _ _ o ho => by simp at ho⟩⟩
theorem OkC.mk' {n : Nat} {l : List ZZ} (h7 : n ≤ 7) (h1 : 1 ≤ n) (hc : chkF (n : Int) [] l = 0) (hl : halfN n ≤ l.length) : OkC n l := by
  refine ⟨h7, h1, ?_⟩
  unfold checkS
  rw [if_pos (by simp [within]; omega), if_pos hc, if_neg (by simpa using hl)]
structure Turn (n : Nat) (f g : Nat → Nat → Bool) (s t : Nat → Nat) : Prop where
  lt : ∀ x, x < n → s x < n
  lt' : ∀ x, x < n → t x < n
  ts : ∀ x, x < n → t (s x) = x
  st : ∀ x, x < n → s (t x) = x
  eq : ∀ x y, x < n → y < n → g (s x) (s y) = f x y
section
variable {n : Nat} {f g : Nat → Nat → Bool} {s t : Nat → Nat}
theorem Turn.symm (h : Turn n f g s t) : Turn n g f t s :=
  ⟨h.lt', h.lt, h.st, h.ts, fun x y hx hy => by rw [← h.eq _ _ (h.lt' x hx) (h.lt' y hy), h.st x hx, h.st y hy]⟩
theorem Turn.inj (h : Turn n f g s t) {x y : Nat} (hx : x < n) (hy : y < n) (e : s x = s y) : x = y := by
  rw [← h.ts x hx, ← h.ts y hy, e]
theorem mapS_nodup {l : List Nat} (hl : l.Nodup) {s : Nat → Nat} (hi : ∀ x ∈ l, ∀ y ∈ l, s x = s y → x = y) : (l.map s).Nodup := by
  unfold List.Nodup at hl ⊢
  rw [List.pairwise_map]
  exact hl.imp_of_mem fun ha hb hne he => hne (hi _ ha _ hb he)
end
theorem OkC.nat {n : Nat} {l : List ZZ} (h : OkC n l) : ∀ p ∈ l, ∃ x y : Nat, x < n ∧ y < n ∧ x ≠ y ∧ p = ((x : Int), (y : Int)) := fun p hp => by
  obtain ⟨a1, a2, a3, a4, a5⟩ := (chkF_iff0.1 h.chk).1 p hp
  obtain ⟨a, b⟩ := p
  simp only at a1 a2 a3 a4 a5
  obtain ⟨x, rfl⟩ := Int.eq_ofNat_of_zero_le a1
  obtain ⟨y, rfl⟩ := Int.eq_ofNat_of_zero_le a2
  exact ⟨x, y, by omega, by omega, by omega, rfl⟩
theorem zV_nat {n : Nat} {p : ZZ} (h : zV (n : Int) p) : ∃ x y : Nat, x < n ∧ y < n ∧ x ≠ y ∧ p = ((x : Int), (y : Int)) := by
  obtain ⟨a1, a2, a3, a4, a5⟩ := h
  obtain ⟨a, b⟩ := p
  simp only at a1 a2 a3 a4 a5
  obtain ⟨x, rfl⟩ := Int.eq_ofNat_of_zero_le a1
  obtain ⟨y, rfl⟩ := Int.eq_ofNat_of_zero_le a2
  exact ⟨x, y, by omega, by omega, by omega, rfl⟩
/-! rows -/
section
variable {n : Nat} {f g : Nat → Nat → Bool} {s t : Nat → Nat}
theorem rowsR_take : ∀ {k : Nat} {s L : List Nat}, L ∈ rowsR f n k s → L.take s.length = s
  | 0, s, L, h => by
    unfold rowsR at h
    rw [List.mem_singleton] at h; subst h
    exact List.take_length
  | k + 1, s, L, h => by
    unfold rowsR at h
    obtain ⟨x, hx, hL⟩ := List.mem_flatMap.1 h
    split at hL
    · have h2 := rowsR_take hL
      have := congrArg (List.take s.length) h2
      rw [List.take_take, List.length_append, List.length_singleton, Nat.min_eq_left (by omega), List.take_left' rfl] at this
      exact this
    · simp at hL
theorem rowsR_nodup : ∀ (k : Nat) (s : List Nat), (rowsR f n k s).Nodup
  | 0, s => by simp [rowsR]
  | k + 1, s => by
    unfold rowsR List.Nodup
    rw [List.pairwise_flatMap]
    refine ⟨fun x _ => ?_, ?_⟩
    · split
      · exact rowsR_nodup k _
      · exact List.Pairwise.nil
    · refine (List.nodup_range' (s := 0) (n := n) (step := 1)).imp fun {x y} hxy => ?_
      intro a ha b hb e
      subst e
      split at ha
      · split at hb
        · have h1 := rowsR_take ha
          have h2 := rowsR_take hb
          rw [List.length_append, List.length_singleton] at h1 h2
          rw [h1] at h2
          have := List.append_cancel_left h2
          simp only [List.cons.injEq, and_true] at this
          exact hxy this
        · simp at hb
      · simp at ha
theorem rows_iff {L : List Nat} : L ∈ rowsR f n n [] ↔ Valid f n L ∧ L.length = n := by
  constructor
  · intro h
    obtain ⟨h1, _, h3⟩ := rows_valid (s := []) ⟨by simp, by simp, trivial⟩ h
    exact ⟨h1, by simpa using h3⟩
  · rintro ⟨h1, h2⟩
    exact rows_has h1 (by simpa using h2) (by simp)
theorem chainL_map (h : Turn n f g s t) : ∀ {L : List Nat}, (∀ x ∈ L, x < n) → chainL f L → chainL g (L.map s)
  | [], _, _ => trivial
  | [_], _, _ => trivial
  | a :: b :: r, hL, hc => by
    refine ⟨?_, chainL_map h (L := b :: r) (fun x hx => hL x (List.mem_cons_of_mem _ hx)) hc.2⟩
    rw [h.eq a b (hL a (by simp)) (hL b (by simp))]; exact hc.1
theorem Turn.row (h : Turn n f g s t) {L : List Nat} (hL : L ∈ rowsR f n n []) : L.map s ∈ rowsR g n n [] := by
  obtain ⟨h1, h2⟩ := rows_iff.1 hL
  refine rows_iff.2 ⟨⟨mapS_nodup h1.nodup fun x hx y hy e => h.inj (h1.lt x hx) (h1.lt y hy) e, fun x hx => ?_, chainL_map h h1.lt h1.chain⟩, by simpa using h2⟩
  obtain ⟨y, hy, rfl⟩ := List.mem_map.1 hx
  exact h.lt y (h1.lt y hy)
end
/-! groups -/
end Go.Proofs.Ytngoldipfgfecaa.Code
end
section
namespace Go.Proofs.Ytngoldipfgfecaa.Code
open Go Go.Ab
variable {pure : Bool} {base bar : Nat} {H : Heap} {Q : AV → Heap → Prop} {K : AV → Heap → List Nat → Prop}
/-! lists of numbers with a sign -/
def ints (l : List Int) : List AV := l.map (.int .i64)
def isZ (v : AV) (l : List Int) : Prop := (v = .nils ∧ l = []) ∨ ∃ ex, v = .lst 1 ex (ints l)
def natsZ (l : List Nat) : List Int := l.map fun x : Nat => (x : Int)
theorem ints_nats {l : List Nat} : ints (natsZ l) = nats l := by simp [ints, natsZ, nats]
theorem isL.z {v : AV} {l : List Nat} (h : isL v l) : isZ v (natsZ l) := by
  rcases h with ⟨rfl, rfl⟩ | ⟨ex, rfl⟩
  · exact .inl ⟨rfl, rfl⟩
  · exact .inr ⟨ex, by rw [ints_nats]⟩
theorem isZ.l {v : AV} {l : List Nat} (h : isZ v (natsZ l)) : isL v l := by
  rcases h with ⟨rfl, h⟩ | ⟨ex, rfl⟩
  · cases l with
    | nil => exact .nil
    | cons a r => simp [natsZ] at h
  · rw [ints_nats]; exact .lst
theorem isZ.len {v : AV} {l : List Int} (h : isZ v l) : lenWp (some v) H K = K (.int .i64 (l.length : Int)) H [] := by
  rcases h with ⟨rfl, rfl⟩ | ⟨ex, rfl⟩
  · rfl
  · rw [lenWp_lst]; simp [ints]
theorem isZ.frz {v : AV} {l : List Int} (h : isZ v l) {d : Nat} : Go.Ab.frz (d + 1) bar H v = some (v, H) := by
  rcases h with ⟨rfl, rfl⟩ | ⟨ex, rfl⟩ <;> rfl
theorem isZ.top {v : AV} {l : List Int} (h : isZ v l) : v.top = 0 := by
  rcases h with ⟨rfl, rfl⟩ | ⟨ex, rfl⟩
  · rfl
  · show AV.top.tops _ = 0
    exact tops_ints
theorem isZ.ix {v : AV} {l : List Int} (h : isZ v l) {k : IntKind} {i : Nat} (hi : i < l.length) : ixaSWp 1 (some v) (some (.int k (i : Int))) H K = K (.fp (.int .i64 l[i])) H [] := by
  rcases h with ⟨rfl, rfl⟩ | ⟨ex, rfl⟩
  · simp at hi
  · rw [ixaSWp_lst]
    simp only [Int.toNat_natCast]
    rw [show (ints l)[i]? = some (.int .i64 l[i]) by simp [ints, List.getElem?_eq_getElem hi]]
    simp [valWp_some]
end Go.Proofs.Ytngoldipfgfecaa.Code
end
section
namespace Go.Proofs.Ytngoldipfgfecaa.Code
open Go Go.Ab
variable {pure : Bool} {base bar : Nat} {H : Heap} {Q : AV → Heap → Prop}
end Go.Proofs.Ytngoldipfgfecaa.Code
end
section
namespace Go.Proofs.Ytngoldipfgfecaa.Code
open Go Go.Ab
variable {pure : Bool} {base bar : Nat} {H : Heap} {Q : AV → Heap → Prop}
/-! 79: two curlers by what is left of their scores -/
structure Cl (H : Heap) (ip il n : Nat) (f : Nat → Nat) : Prop where
  hp : H[ip]? = some (.row 0 [.vec il 0 0 n 1] 0 true)
  hl : H[il]? = some (.row 0 (fcells n f) 0 false)
theorem Cl.set {ip il n io : Nat} {f : Nat → Nat} {b : Blk} (h : Cl H ip il n f) (h1 : io ≠ ip) (h2 : io ≠ il) : Cl (H.set io b) ip il n f :=
  ⟨by rw [List.getElem?_set_ne h1]; exact h.hp, by rw [List.getElem?_set_ne h2]; exact h.hl⟩
end Go.Proofs.Ytngoldipfgfecaa.Code
end
section
namespace Go.Proofs.Ytngoldipfgfecaa.Code
open Go Go.Ab
variable {base bar : Nat} {H : Heap} {Q : AV → Heap → Prop}
structure Fr (N n : Nat) (f : Nat → Nat) (vo : Nat) (cells : List Nat) (ms : List ZZ) (mv : AV) (H0 H : Heap) : Prop where
  hN : H0.length = N
  h0 : H[N]? = some (.row 0 [.int .i64 0, .nils] 0 true)
  h6 : H[N + 1]? = some (.row 0 [.int .i64 (n : Nat), mv] 0 true)
  cl : Cl H (N + 3) (N + 2) n f
  ho : H[N + 4]? = some (.row vo (nats cells) 0 false)
  hm : Own (N + 5) 2 (prs ms) mv H
  tk : H.take N = H0
section
variable {N n vo : Nat} {f : Nat → Nat} {cells : List Nat} {ms : List ZZ} {mv : AV} {H0 : Heap}
theorem Fr.len (g : Fr N n f vo cells ms mv H0 H) : N + 5 ≤ H.length := by
  have := (List.getElem?_eq_some_iff.1 g.ho).1; omega
end
end Go.Proofs.Ytngoldipfgfecaa.Code
end
section
namespace Go.Proofs.Ytngoldipfgfecaa.Code
open Go Go.Ab
end Go.Proofs.Ytngoldipfgfecaa.Code
end
section
namespace Go.Proofs.Ytngoldipfgfecaa.Code
open Go Go.Ab
end Go.Proofs.Ytngoldipfgfecaa.Code
end
section
namespace Go.Proofs.Ytngoldipfgfecaa.Code
open Go Go.Ab
variable {pure : Bool} {base bar : Nat} {H : Heap} {Q : AV → Heap → Prop}
end Go.Proofs.Ytngoldipfgfecaa.Code
end
section
namespace Go.Proofs.Ytngoldipfgfecaa.Code
open Go Go.Ab
/-! scores: no curlers have fewer wins together than meetings between them; the greedy choice keeps that -/
theorem halfN_succ (n : Nat) : halfN (n + 1) = halfN n + n := by
  unfold halfN
  cases n with
  | zero => rfl
  | succ m =>
    show (m + 2) * (m + 1) / 2 = (m + 1) * m / 2 + (m + 1)
    have : (m + 2) * (m + 1) = (m + 1) * m + (m + 1) * 2 := by rw [← Nat.mul_add, Nat.mul_comm]
    rw [this, Nat.add_mul_div_right _ _ (by decide)]
theorem halfN_add (a : Nat) : ∀ b, halfN (a + b) = halfN a + halfN b + a * b
  | 0 => rfl
  | b + 1 => by
    rw [← Nat.add_assoc, halfN_succ, halfN_add a b, halfN_succ, Nat.mul_add, Nat.mul_one]; omega
structure Lan (f : Nat → Nat) (o : List Nat) : Prop where
  nodup : o.Nodup
  le : ∀ T : List Nat, T.Nodup → (∀ x ∈ T, x ∈ o) → halfN T.length ≤ (T.map f).sum
  eq : (o.map f).sum = halfN o.length
def decB (f : Nat → Nat) (B : List Nat) : Nat → Nat := fun x => if x ∈ B then f x - 1 else f x
theorem sum_decB {f : Nat → Nat} {B : List Nat} : ∀ {T : List Nat}, (∀ x ∈ T, x ∈ B → 1 ≤ f x) → (T.map f).sum = (T.map (decB f B)).sum + (T.filter fun x => decide (x ∈ B)).length
  | [], _ => rfl
  | x :: r, h => by
    have ih := sum_decB (f := f) (B := B) (T := r) fun y hy => h y (List.mem_cons_of_mem _ hy)
    have hx := h x (List.mem_cons_self ..)
    rw [List.map_cons, List.sum_cons, List.map_cons, List.sum_cons, ih]
    by_cases hb : x ∈ B
    · have := hx hb
      rw [List.filter_cons_of_pos (by simpa using hb), List.length_cons]
      unfold decB
      rw [if_pos hb]; omega
    · rw [List.filter_cons_of_neg (by simpa using hb)]
      have e : decB f B x = f x := by unfold decB; rw [if_neg hb]
      rw [e]; omega
theorem filter_two {T : List Nat} {p : Nat → Bool} : T.length = (T.filter p).length + (T.filter fun x => !p x).length := by
  induction T with
  | nil => rfl
  | cons x r ih =>
    cases hp : p x
    · rw [List.filter_cons_of_neg (by simp [hp]), List.filter_cons_of_pos (by simp [hp])]
      simp only [List.length_cons]; omega
    · rw [List.filter_cons_of_pos hp, List.filter_cons_of_neg (by simp [hp])]
      simp only [List.length_cons]; omega
theorem filter_swap {T A : List Nat} (hT : T.Nodup) (hA : A.Nodup) : (T.filter fun x => decide (x ∈ A)).length = (A.filter fun x => decide (x ∈ T)).length := by
  apply List.Perm.length_eq
  rw [List.perm_ext_iff_of_nodup (hT.filter _) (hA.filter _)]
  intro a
  simp only [List.mem_filter, decide_eq_true_eq]
  exact And.comm
theorem Lan.step {f : Nat → Nat} {o : List Nat} {z : Nat} (h : Lan f (o ++ [z])) (hs : (o ++ [z]).Pairwise fun a b => f a ≤ f b) :
    f z ≤ o.length ∧ (∀ x ∈ o.drop (f z), 1 ≤ f x) ∧ Lan (decB f (o.drop (f z))) o := by
  obtain ⟨hn, hle, heq⟩ := h
  obtain ⟨hno, _, hdz⟩ := List.nodup_append.1 hn
  have hz : z ∉ o := fun hm => hdz z hm z (by simp) rfl
  rw [List.map_append, List.sum_append, List.length_append, List.length_singleton, halfN_succ] at heq
  simp only [List.map_cons, List.map_nil, List.sum_cons, List.sum_nil, Nat.add_zero] at heq
  have ho := hle o hno fun x hx => List.mem_append_left _ hx
  have hzl : f z ≤ o.length := by omega
  have hso := (List.pairwise_append.1 hs).1
  have hAB : o.take (f z) ++ o.drop (f z) = o := List.take_append_drop ..
  have hAl : (o.take (f z)).length = f z := by rw [List.length_take]; omega
  have hBl : (o.drop (f z)).length = o.length - f z := List.length_drop ..
  generalize ht : f z = t at *
  generalize o.take t = A at *
  generalize o.drop t = B at *
  rw [← hAB] at hno hso
  obtain ⟨hnA, hnB, hdis⟩ := List.nodup_append.1 hno
  obtain ⟨_, _, hcr⟩ := List.pairwise_append.1 hso
  rw [hAB] at hno
  have memo : ∀ {x}, x ∈ o ↔ x ∈ A ∨ x ∈ B := fun {x} => by rw [← hAB, List.mem_append]
  have hpos : ∀ x ∈ B, 1 ≤ f x := fun b hb => by
    apply Decidable.byContradiction
    intro hc
    have hA0 := sum_le (f := f) (c := 0) (l := A) fun a ha => by have := hcr a ha b hb; omega
    have hzb : z ≠ b := fun e => hz (e ▸ memo.2 (.inr hb))
    have := hle (z :: b :: A) (by
      rw [List.nodup_cons, List.nodup_cons]
      refine ⟨fun hm => ?_, fun hm => hdis b hm b hb rfl, hnA⟩
      rcases List.mem_cons.1 hm with hm | hm
      · exact hzb hm
      · exact hz (memo.2 (.inl hm))) fun x hx => by
        rcases List.mem_cons.1 hx with rfl | hx
        · simp
        rcases List.mem_cons.1 hx with rfl | hx
        · exact List.mem_append_left _ (memo.2 (.inr hb))
        · exact List.mem_append_left _ (memo.2 (.inl hx))
    simp only [List.length_cons, List.map_cons, List.sum_cons] at this
    rw [halfN_succ, halfN_succ] at this
    omega
  refine ⟨hzl, hpos, hno, ?_, ?_⟩
  · have key : ∀ k (T : List Nat), T.length = k → T.Nodup → (∀ x ∈ T, x ∈ o) → halfN k ≤ (T.map (decB f B)).sum := by
      intro k
      induction k with
      | zero => intro T hT _ _; exact Nat.zero_le _
      | succ k ih =>
        intro T hT hTn hTo
        have hsum := sum_decB (f := f) (B := B) (T := T) fun x _ hb => hpos x hb
        have hTf := hle T hTn fun x hx => List.mem_append_left _ (hTo x hx)
        rw [hT] at hTf
        by_cases h0 : (T.filter fun x => decide (x ∈ B)).length = 0
        · omega
        obtain ⟨b, hb⟩ := List.exists_mem_of_length_pos (by omega : 0 < (T.filter fun x => decide (x ∈ B)).length)
        rw [List.mem_filter, decide_eq_true_eq] at hb
        obtain ⟨hbT, hbB⟩ := hb
        by_cases hex : ∃ y ∈ A, y ∉ T ∧ k + 1 ≤ f y
        · obtain ⟨y, hyA, _, hyk⟩ := hex
          have hby := hcr y hyA b hbB
          have hp := List.perm_cons_erase hbT
          have hpl := hp.length_eq
          rw [List.length_cons, hT] at hpl
          have := ih (T.erase b) (by omega) (hTn.erase b) fun x hx => hTo x (List.mem_of_mem_erase hx)
          have hs2 := (hp.map (decB f B)).sum_nat
          rw [List.map_cons, List.sum_cons] at hs2
          have e : decB f B b = f b - 1 := by unfold decB; rw [if_pos hbB]
          rw [hs2, e, halfN_succ]; omega
        · have hC := sum_le (f := f) (c := k) (l := A.filter fun y => !decide (y ∈ T)) fun y hy => by
            rw [List.mem_filter] at hy
            apply Decidable.byContradiction
            intro hc
            exact hex ⟨y, hy.1, by simpa using hy.2, by omega⟩
          have hU := hle (z :: ((A.filter fun y => !decide (y ∈ T)) ++ T)) (by
            rw [List.nodup_cons, List.nodup_append]
            refine ⟨fun hm => ?_, hnA.filter _, hTn, fun a ha c hc e => ?_⟩
            · rcases List.mem_append.1 hm with hm | hm
              · exact hz (memo.2 (.inl (List.mem_filter.1 hm).1))
              · exact hz (hTo z hm)
            · have := (List.mem_filter.1 ha).2
              rw [e] at this
              simp [hc] at this) fun x hx => by
              rcases List.mem_cons.1 hx with rfl | hx
              · simp
              rcases List.mem_append.1 hx with hx | hx
              · exact List.mem_append_left _ (memo.2 (.inl (List.mem_filter.1 hx).1))
              · exact List.mem_append_left _ (hTo x hx)
          rw [List.length_cons, List.length_append, List.map_cons, List.sum_cons, List.map_append, List.sum_append, ht, hT] at hU
          have c901 := filter_two (T := A) (p := fun y => decide (y ∈ T))
          have c902 := filter_two (T := T) (p := fun y => decide (y ∈ B))
          have c903 : (T.filter fun x => !decide (x ∈ B)).length = (T.filter fun x => decide (x ∈ A)).length := by
            congr 1
            apply List.filter_congr
            intro x hx
            rcases memo.1 (hTo x hx) with ha | hb
            · have : x ∉ B := fun hb => hdis x ha x hb rfl
              simp [ha, this]
            · have : x ∉ A := fun ha => hdis x ha x hb rfl
              simp [hb, this]
          have c904 := filter_swap hTn hnA
          generalize (A.filter fun y => !decide (y ∈ T)) = C at *
          generalize (T.filter fun x => decide (x ∈ B)).length = a at *
          generalize (T.filter fun x => decide (x ∈ A)).length = ta at *
          generalize (A.filter fun x => decide (x ∈ T)).length = ta2 at *
          generalize (T.filter fun x => !decide (x ∈ B)).length = ta3 at *
          generalize C.length = c at *
          have e1 := halfN_add (k + 1) (c + 1)
          have e2 : c + (k + 1) + 1 = k + 1 + (c + 1) := by omega
          rw [e2, e1] at hU
          have e3 : (k + 1) * (c + 1) = c * k + c + (k + 1) := by rw [Nat.mul_add, Nat.add_mul, Nat.mul_comm k c]; omega
          rw [e3] at hU
          omega
    exact fun T hTn hTo => key _ T rfl hTn hTo
  · have hsum := sum_decB (f := f) (B := B) (T := o) fun x _ hb => hpos x hb
    have : (o.filter fun x => decide (x ∈ B)) = B := by
      rw [← hAB, List.filter_append, List.filter_eq_nil_iff.2 fun a ha => by
        have : a ∉ B := fun hb => hdis a ha a hb rfl
        simpa using this, List.nil_append, List.filter_eq_self.2 fun a ha => by simpa using ha]
    rw [this, hBl] at hsum
    omega
end Go.Proofs.Ytngoldipfgfecaa.Code
end
section
namespace Go.Proofs.Ytngoldipfgfecaa.Code
open Go Go.Ab
/-! the meetings of one curler with all that are left -/
def prZ (x y : Nat) : ZZ := ((x : Int), (y : Int))
def procG (z t : Nat) : Nat → List Nat → List ZZ → (Nat → Nat) → List ZZ × (Nat → Nat)
  | _, [], ms, f => (ms, f)
  | i, x :: r, ms, f => if i < t then procG z t (i + 1) r (ms ++ [prZ z x]) f else procG z t (i + 1) r (ms ++ [prZ x z]) (upd f x (f x - 1))
theorem procG_eq {z t : Nat} : ∀ (l : List Nat) (i : Nat) (ms : List ZZ) (f : Nat → Nat), l.Nodup →
    procG z t i l ms f = (ms ++ (l.take (t - i)).map (fun x => prZ z x) ++ (l.drop (t - i)).map (fun x => prZ x z), decB f (l.drop (t - i)))
  | [], i, ms, f, _ => by
    simp only [procG, List.take_nil, List.drop_nil, List.map_nil, List.append_nil, Prod.mk.injEq, true_and]
    funext x
    simp [decB]
  | x :: r, i, ms, f, hn => by
    rw [List.nodup_cons] at hn
    unfold procG
    by_cases hc : i < t
    · rw [if_pos hc, procG_eq r (i + 1) _ _ hn.2, show t - i = (t - (i + 1)) + 1 by omega]
      simp
    · rw [if_neg hc, procG_eq r (i + 1) _ _ hn.2, show t - i = 0 by omega, show t - (i + 1) = 0 by omega]
      simp only [List.take_zero, List.drop_zero, List.map_nil, List.append_nil, List.map_cons, Prod.mk.injEq]
      refine ⟨by simp, ?_⟩
      funext y
      unfold decB upd
      by_cases hy : y ∈ r
      · have : y ≠ x := fun e => hn.1 (e ▸ hy)
        simp [hy, this]
      · by_cases hx : y = x
        · subst hx; simp [hy]
        · simp [hy, hx]
theorem count_map {φ : Nat → ZZ} {x : Nat} : ∀ {L : List Nat}, L.Nodup → (∀ a, ((φ a).1 == (x : Int)) = (a == x)) → ((L.map φ).filter fun p => p.1 == (x : Int)).length = if x ∈ L then 1 else 0
  | [], _, _ => rfl
  | a :: r, hn, hφ => by
    rw [List.nodup_cons] at hn
    have ih := count_map (φ := φ) (x := x) hn.2 hφ
    rw [List.map_cons]
    by_cases h : a = x
    · subst h
      rw [List.filter_cons_of_pos (by rw [hφ]; simp), List.length_cons, ih, if_neg hn.1]
      simp
    · rw [List.filter_cons_of_neg (by rw [hφ]; simpa using h), ih]
      have : x ≠ a := fun e => h e.symm
      simp [this]
theorem count_const {z x : Nat} : ∀ {L : List Nat}, ((L.map fun a => prZ z a).filter fun p => p.1 == (x : Int)).length = if x = z then L.length else 0
  | [] => by simp
  | a :: r => by
    have ih := count_const (z := z) (x := x) (L := r)
    rw [List.map_cons]
    by_cases h : x = z
    · subst h
      rw [List.filter_cons_of_pos (by simp [prZ]), List.length_cons, ih]
      simp
    · rw [List.filter_cons_of_neg (by simp [prZ]; omega), ih, if_neg h, if_neg h]
structure Gr (n : Nat) (s f : Nat → Nat) (o : List Nat) (ms : List ZZ) : Prop where
  lan : Lan f o
  lt : ∀ x ∈ o, x < n
  valid : ∀ p ∈ ms, zV (n : Int) p
  pw : ms.Pairwise zN
  out : ∀ x y : Nat, prZ x y ∈ ms → ¬ (x ∈ o ∧ y ∈ o)
  len : ms.length + halfN o.length = halfN n
  win : ∀ x, x < n → (ms.filter fun p => p.1 == (x : Int)).length + (if x ∈ o then f x else 0) = s x
theorem Gr.zero {n : Nat} {s : Nat → Nat} (h : Lan s (List.range n)) : Gr n s s (List.range n) [] :=
  ⟨h, fun x hx => List.mem_range.1 hx, by simp, .nil, by simp, by simp, fun x hx => by simp [hx]⟩
theorem Gr.step {n : Nat} {s f : Nat → Nat} {o : List Nat} {z : Nat} {ms : List ZZ} (h : Gr n s f (o ++ [z]) ms) (hs : (o ++ [z]).Pairwise fun a b => f a ≤ f b) :
    Gr n s (procG z (f z) 0 o ms f).2 o (procG z (f z) 0 o ms f).1 := by
  obtain ⟨hlan, hlt, hval, hpw, hout, hlen, hwin⟩ := h
  obtain ⟨h1, h2, h3⟩ := hlan.step hs
  have hn := hlan.nodup
  obtain ⟨hno, _, hdz⟩ := List.nodup_append.1 hn
  have hz : z ∉ o := fun hm => hdz z hm z (by simp) rfl
  have hzn : z < n := hlt z (by simp)
  rw [procG_eq o 0 ms f hno, Nat.sub_zero]
  have hAB : o.take (f z) ++ o.drop (f z) = o := List.take_append_drop ..
  have hAl : (o.take (f z)).length = f z := by rw [List.length_take]; omega
  have hBl : (o.drop (f z)).length = o.length - f z := List.length_drop ..
  generalize hA : o.take (f z) = A at *
  generalize hB : o.drop (f z) = B at *
  have hno2 := hno
  rw [← hAB] at hno2
  obtain ⟨hnA, hnB, hdis⟩ := List.nodup_append.1 hno2
  have memo : ∀ {x}, x ∈ o ↔ x ∈ A ∨ x ∈ B := fun {x} => by rw [← hAB, List.mem_append]
  have hol : ∀ x ∈ o, x < n ∧ x ≠ z := fun x hx => ⟨hlt x (List.mem_append_left _ hx), fun e => hz (e ▸ hx)⟩
  have hnew : ∀ p ∈ A.map (fun x => prZ z x) ++ B.map (fun x => prZ x z), ∃ x ∈ o, p = prZ z x ∨ p = prZ x z := fun p hp => by
    rcases List.mem_append.1 hp with hp | hp
    · obtain ⟨x, hx, rfl⟩ := List.mem_map.1 hp
      exact ⟨x, memo.2 (.inl hx), .inl rfl⟩
    · obtain ⟨x, hx, rfl⟩ := List.mem_map.1 hp
      exact ⟨x, memo.2 (.inr hx), .inr rfl⟩
  have hinj : ∀ {a b c d : Nat}, prZ a b = prZ c d → a = c ∧ b = d := fun {a b c d} e => by
    simp only [prZ, Prod.mk.injEq] at e; omega
  have hsw : ∀ {a b : Nat}, swZ (prZ a b) = prZ b a := rfl
  refine ⟨h3, fun x hx => (hol x hx).1, fun p hp => ?_, ?_, fun x y hp hxy => ?_, ?_, fun x hx => ?_⟩
  · rw [List.append_assoc] at hp
    rcases List.mem_append.1 hp with hp | hp
    · exact hval p hp
    · obtain ⟨x, hx, e⟩ := hnew p hp
      have := hol x hx
      rcases e with rfl | rfl <;> exact ⟨by simp [prZ], by simp [prZ], by simp [prZ]; omega, by simp [prZ]; omega, by simp [prZ]; omega⟩
  · rw [List.append_assoc, List.pairwise_append]
    refine ⟨hpw, ?_, fun p hp q hq => ?_⟩
    · rw [List.pairwise_append]
      refine ⟨?_, ?_, fun p hp q hq => ?_⟩
      · rw [List.pairwise_map]
        refine hnA.imp_of_mem fun {a b} ha hb hne => ⟨fun e => hne (hinj e).2.symm, fun e => ?_⟩
        rw [hsw] at e
        exact (hol b (memo.2 (.inl hb))).2 (hinj e).2
      · rw [List.pairwise_map]
        refine hnB.imp_of_mem fun {a b} ha hb hne => ⟨fun e => hne (hinj e).1.symm, fun e => ?_⟩
        rw [hsw] at e
        exact (hol b (memo.2 (.inr hb))).2 (hinj e).1
      · obtain ⟨a, ha, rfl⟩ := List.mem_map.1 hp
        obtain ⟨b, hb, rfl⟩ := List.mem_map.1 hq
        refine ⟨fun e => (hol b (memo.2 (.inr hb))).2 (hinj e).1, fun e => ?_⟩
        rw [hsw] at e
        exact hdis a ha b hb (hinj e).1.symm
    · obtain ⟨x, y, _, _, _, rfl⟩ := zV_nat (hval p hp)
      obtain ⟨b, hb, e⟩ := hnew q hq
      have h4 := hout x y hp
      have hbo : b ∈ o ++ [z] := List.mem_append_left _ hb
      have hzo : z ∈ o ++ [z] := by simp
      refine ⟨fun e2 => ?_, fun e2 => ?_⟩
      · rcases e with rfl | rfl
        · obtain ⟨rfl, rfl⟩ := hinj e2; exact h4 ⟨hzo, hbo⟩
        · obtain ⟨rfl, rfl⟩ := hinj e2; exact h4 ⟨hbo, hzo⟩
      · have e3 : q = prZ y x := e2
        rcases e with rfl | rfl
        · obtain ⟨rfl, rfl⟩ := hinj e3; exact h4 ⟨hbo, hzo⟩
        · obtain ⟨rfl, rfl⟩ := hinj e3; exact h4 ⟨hzo, hbo⟩
  · rw [List.append_assoc] at hp
    rcases List.mem_append.1 hp with hp | hp
    · exact hout x y hp ⟨List.mem_append_left _ hxy.1, List.mem_append_left _ hxy.2⟩
    · obtain ⟨b, hb, e⟩ := hnew _ hp
      rcases e with e | e
      · obtain ⟨rfl, rfl⟩ := hinj e; exact hz hxy.1
      · obtain ⟨rfl, rfl⟩ := hinj e; exact hz hxy.2
  · rw [List.length_append, List.length_singleton, halfN_succ] at hlen
    simp only [List.length_append, List.length_map]
    omega
  · have hw := hwin x hx
    rw [List.filter_append, List.filter_append, List.length_append, List.length_append, count_const, count_map hnB (fun a => by simp only [prZ]; rw [Bool.eq_iff_iff]; simp; omega), hAl]
    by_cases hxz : x = z
    · subst hxz
      have hxB : x ∉ B := fun hm => hz (memo.2 (.inr hm))
      rw [if_pos (by simp)] at hw
      rw [if_pos rfl, if_neg hxB, if_neg hz]
      omega
    · rw [if_neg hxz]
      by_cases hxo : x ∈ o
      · rw [if_pos (List.mem_append_left _ hxo)] at hw
        rw [if_pos hxo]
        by_cases hxB : x ∈ B
        · have := h2 x hxB
          have e : decB f B x = f x - 1 := if_pos hxB
          rw [if_pos hxB]
          show _ + decB f B x = _
          rw [e]; omega
        · have e : decB f B x = f x := if_neg hxB
          rw [if_neg hxB]
          show _ + decB f B x = _
          rw [e]; omega
      · have hxB : x ∉ B := fun hm => hxo (memo.2 (.inr hm))
        rw [if_neg (by simp [hxo, hxz])] at hw
        rw [if_neg hxo, if_neg hxB]; omega
theorem Gr.done {n : Nat} {s f : Nat → Nat} {o : List Nat} {ms : List ZZ} (h : Gr n s f o ms) (hl : o.length ≤ 1) (h1 : 1 ≤ n) (h7 : n ≤ 7) :
    OkC n ms ∧ ∀ x, x < n → ((List.range n).filter (bitL ms x)).length = s x := by
  have hlen := h.len
  have h0 : halfN o.length = 0 := by
    have : o.length = 0 ∨ o.length = 1 := by omega
    rcases this with e | e <;> rw [e] <;> rfl
  refine ⟨OkC.mk' h7 h1 (chkF_iff0.2 ⟨h.valid, h.pw⟩) (by omega), fun x hx => ?_⟩
  have hw := h.win x hx
  have hf : (if x ∈ o then f x else 0) = 0 := by
    split
    · rename_i hxo
      have heq := h.lan.eq
      rw [h0] at heq
      have hm : f x ∈ o.map f := List.mem_map.2 ⟨x, hxo, rfl⟩
      have : ∀ {l : List Nat}, l.sum = 0 → ∀ y ∈ l, y = 0 := by
        intro l
        induction l with
        | nil => intro _ y hy; simp at hy
        | cons a r ih =>
          intro hs y hy
          rw [List.sum_cons] at hs
          rcases List.mem_cons.1 hy with rfl | hy
          · omega
          · exact ih (by omega) y hy
      exact this heq _ hm
    · rfl
  rw [hf, Nat.add_zero] at hw
  rw [← hw]
  have hL : ((ms.filter fun p => p.1 == (x : Int)).map fun p => p.2.toNat).Perm ((List.range n).filter (bitL ms x)) := by
    rw [List.perm_ext_iff_of_nodup ?_ (List.nodup_range.filter _)]
    · intro y
      rw [List.mem_map, List.mem_filter, List.mem_range, bitL_iff]
      constructor
      · rintro ⟨p, hp, rfl⟩
        rw [List.mem_filter, beq_iff_eq] at hp
        obtain ⟨a, b, ha, hb, _, rfl⟩ := zV_nat (h.valid p hp.1)
        simp only at hp
        obtain ⟨hp1, hp2⟩ := hp
        refine ⟨by simpa using hb, ?_⟩
        rw [← hp2]
        simpa using hp1
      · rintro ⟨hy, hm⟩
        exact ⟨_, List.mem_filter.2 ⟨hm, by simp⟩, by simp⟩
    · unfold List.Nodup
      rw [List.pairwise_map]
      refine (h.pw.filter _).imp_of_mem fun {p q} hp hq hpq e => ?_
      rw [List.mem_filter, beq_iff_eq] at hp hq
      obtain ⟨a, b, ha, hb, _, rfl⟩ := zV_nat (h.valid p hp.1)
      obtain ⟨c, d, hc, hd, _, rfl⟩ := zV_nat (h.valid q hq.1)
      simp only [Int.toNat_natCast] at e hp hq
      refine hpq.1 ?_
      rw [← e, hp.2, hq.2]
  have := hL.length_eq
  rw [List.length_map] at this
  exact this.symm
end Go.Proofs.Ytngoldipfgfecaa.Code
end
section
namespace Go.Proofs.Ytngoldipfgfecaa.Code
open Go Go.Ab
end Go.Proofs.Ytngoldipfgfecaa.Code
end
section
namespace Go.Proofs.Ytngoldipfgfecaa.Code
open Go Go.Ab
end Go.Proofs.Ytngoldipfgfecaa.Code
end
end
section
namespace Go.Proofs.Ytngoldipfgfecaa.Code
open Go Go.Ab
/-! numbers with given digits -/
theorem bits_ex (q : Nat → Bool) : ∀ k : Nat, ∃ T : Nat, ∀ i, T.testBit i = (decide (i < k) && q i)
  | 0 => ⟨0, fun i => by simp⟩
  | k + 1 => by
    obtain ⟨T, hT⟩ := bits_ex q k
    cases hq : q k
    · refine ⟨T, fun i => ?_⟩
      rw [hT]
      by_cases h : i = k
      · subst h; simp [hq]
      · by_cases h1 : i < k
        · simp [h1, show i < k + 1 by omega]
        · simp [h1, show ¬ i < k + 1 by omega]
    · refine ⟨T ||| 2 ^ k, fun i => ?_⟩
      rw [Nat.testBit_or, hT, Nat.testBit_two_pow]
      by_cases h : i = k
      · subst h; simp [hq]
      · by_cases h1 : i < k
        · simp [h1, show i < k + 1 by omega, show ¬ k = i by omega]
        · simp [h1, show ¬ i < k + 1 by omega, show ¬ k = i by omega]
def prsL : List (Nat × Nat) := (List.range 7).flatMap fun x => (List.range x).map fun y => (x, y)
theorem prsL_get : ∀ x, x < 7 → ∀ y, y < x → prsL[tri x + y]? = some (x, y) := by decide
theorem bits_of (p : Nat → Nat → Bool) : ∃ T : Nat, ∀ x y, y < x → x < 7 → T.testBit (tri x + y) = p x y := by
  obtain ⟨T, hT⟩ := bits_ex (fun i => match prsL[i]? with | some (x, y) => p x y | none => false) 28
  refine ⟨T, fun x y h1 h2 => ?_⟩
  have h3 : tri x + y < 28 := (by decide : ∀ a, a < 7 → ∀ b, b < a → tri a + b < 28) x h2 y h1
  rw [hT, prsL_get x h2 y h1]
  simp [h3]
/-! a contest by places: the law -/
section
variable {n : Nat} {f : Nat → Nat → Bool} {F : Nat → Nat}
/-- who is nearer wins -/
structure Near (n : Nat) (f : Nat → Nat → Bool) (F : Nat → Nat) : Prop where
  beat : ∀ x y, x < n → y < n → (f x y = true ↔ F x < F y)
  inj : ∀ x y, x < n → y < n → F x = F y → x = y
/-- those before and behind one in a list in order -/
theorem sort_cut : ∀ {L : List Nat} {k : Nat}, (∀ x ∈ L, x < n) → L.Pairwise (fun a b => F a < F b) → Near n f F → ∀ hk : k < L.length,
    L.filter (fun y => f y L[k]) = L.take k ∧ L.filter (f L[k]) = L.drop (k + 1)
  | [], k, _, _, _, hk => by simp at hk
  | x :: r, 0, hL, hs, hN, hk => by
    have hs' := List.pairwise_cons.1 hs
    have hx : x < n := hL x (List.mem_cons_self ..)
    have hxx : f x x = false := by
      cases h : f x x
      · rfl
      · exact absurd ((hN.beat x x hx hx).1 h) (Nat.lt_irrefl _)
    have h1 : ∀ y ∈ r, f y x = false := fun y hy => by
      cases h : f y x
      · rfl
      · have a := (hN.beat y x (hL y (List.mem_cons_of_mem _ hy)) hx).1 h
        have b := hs'.1 y hy
        omega
    have h2 : ∀ y ∈ r, f x y = true := fun y hy => (hN.beat x y hx (hL y (List.mem_cons_of_mem _ hy))).2 (hs'.1 y hy)
    constructor
    · simp only [List.getElem_cons_zero, List.take_zero]
      rw [List.filter_eq_nil_iff]
      intro y hy
      rcases List.mem_cons.1 hy with rfl | hy
      · simp [hxx]
      · simp [h1 y hy]
    · simp only [List.getElem_cons_zero]
      rw [List.filter_cons, hxx]
      simp only [Bool.false_eq_true, if_false, Nat.zero_add, List.drop_succ_cons, List.drop_zero]
      exact List.filter_eq_self.2 h2
  | x :: r, k + 1, hL, hs, hN, hk => by
    have hs' := List.pairwise_cons.1 hs
    have hx : x < n := hL x (List.mem_cons_self ..)
    have hk' : k < r.length := by simpa using hk
    obtain ⟨i1, i2⟩ := sort_cut (fun y hy => hL y (List.mem_cons_of_mem _ hy)) hs'.2 hN hk'
    have hm : r[k] ∈ r := List.getElem_mem hk'
    have hrk : r[k] < n := hL _ (List.mem_cons_of_mem _ hm)
    have hlt := hs'.1 _ hm
    have h1 : f x r[k] = true := (hN.beat _ _ hx hrk).2 hlt
    have h2 : f r[k] x = false := by
      cases h : f r[k] x
      · rfl
      · have := (hN.beat _ _ hrk hx).1 h; omega
    simp only [List.getElem_cons_succ, List.filter_cons, h1, h2, if_true, i1, i2]
    simp
/-- a list of all in order -/
structure Full (n : Nat) (F : Nat → Nat) (L : List Nat) : Prop where
  nodup : L.Nodup
  lt : ∀ x ∈ L, x < n
  len : L.length = n
  sort : L.Pairwise (fun a b => F a < F b)
theorem Full.perm {L : List Nat} (h : Full n F L) : L.Perm (List.range n) := by
  rw [List.perm_ext_iff_of_nodup h.nodup List.nodup_range]
  intro u
  rw [List.mem_range]
  refine ⟨h.lt u, fun hu => Decidable.byContradiction fun hc => ?_⟩
  have := sub_len (l := u :: L) (m := List.range n) (List.nodup_cons.2 ⟨hc, h.nodup⟩) (fun x hx => by
    rcases List.mem_cons.1 hx with rfl | hx
    · exact List.mem_range.2 hu
    · exact List.mem_range.2 (h.lt x hx))
  have hl := h.len
  simp only [List.length_cons, List.length_range] at this
  omega
theorem Full.before (hN : Near n f F) {L : List Nat} (h : Full n F L) {k : Nat} (hk : k < L.length) : ((List.range n).filter (fun y => f y L[k])).length = k := by
  rw [← (h.perm.filter _).length_eq, (sort_cut h.lt h.sort hN hk).1, List.length_take]
  omega
theorem Full.uniq (hN : Near n f F) {L M : List Nat} (h : Full n F L) (h' : Full n F M) : L = M := by
  apply List.ext_getElem (by rw [h.len, h'.len])
  intro k h1 h2
  have hm : L[k] ∈ M := h'.perm.mem_iff.2 (h.perm.mem_iff.1 (List.getElem_mem h1))
  obtain ⟨j, hj, e⟩ := List.mem_iff_getElem.1 hm
  have a := h.before hN h1
  have b := h'.before hN hj
  rw [e] at b
  obtain rfl : j = k := by omega
  exact e.symm
theorem chain_sort (hN : Near n f F) : ∀ {L : List Nat}, (∀ x ∈ L, x < n) → chainL f L → L.Pairwise (fun a b => F a < F b)
  | [], _, _ => List.Pairwise.nil
  | [a], _, _ => List.pairwise_singleton _ _
  | a :: b :: r, hL, h => by
    have ha : a < n := hL a (List.mem_cons_self ..)
    have hb : b < n := hL b (List.mem_cons_of_mem _ (List.mem_cons_self ..))
    have ih := chain_sort hN (L := b :: r) (fun x hx => hL x (List.mem_cons_of_mem _ hx)) h.2
    have hab := (hN.beat a b ha hb).1 h.1
    refine List.pairwise_cons.2 ⟨fun y hy => ?_, ih⟩
    rcases List.mem_cons.1 hy with rfl | hy
    · exact hab
    · have := (List.pairwise_cons.1 ih).1 y hy; omega
theorem full_of (hN : Near n f F) {L : List Nat} (h : L ∈ rowsR f n n []) : Full n F L := by
  obtain ⟨hv, hl⟩ := rows_iff.1 h
  exact ⟨hv.nodup, hv.lt, hl, chain_sort hN hv.lt hv.chain⟩
theorem rows_single (hN : Near n f F) (hone : ∀ x y, x < n → y < n → x ≠ y → f x y = !f y x) : ∃ L, rowsR f n n [] = [L] ∧ Full n F L := by
  have h1 := rows_ne hone
  have h2 := rowsR_nodup (f := f) (n := n) n []
  have h3 : ∀ L ∈ rowsR f n n [], Full n F L := fun L hL => full_of hN hL
  generalize rowsR f n n [] = R at h1 h2 h3
  cases R with
  | nil => exact absurd rfl h1
  | cons L r =>
    cases r with
    | nil => exact ⟨L, rfl, h3 L (List.mem_cons_self ..)⟩
    | cons M r =>
      exfalso
      have e := (h3 L (List.mem_cons_self ..)).uniq hN (h3 M (List.mem_cons_of_mem _ (List.mem_cons_self ..)))
      exact (List.nodup_cons.1 h2).1 (by rw [e]; exact List.mem_cons_self ..)
end
end Go.Proofs.Ytngoldipfgfecaa.Code
end
