/-
  Part of the proofs about this chapter: contracts of functions, answers of calls, and plain laws.
-/
import Derived.Test.YtngoldipfgfecaaCall
set_option linter.all false
section
section
namespace Go.Proofs.Ytngoldipfgfecaa.Code
open Go Go.Ab
attribute [go_sem ↓] wpop_app
variable {pure : Bool} {base bar : Nat} {H : Heap} {Q : AV → Heap → Prop}
/-- is a number from a to b -/
def within (a b n : Int) : Bool := decide (a ≤ n) && decide (n ≤ b)
theorem k86 {n a b : Int} : WpCall E pure base bar 86 [.int .i64 a, .int .i64 n, .int .i64 b] H Q ↔ Q (.bool (within a b n)) H := by
  rw [call86]
  simp [go_sem, WpFun, c86]
  unfold within
  by_cases h : a ≤ n <;> simp [h]
def tz8 (s : Nat) : Nat := ((List.range 8).find? (s.testBit ·)).getD 8
theorem tz8_tab : ∀ i, i < 256 → c89_b0[i]? = some (tz8 i).toUInt8 := by decide +kernel
theorem tz8_lt (s : Nat) : tz8 s ≤ 8 := by
  unfold tz8
  cases h : (List.range 8).find? (s.testBit ·) with
  | none => simp
  | some i => have := List.mem_of_find?_eq_some h; simp at this; simp; omega
theorem k89 {s : Nat} (hs : s < 256) : WpCall E pure base bar 89 [.int .u8 s] H Q ↔ Q (.int .i64 (tz8 s)) H := by
  rw [call89]
  have h2 := tz8_lt s
  simp [go_sem, WpFun, c89, aop, AV.asNat, tz8_tab s hs]
  rw [show ((tz8 s : Nat) : Int) % 256 = tz8 s by omega, i64_nat (by omega)]
/-- the people of a set -/
def bitsOf (s : Nat) : List Nat := (List.range 8).filter (s.testBit ·)
theorem bits_step : ∀ s, s < 256 → s ≠ 0 → bitsOf s = tz8 s :: bitsOf (band s (s - 1)) ∧ band s (s - 1) < s := by decide +kernel
theorem bits_zero : bitsOf 0 = [] := by decide
theorem bits_len (s : Nat) : (bitsOf s).length ≤ 8 := by
  unfold bitsOf
  exact Nat.le_trans (List.length_filter_le _ _) (by simp)
theorem u8_sub1 {s : Nat} (hs : s < 256) (h0 : s ≠ 0) : IntKind.u8.wrap ((s : Int) - 1) = ((s - 1 : Nat) : Int) := by
  rw [show (s : Int) - 1 = ((s - 1 : Nat) : Int) by omega, u8_nat (by omega)]
theorem l67 (H0 : Heap) (hb : bar ≤ H0.length) (hbase : base ≤ H0.length) {R : PQ} : ∀ (s : Nat), s < 256 → ∀ (done : List Nat) (v : AV) (H : Heap), Grow 1 (nats done) H0 v H → done.length + (bitsOf s).length ≤ 1000 →
    (∀ v' H', Grow 1 (nats (done ++ bitsOf s)) H0 v' H' → R (.exit 0) [(0, .int .u8 0), (3, v'), (5, .bool false)] H') →
    Wp E base bar (.loop c67_l0) [(0, .int .u8 s), (3, v)] H R := by
  intro s
  induction s using Nat.strongRecOn with
  | _ s ih =>
    intro hs done v H hg hl h
    rw [wp_round c67_l0.eq_1]
    simp [go_sem]
    by_cases h0 : s = 0
    · subst h0
      simp [go_sem]
      exact h v H (by simpa [bits_zero] using hg)
    · have e := bits_step s hs h0
      simp [go_sem, h0, k89 hs, aop, fillA, setCells, chunks, AV.noVec.noVecs, AV.noVec]
      rw [e.1] at hl
      simp at hl
      refine hg.nat hb hbase (by omega) fun v' H' tc g' => ?_
      simp [go_sem, u8_sub1 hs h0, and_u8 hs (show s - 1 < 256 by omega)]
      refine ih _ e.2 (by omega) _ _ _ g' (by simp; omega) fun v'' H'' g'' => h _ _ ?_
      rw [e.1]; simpa using g''
theorem k67 {s : Nat} (hs : s < 256) (hb : bar ≤ H.length) (h : Q (outL 1 (nats (bitsOf s))) H) : WpCall E pure base bar 67 [.int .u8 s] H Q := by
  rw [call67]
  have hb := bar_ok (pure := pure) hb
  simp [go_sem, WpFun, c67] at hb ⊢
  refine l67 H hb (Nat.le_refl _) s hs [] _ _ .nil (by have := bits_len s; simp; omega) fun v' H' g => ?_
  simp [go_sem]
  refine g.out hb (Nat.le_refl _) ?_
  simpa using h
theorem upd_lt {w : Nat → Nat} {i x : Nat} (hw : ∀ j, w j < 256) (hx : x < 256) : ∀ j, upd w i x j < 256 := fun j => by unfold upd; split <;> simp [*]
theorem k64_tab : ∀ i, i < 256 → c64_b0[i]? = some (bitsOf i).length.toUInt8 := by decide +kernel
theorem k64 {s : Nat} (hs : s < 256) : WpCall E pure base bar 64 [.int .u8 s] H Q ↔ Q (.int .i64 ((bitsOf s).length : Nat)) H := by
  rw [call64]
  have h2 := bits_len s
  have e : (((bitsOf s).length : Nat) : Int) % 256 = (bitsOf s).length := by omega
  simp [go_sem, WpFun, c64, aop, AV.asNat, k64_tab s hs, e, i64_nat (show (bitsOf s).length < 9223372036854775808 by omega)]
theorem i64_suc {i : Nat} (h : i < 1000000) : IntKind.i64.wrap ((i : Int) + 1) = ((i + 1 : Nat) : Int) := by
  rw [show (i : Int) + 1 = ((i + 1 : Nat) : Int) by omega, i64_nat (by omega)]
theorem natEq {a b : Nat} : ((a : Int) = (b : Int)) ↔ a = b := by omega
theorem filter_range_cut {p : Nat → Bool} {m : Nat} : ∀ (d : Nat), (∀ c, m ≤ c → c < m + d → p c = false) → (List.range (m + d)).filter p = (List.range m).filter p
  | 0, _ => rfl
  | d + 1, h => by
    rw [← Nat.add_assoc, List.range_succ, List.filter_append, filter_range_cut d fun c h1 h2 => h c h1 (by omega)]
    have : [m + d].filter p = [] := by simp [h (m + d) (by omega) (by omega)]
    rw [this, List.append_nil]
theorem sub_len : ∀ {l m : List Nat}, l.Nodup → (∀ x ∈ l, x ∈ m) → l.length ≤ m.length
  | [], _, _, _ => by simp
  | x :: r, m, hn, h => by
    rw [List.nodup_cons] at hn
    have hx := h x (List.mem_cons_self ..)
    have h2 : ∀ y ∈ r, y ∈ m.erase x := fun y hy => by
      have hne : y ≠ x := fun hc => hn.1 (hc ▸ hy)
      exact (List.mem_erase_of_ne hne).2 (h y (List.mem_cons_of_mem _ hy))
    have := sub_len hn.2 h2
    rw [List.length_erase_of_mem hx] at this
    have := List.length_pos_of_mem hx
    rw [List.length_cons]; omega
theorem eqWp_flat2 {neg : Bool} {k1 k2 : IntKind} {a b c d : Int} {K : AV → Heap → List Nat → Prop} :
    eqWp neg (.flat [false, false]) (some (.agg [.int k1 a, .int k2 b])) (some (.agg [.int k1 c, .int k2 d])) H K = K (.bool (if neg then !(a == c && b == d) else (a == c && b == d))) H [] := by
  cases h1 : (a == c) <;> cases h2 : (b == d) <;> simp [eqWp, aeq, eqCells, eqCell, h1, h2]
/-- do two quarrel in a list -/
theorem isP.cut {q : AV} {l : List ZZ} (hq : isP q l) {i : Nat} (hi : i < l.length) : ∃ q', aslice H (.slc 2) q none (some (.int .i64 (i : Int))) none = some q' ∧ isP q' (l.take i) := by
  rcases hq with ⟨rfl, rfl⟩ | ⟨ex, rfl⟩
  · simp at hi
  · refine ⟨.lst 2 (ex && i == l.length) (prA (l.take i)), ?_, .inr ⟨_, rfl⟩⟩
    have hl : (prA l).length = l.length := by simp [prA]
    simp [aslice, optBound, bound1, AV.asNat, hl, Nat.le_of_lt hi]
    simp [prA, List.map_take]
def tri : Nat → Nat
  | 0 => 0
  | b + 1 => tri b + b
end Go.Proofs.Ytngoldipfgfecaa.Code
end
section
namespace Go.Proofs.Ytngoldipfgfecaa.Code
open Go Go.Ab
variable {pure : Bool} {base bar : Nat} {H : Heap} {Q : AV → Heap → Prop}
section
variable {K : AV → Heap → List Nat → Prop}
/-- a row of a number and seven sets -/
def bcells (n : Nat) (w : Nat → Nat) : List AV := .int .i64 (n : Int) :: (List.range 7).map fun a => .int .u8 ((w a : Nat) : Int)
theorem bcells_length {n : Nat} {w : Nat → Nat} : (bcells n w).length = 8 := by simp [bcells]
theorem bcells_n {n : Nat} {w : Nat → Nat} : (bcells n w)[0]? = some (.int .i64 (n : Int)) := rfl
theorem bcells_get {n i : Nat} {w : Nat → Nat} (hi : i < 7) : (bcells n w)[1 + i]? = some (.int .u8 ((w i : Nat) : Int)) := by
  rw [Nat.add_comm]; simp [bcells, hi]
theorem bcells_set {n i x : Nat} {w : Nat → Nat} (hi : i < 7) : setCells (bcells n w) (1 + i) [.int .u8 (x : Int)] = bcells n (upd w i x) := by
  simp only [setCells]
  apply List.ext_getElem?
  intro j
  rw [List.getElem?_set]
  rcases j with _ | j
  · rw [if_neg (by omega)]; rfl
  · by_cases hj : 1 + i = j + 1
    · obtain rfl : i = j := by omega
      rw [if_pos (by omega)]
      simp [bcells, upd, hi]; omega
    · rw [if_neg hj]
      by_cases h8 : j < 7
      · simp [bcells, upd, h8, show ¬ j = i by omega]
      · simp [bcells, h8]
theorem bcells_plain {n : Nat} {w : Nat → Nat} : ∀ c ∈ bcells n w, Plain c := fun c hc => by
  simp only [bcells, List.mem_cons, List.mem_map] at hc
  rcases hc with rfl | ⟨a, _, rfl⟩ <;> exact Plain.int
theorem bcells_tops {n : Nat} {w : Nat → Nat} : AV.top.tops (bcells n w) = 0 := tops_zero fun x hx => by
  simp only [bcells, List.mem_cons, List.mem_map] at hx
  rcases hx with rfl | ⟨a, _, rfl⟩ <;> rfl
theorem storeB {base id ver n i x : Nat} {ex : Bool} {w : Nat → Nat} (hid : H[id]? = some (.row ver (bcells n w) 0 ex)) (hi : i < 7) (hb : bar ≤ id) :
    storeWp base bar 1 (.ptr id ver (1 + i)) (.int .u8 (x : Int)) H K = K (.tup []) (H.set id (.row ver (bcells n (upd w i x)) 0 ex)) [id] := by
  rw [storeWp_ptr (size := 1) hid rfl rfl (by omega) (by rw [bcells_length]; omega) hb (.inr (by simp [AV.cells, tops_cons, tops_nil, top_int]))]
  simp only [AV.cells, bcells_set hi]
theorem loadB {id ver n i s : Nat} {ex : Bool} {w : Nat → Nat} {fz : Nat} (hid : H[id]? = some (.row ver (bcells n w) fz ex)) (hi : i < 7) :
    aload H ⟨false, s⟩ (.ptr id ver (1 + i)) = some (.int .u8 ((w i : Nat) : Int)) := by
  rw [aload_ptr hid, part_one, bcells_get hi]
theorem loadBN {id ver n s : Nat} {ex : Bool} {w : Nat → Nat} {fz : Nat} (hid : H[id]? = some (.row ver (bcells n w) fz ex)) :
    aload H ⟨false, s⟩ (.ptr id ver 0) = some (.int .i64 (n : Int)) := by
  rw [aload_ptr hid, part_one, bcells_n]
end
/-! who beat whom, as 49 cells -/
def gcells (f : Nat → Nat → Bool) : List AV := (List.range 49).map fun i => .bool (f (i / 7) (i % 7))
def upd2 (f : Nat → Nat → Bool) (a b : Nat) (x : Bool) : Nat → Nat → Bool := fun i j => if i = a ∧ j = b then x else f i j
@[go_sem] theorem gcells_tops {f : Nat → Nat → Bool} : AV.top.tops (gcells f) = 0 := tops_zero fun x hx => by
  simp only [gcells, List.mem_map] at hx
  obtain ⟨a, _, rfl⟩ := hx; rfl
@[go_sem] theorem gcells_noVec {f : Nat → Nat → Bool} : AV.noVec.noVecs (gcells f) = true := by
  unfold gcells
  generalize List.range 49 = l
  induction l with
  | nil => rfl
  | cons x r ih => simpa [AV.noVec.noVecs, AV.noVec] using ih
/-! who is met: seven cells -/
def mcells (f : Nat → Bool) : List AV := (List.range 7).map fun i => .bool (f i)
@[go_sem] theorem mcells_tops {f : Nat → Bool} : AV.top.tops (mcells f) = 0 := tops_zero fun x hx => by
  simp only [mcells, List.mem_map] at hx
  obtain ⟨a, _, rfl⟩ := hx; rfl
@[go_sem] theorem mcells_noVec {f : Nat → Bool} : AV.noVec.noVecs (mcells f) = true := by
  unfold mcells
  generalize List.range 7 = l
  induction l with
  | nil => rfl
  | cons x r ih => simpa [AV.noVec.noVecs, AV.noVec] using ih
@[go_sem] theorem mz : AV.agg [.bool false, .bool false, .bool false, .bool false, .bool false, .bool false, .bool false] = .agg (mcells fun _ => false) := rfl
@[go_sem] theorem gz : AV.agg [.bool false, .bool false, .bool false, .bool false, .bool false, .bool false, .bool false, .bool false, .bool false, .bool false, .bool false, .bool false, .bool false, .bool false, .bool false, .bool false, .bool false, .bool false, .bool false, .bool false, .bool false, .bool false, .bool false, .bool false, .bool false, .bool false, .bool false, .bool false, .bool false, .bool false, .bool false, .bool false, .bool false, .bool false, .bool false, .bool false, .bool false, .bool false, .bool false, .bool false, .bool false, .bool false, .bool false, .bool false, .bool false, .bool false, .bool false, .bool false, .bool false] = .agg (gcells fun _ _ => false) := rfl
end Go.Proofs.Ytngoldipfgfecaa.Code
end
section
namespace Go.Proofs.Ytngoldipfgfecaa.Code
open Go Go.Ab
variable {pure : Bool} {base bar : Nat} {H : Heap} {Q : AV → Heap → Prop}
/-- have two met -/
def qin (l : List ZZ) (a b : Int) : Bool := l.any fun p => (p.1 == a && p.2 == b) || (p.1 == b && p.2 == a)
def chkF (n : Int) : List ZZ → List ZZ → Int
  | _, [] => 0
  | b, p :: r => if p.1 < 0 ∨ p.2 < 0 ∨ n ≤ p.1 ∨ n ≤ p.2 then 2 else if p.1 = p.2 then 13 else if qin b p.1 p.2 = true then 6 else chkF n (b ++ [p]) r
def halfN (n : Nat) : Nat := n * (n - 1) / 2
/-- the error of a contest -/
def checkS (n : Int) (l : List ZZ) : Int := if within 1 7 n = true then (if chkF n [] l = 0 then (if l.length < halfN n.toNat then 21 else 0) else chkF n [] l) else 1
theorem l63a {n : Int} {q q' : AV} {b : List ZZ} {p1 p2 : Int} (hq : isP q' b) (hqt : q.top = 0) (hb : b.length < 1000) {len i : Nat} (hbar : bar ≤ H.length) {R : PQ} : ∀ (k j : Nat), j + k = b.length →
    (qin (b.drop j) p1 p2 = true → ∀ H', H'.take H.length = H → R .ret [(2, .int .i64 6)] H') →
    (qin (b.drop j) p1 p2 = false → R (.exit 3) [(1, .ptr H.length 0 0), (12, q), (13, .int .i64 (len : Nat)), (14, .int .i64 (i : Nat)), (4, .ptr (H.length + 1) 0 0), (45, q'), (46, .int .i64 (b.length : Nat)), (47, .int .i64 (b.length : Nat)), (48, .bool false)] (H ++ [.row 0 [.int .i64 n, q] 0 true, .row 0 [.int .i64 p1, .int .i64 p2] 0 true])) →
    Wp E base bar (.loop c63_l0) [(1, .ptr H.length 0 0), (12, q), (13, .int .i64 (len : Nat)), (14, .int .i64 (i : Nat)), (4, .ptr (H.length + 1) 0 0), (45, q'), (46, .int .i64 (b.length : Nat)), (47, .int .i64 (j : Nat))] (H ++ [.row 0 [.int .i64 n, q] 0 true, .row 0 [.int .i64 p1, .int .i64 p2] 0 true]) R := by
  intro k
  induction k with
  | zero =>
    intro j hj h1 h2
    obtain rfl : j = b.length := by omega
    rw [wp_round c63_l0.eq_1]
    simp [go_sem]
    exact h2 (by simp [qin])
  | succ k ih =>
    intro j hj h1 h2
    have hlt : j < b.length := by omega
    obtain ⟨⟨a, c⟩, hp⟩ : ∃ p, b[j] = p := ⟨_, rfl⟩
    have hst : qin (b.drop j) p1 p2 = ((a == p1 && c == p2 || a == p2 && c == p1) || qin (b.drop (j + 1)) p1 p2) := by
      rw [List.drop_eq_getElem_cons hlt, hp]; simp [qin]
    rw [hst] at h1 h2
    rw [wp_round c63_l0.eq_1]
    simp [go_sem, hlt, hq.ix hlt, hp, zc, storeWp, astore, own_get, own_set, setCells, show bar ≤ H.length + 2 by omega, aload, Ab.part, eqWp_flat2]
    by_cases c901 : a = p1 ∧ c = p2
    · obtain ⟨rfl, rfl⟩ := c901
      simp [go_sem]
      exact h1 (by simp) _ (by simp)
    · have e1 : (a == p1 && c == p2) = false := by simpa using fun h => by simpa using fun h2 => c901 ⟨h, h2⟩
      by_cases c902 : a = p2 ∧ c = p1
      · obtain ⟨rfl, rfl⟩ := c902
        simp [go_sem, e1, own_get, aload, Ab.part, fillA, setCells, eqWp_flat2]
        exact h1 (by simp) _ (by simp)
      · have e2 : (a == p2 && c == p1) = false := by simpa using fun h => by simpa using fun h2 => c902 ⟨h, h2⟩
        simp only [e1, e2, Bool.false_or] at h1 h2
        simp [go_sem, e1, e2, own_get, aload, Ab.part, fillA, setCells, eqWp_flat2, i64_suc (show j < 1000000 by omega)]
        rw [if_pos (fun h h2 => c901 ⟨h, h2⟩), if_neg c902]
        exact ⟨by rw [hqt, hq.top]; omega, ih (j + 1) (by omega) h1 h2⟩
theorem l63 {n : Int} {q : AV} {l : List ZZ} (hq : isP q l) (hl : l.length < 1000) (hbar : bar ≤ H.length) {R : PQ} : ∀ (k i : Nat), i + k = l.length →
    (∀ e H', chkF n (l.take i) (l.drop i) = e → e ≠ 0 → H'.take H.length = H → R .ret [(2, .int .i64 e)] H') →
    (chkF n (l.take i) (l.drop i) = 0 → R (.exit 0) [(1, .ptr H.length 0 0), (12, q), (13, .int .i64 (l.length : Nat)), (14, .int .i64 (l.length : Nat)), (15, .bool false)] (H ++ [.row 0 [.int .i64 n, q] 0 true])) →
    Wp E base bar (.loop c63_l1) [(1, .ptr H.length 0 0), (12, q), (13, .int .i64 (l.length : Nat)), (14, .int .i64 (i : Nat))] (H ++ [.row 0 [.int .i64 n, q] 0 true]) R := by
  intro k
  induction k with
  | zero =>
    intro i hi h1 h2
    obtain rfl : i = l.length := by omega
    rw [wp_round c63_l1.eq_1]
    simp [go_sem]
    exact h2 (by rw [List.drop_length]; rfl)
  | succ k ih =>
    intro i hi h1 h2
    have hlt : i < l.length := by omega
    rw [wp_round c63_l1.eq_1]
    rw [List.drop_eq_getElem_cons hlt] at h1 h2
    obtain ⟨⟨a, b⟩, hp⟩ : ∃ p, l[i] = p := ⟨_, rfl⟩
    rw [hp] at h1 h2
    simp only [chkF] at h1 h2
    obtain ⟨q', hq1, hq2⟩ := isP.cut (H := H ++ [Blk.row 0 [.int .i64 n, q] 0 true, .row 0 [.int .i64 a, .int .i64 b] 0 true]) hq hlt
    have ht : ∀ L : Heap, (H ++ L).take H.length = H := fun L => by simp
    simp [go_sem, hlt, hq.ix hlt, hp, zc, storeWp, astore, own_get, own_set, setCells, show bar ≤ H.length + 1 by omega, aload, Ab.part, aop]
    by_cases h0 : a < 0 ∨ b < 0 ∨ n ≤ a ∨ n ≤ b
    · have g1 := h1 2 (H ++ [Blk.row 0 [.int .i64 n, q] 0 true, .row 0 [.int .i64 a, .int .i64 b] 0 true]) (by rw [if_pos h0]) (by decide) (ht _)
      by_cases h3 : 0 ≤ (if b < a then b else a)
      · have h4 : n ≤ (if a < b then b else a) := by split at h3 <;> split <;> omega
        simp [h3, h4, go_sem, own_get, own_get0, aload, Ab.part, aop]
        exact g1
      · simp [h3, go_sem]
        exact g1
    · rw [if_neg h0] at h1 h2
      have h3 : 0 ≤ (if b < a then b else a) := by split <;> omega
      have h4 : ¬ n ≤ (if a < b then b else a) := by split <;> omega
      by_cases hab : a = b
      · have g1 := h1 13 (H ++ [Blk.row 0 [.int .i64 n, q] 0 true, .row 0 [.int .i64 a, .int .i64 b] 0 true]) (by rw [if_pos hab]) (by decide) (ht _)
        simp [h3, h4, go_sem, own_get, own_get0, aload, Ab.part, aop, hab]
        subst hab
        rw [if_pos (show 0 ≤ a by omega), if_neg (show ¬ n ≤ a by omega)]
        exact g1
      · rw [if_neg hab] at h1 h2
        simp [h3, h4, go_sem, own_get, own_get0, aload, Ab.part, aop, hab, Opd.evo, hq1, hq2.len]
        rw [show ((min i l.length : Nat) : Int) = ((l.take i).length : Nat) by simp]
        refine l63a hq2 hq.top (by simp; omega) hbar (l.take i).length 0 (by omega) (fun hc H' hH => ?_) (fun hc => ?_)
        · rw [List.drop_zero] at hc
          rw [if_pos hc] at h1
          simp [go_sem]
          exact h1 6 H' rfl (by decide) hH
        · rw [List.drop_zero] at hc
          rw [if_neg (by simp [hc])] at h1 h2
          have hs : l.take i ++ [(a, b)] = l.take (i + 1) := by rw [List.take_succ_eq_append_getElem hlt, hp]
          rw [hs] at h1 h2
          simp [go_sem, hq.top, i64_suc (show i < 1000000 by omega)]
          exact ih (i + 1) (by omega) h1 h2
def prN (n : Nat) : Nat := n * (n - 1)
theorem k63 {n : Int} {q : AV} {l : List ZZ} (hq : isP q l) (hl : l.length < 1000) (hbar : bar ≤ H.length) (h : Q (.int .i64 (checkS n l)) H) : WpCall E pure base bar 63 [.agg [.int .i64 n, q]] H Q := by
  rw [call63]
  have hb' := bar_ok (pure := pure) hbar
  have ln : aload (H ++ [Blk.row 0 [.int .i64 n, q] 0 true]) ⟨false, 1⟩ (.ptr H.length 0 0) = some (.int .i64 n) := by simp [aload, own_get0, Ab.part]
  have lq : aload (H ++ [Blk.row 0 [.int .i64 n, q] 0 true]) ⟨false, 1⟩ (.ptr H.length 0 1) = some q := by simp [aload, own_get0, Ab.part]
  simp [go_sem, WpFun, c63, hq.frz, ln, k86] at hb' ⊢
  generalize (if pure = true then H.length else bar) = bar' at hb' ⊢
  unfold checkS at h
  cases hr : within 1 7 n
  · rw [hr, if_neg (by decide)] at h
    simp [go_sem]
    exact h
  · rw [hr, if_pos rfl] at h
    have hr' := hr
    simp [within] at hr'
    simp [go_sem, lq, hq.len]
    refine l63 hq hl hb' l.length 0 (by omega) (fun e H' he hne ht => ?_) (fun he => ?_)
    · simp only [List.take_zero, List.drop_zero] at he
      rw [he, if_neg hne] at h
      simp [go_sem, ht]
      exact h
    · simp only [List.take_zero, List.drop_zero] at he
      rw [he, if_pos rfl] at h
      obtain ⟨n, rfl⟩ := Int.eq_ofNat_of_zero_le (show 0 ≤ n by omega)
      rw [Int.toNat_natCast] at h
      have e1 : IntKind.i64.wrap ((n : Int) - 1) = ((n - 1 : Nat) : Int) := by
        rw [show (n : Int) - 1 = ((n - 1 : Nat) : Int) by omega, i64_nat (by omega)]
      have hpr : prN n ≤ 42 := by
        unfold prN
        have h7 : n ≤ 7 := by omega
        exact Nat.mul_le_mul h7 (show n - 1 ≤ 6 by omega)
      have e2 : IntKind.i64.wrap ((n : Int) * ((n - 1 : Nat) : Int)) = ((prN n : Nat) : Int) := by
        rw [show (n : Int) * ((n - 1 : Nat) : Int) = ((prN n : Nat) : Int) by unfold prN; exact (Int.natCast_mul ..).symm, i64_nat (by omega)]
      have e3 : abin .quo (.int .i64 ((prN n : Nat) : Int)) (.int .i64 2) = some (.int .i64 ((halfN n : Nat) : Int)) := by
        rw [abin_quo (by decide), Go.IntWalk.i64_quo _ _ ⟨by omega, by omega, by omega⟩]
        rfl
      generalize hnn : n - 1 = m at *
      simp [go_sem, lq, ln, hq.len, e1, e2, e3]
      by_cases hlen : l.length < halfN n
      · rw [if_pos hlen] at h
        simp [go_sem, hlen]
        exact h
      · rw [if_neg hlen] at h
        simp [go_sem, hlen]
        exact h
end Go.Proofs.Ytngoldipfgfecaa.Code
end
section
namespace Go.Proofs.Ytngoldipfgfecaa.Code
open Go Go.Ab
variable {pure : Bool} {base bar : Nat} {H : Heap} {Q : AV → Heap → Prop}
/-- a board: whom each one beat -/
structure BoardW (n : Nat) (w : Nat → Nat) : Prop where
  le : n ≤ 7
  lt : ∀ x, w x < 256
  dom : ∀ x y, (w x).testBit y = true → x < n ∧ y < n
  irr : ∀ x, (w x).testBit x = false
  one : ∀ x y, x < n → y < n → x ≠ y → (w x).testBit y = !(w y).testBit x
/-! 64: all to whom chains lead -/
inductive Rch (w : Nat → Nat) (x : Nat) : Nat → Prop
  | refl : Rch w x x
  | step {y z : Nat} : Rch w x y → (w y).testBit z = true → Rch w x z
theorem Rch.trans {w : Nat → Nat} {x y z : Nat} (h : Rch w x y) (k : Rch w y z) : Rch w x z := by
  induction k with
  | refl => exact h
  | step _ h2 ih => exact .step ih h2
end Go.Proofs.Ytngoldipfgfecaa.Code
end
section
namespace Go.Proofs.Ytngoldipfgfecaa.Code
open Go Go.Ab
variable {pure : Bool} {base bar : Nat} {H : Heap} {Q : AV → Heap → Prop}
/-! 44: the contest of games by numbers -/
/-- the meetings so far, and who beat whom -/
structure MadeTo (n bits a b : Nat) (l : List ZZ) (f : Nat → Nat → Bool) : Prop where
  chk : chkF n [] l = 0
  len : l.length = tri a + b
  beat : ∀ x y, f x y = true ↔ ((x : Int), (y : Int)) ∈ l
  won : ∀ x y, y < x → (x < a ∨ x = a ∧ y < b) → f x y = !bits.testBit (tri x + y) ∧ f y x = bits.testBit (tri x + y)
  out : ∀ x y, y < x → ¬ (x < a ∨ x = a ∧ y < b) → f x y = false ∧ f y x = false
  irr : ∀ x, f x x = false
  nat : ∀ p ∈ l, ∃ x y : Nat, p = ((x : Int), (y : Int))
theorem chkF_snoc {n : Int} {p : ZZ} : ∀ {l b : List ZZ}, chkF n b l = 0 → 0 ≤ p.1 → 0 ≤ p.2 → p.1 < n → p.2 < n → p.1 ≠ p.2 → qin (b ++ l) p.1 p.2 = false → chkF n b (l ++ [p]) = 0
  | [], b, _, h1, h2, h3, h4, h5, h6 => by
    simp only [List.append_nil] at h6
    simp only [List.nil_append, chkF]
    rw [if_neg (by omega), if_neg h5, if_neg (by simp [h6])]
  | o :: r, b, h, h1, h2, h3, h4, h5, h6 => by
    rw [List.cons_append]
    simp only [chkF] at h ⊢
    split at h
    · cases h
    rename_i g1
    split at h
    · cases h
    rename_i g2
    split at h
    · cases h
    rename_i g3
    rw [if_neg g1, if_neg g2, if_neg g3]
    exact chkF_snoc h h1 h2 h3 h4 h5 (by simpa using h6)
theorem qin_mem {l : List ZZ} {a b : Int} : qin l a b = true ↔ (a, b) ∈ l ∨ (b, a) ∈ l := by
  simp only [qin, List.any_eq_true, Bool.or_eq_true, Bool.and_eq_true, beq_iff_eq]
  constructor
  · rintro ⟨⟨x, y⟩, hp, (⟨h1, h2⟩ | ⟨h1, h2⟩)⟩
    · simp only at h1 h2; subst h1 h2; exact .inl hp
    · simp only at h1 h2; subst h1 h2; exact .inr hp
  · rintro (h | h)
    · exact ⟨_, h, .inl ⟨rfl, rfl⟩⟩
    · exact ⟨_, h, .inr ⟨rfl, rfl⟩⟩
theorem MadeTo.zero {n bits : Nat} : MadeTo n bits 0 0 [] (fun _ _ => false) := ⟨rfl, rfl, by simp, fun x y _ h => by omega, fun _ _ _ _ => ⟨rfl, rfl⟩, fun _ => rfl, by simp⟩
theorem MadeTo.put {n bits a b x y : Nat} {l : List ZZ} {f : Nat → Nat → Bool} (h : MadeTo n bits a b l f) (hab : b < a) (han : a < n)
    (hxy : (bits.testBit (tri a + b) = true ∧ x = b ∧ y = a) ∨ (bits.testBit (tri a + b) = false ∧ x = a ∧ y = b)) : MadeTo n bits a (b + 1) (l ++ [((x : Int), (y : Int))]) (upd2 f x y true) := by
  have ho := h.out a b hab (by omega)
  have hno : ((a : Int), (b : Int)) ∉ l ∧ ((b : Int), (a : Int)) ∉ l := ⟨fun hc => (by rw [(h.beat a b).2 hc] at ho; cases ho.1), fun hc => (by rw [(h.beat b a).2 hc] at ho; cases ho.2)⟩
  refine ⟨chkF_snoc h.chk (by omega) (by omega) (by simp only; omega) (by simp only; omega) (by simp only; omega) ?_, by simp [h.len]; omega, fun u v => ?_, fun u v huv hc => ?_, fun u v huv hc => ?_, fun u => ?_, fun p hp => ?_⟩
  · cases hq : qin ([] ++ l) (x : Int) (y : Int)
    · rfl
    · rw [List.nil_append, qin_mem] at hq
      rcases hxy with ⟨_, rfl, rfl⟩ | ⟨_, rfl, rfl⟩
      · rcases hq with hq | hq
        · exact absurd hq hno.2
        · exact absurd hq hno.1
      · rcases hq with hq | hq
        · exact absurd hq hno.1
        · exact absurd hq hno.2
  · unfold upd2
    rw [List.mem_append, List.mem_singleton, Prod.mk.injEq]
    split
    · rename_i he; obtain ⟨rfl, rfl⟩ := he; simp
    · rename_i he
      rw [h.beat]
      constructor
      · exact .inl
      · rintro (hm | ⟨h1, h2⟩)
        · exact hm
        · exact absurd ⟨by omega, by omega⟩ he
  · unfold upd2
    by_cases he : u = a ∧ v = b
    · obtain ⟨rfl, rfl⟩ := he
      rcases hxy with ⟨hb, rfl, rfl⟩ | ⟨hb, rfl, rfl⟩
      · rw [if_neg (by omega), if_pos ⟨rfl, rfl⟩, hb, ho.1]; exact ⟨rfl, rfl⟩
      · rw [if_pos ⟨rfl, rfl⟩, if_neg (by omega), hb, ho.2]; exact ⟨rfl, rfl⟩
    · rw [if_neg (by rcases hxy with ⟨_, rfl, rfl⟩ | ⟨_, rfl, rfl⟩ <;> omega), if_neg (by rcases hxy with ⟨_, rfl, rfl⟩ | ⟨_, rfl, rfl⟩ <;> omega)]
      exact h.won u v huv (by omega)
  · unfold upd2
    rw [if_neg (by rcases hxy with ⟨_, rfl, rfl⟩ | ⟨_, rfl, rfl⟩ <;> omega), if_neg (by rcases hxy with ⟨_, rfl, rfl⟩ | ⟨_, rfl, rfl⟩ <;> omega)]
    exact h.out u v huv (by omega)
  · unfold upd2
    rw [if_neg (by rcases hxy with ⟨_, rfl, rfl⟩ | ⟨_, rfl, rfl⟩ <;> omega)]
    exact h.irr u
  · rcases List.mem_append.1 hp with hp | hp
    · exact h.nat p hp
    · rw [List.mem_singleton] at hp; exact ⟨x, y, hp⟩
theorem MadeTo.next {n bits a : Nat} {l : List ZZ} {f : Nat → Nat → Bool} (h : MadeTo n bits a a l f) : MadeTo n bits (a + 1) 0 l f :=
  ⟨h.chk, by rw [h.len]; simp [tri], h.beat, fun x y hxy hc => h.won x y hxy (by omega), fun x y hxy hc => h.out x y hxy (by omega), h.irr, h.nat⟩
/-- the contest of games, and who beat whom -/
structure MadeC (n bits : Nat) (l : List ZZ) (f : Nat → Nat → Bool) : Prop where
  le : n ≤ 7
  pos : 1 ≤ n
  chk : chkF n [] l = 0
  len : l.length = halfN n
  beat : ∀ x y, f x y = true ↔ ((x : Int), (y : Int)) ∈ l
  won : ∀ x y, y < x → x < n → f x y = !bits.testBit (tri x + y) ∧ f y x = bits.testBit (tri x + y)
  dom : ∀ x y, f x y = true → x < n ∧ y < n
  irr : ∀ x, f x x = false
  nat : ∀ p ∈ l, ∃ x y : Nat, p = ((x : Int), (y : Int))
theorem tri_half : ∀ n, n ≤ 7 → tri n = halfN n := by decide
theorem MadeTo.done {n bits : Nat} {l : List ZZ} {f : Nat → Nat → Bool} (h : MadeTo n bits n 0 l f) (h1 : 1 ≤ n) (h7 : n ≤ 7) : MadeC n bits l f :=
  ⟨h7, h1, h.chk, by rw [h.len, ← tri_half n h7]; rfl, h.beat, fun x y hxy hx => h.won x y hxy (by omega), fun x y hb => by
    rcases Nat.lt_trichotomy x y with hlt | heq | hlt
    · have hy : y < n := by
        apply Decidable.byContradiction
        intro hc
        rw [(h.out y x hlt (by omega)).2] at hb; cases hb
      omega
    · subst heq; rw [h.irr] at hb; cases hb
    · have hx : x < n := by
        apply Decidable.byContradiction
        intro hc
        rw [(h.out x y hlt (by omega)).1] at hb; cases hb
      omega, h.irr, h.nat⟩
theorem MadeC.one {n bits : Nat} {l : List ZZ} {f : Nat → Nat → Bool} (h : MadeC n bits l f) {x y : Nat} (hx : x < n) (hy : y < n) (hne : x ≠ y) : f x y = !f y x := by
  rcases Nat.lt_or_gt_of_ne hne with hlt | hlt
  · obtain ⟨h1, h2⟩ := h.won y x hlt hy
    rw [h1, h2]; simp
  · obtain ⟨h1, h2⟩ := h.won x y hlt hx
    rw [h1, h2]
theorem MadeC.check {n bits : Nat} {l : List ZZ} {f : Nat → Nat → Bool} (h : MadeC n bits l f) : checkS (n : Int) l = 0 := by
  have := h.le; have := h.pos
  unfold checkS
  rw [if_pos (by simp [within]; omega), if_pos h.chk, Int.toNat_natCast, if_neg (by rw [h.len]; omega)]
end Go.Proofs.Ytngoldipfgfecaa.Code
end
section
namespace Go.Proofs.Ytngoldipfgfecaa.Code
open Go Go.Ab
variable {pure : Bool} {base bar : Nat} {H : Heap} {Q : AV → Heap → Prop}
end Go.Proofs.Ytngoldipfgfecaa.Code
end
section
namespace Go.Proofs.Ytngoldipfgfecaa.Code
open Go Go.Ab
variable {pure : Bool} {base bar : Nat} {H : Heap} {Q : AV → Heap → Prop}
/-! 56: the board of a contest, or its error -/
def winW (w : Nat → Nat) (p : ZZ) : Nat → Nat := upd w p.1.toNat (bor (w p.1.toNat) (pw p.2.toNat))
def boardF (l : List ZZ) (w : Nat → Nat) : Nat → Nat := l.foldl winW w
theorem chkF_valid {n : Int} : ∀ {l b : List ZZ}, chkF n b l = 0 → ∀ p ∈ l, 0 ≤ p.1 ∧ 0 ≤ p.2 ∧ p.1 < n ∧ p.2 < n ∧ p.1 ≠ p.2
  | [], _, _, p, hp => by simp at hp
  | o :: r, b, h, p, hp => by
    simp only [chkF] at h
    split at h
    · cases h
    rename_i g1
    split at h
    · cases h
    rename_i g2
    split at h
    · cases h
    rcases List.mem_cons.1 hp with rfl | hp
    · exact ⟨by omega, by omega, by omega, by omega, g2⟩
    · exact chkF_valid h p hp
theorem winW_lt {w : Nat → Nat} {p : ZZ} (hw : ∀ x, w x < 256) (h2 : p.2.toNat < 8) : ∀ x, winW w p x < 256 := upd_lt hw (bor_lt (hw _) (pw_lt h2))
theorem winW_bit {w : Nat → Nat} {a b x y : Nat} : (winW w ((a : Int), (b : Int)) x).testBit y = ((w x).testBit y || (decide (x = a) && decide (y = b))) := by
  unfold winW upd
  simp only [Int.toNat_natCast]
  split
  · rename_i h; subst h
    rw [testBit_bor, testBit_pw]; simp [eq_comm]
  · rename_i h; simp [h]
theorem boardF_bit : ∀ {l : List ZZ} {w : Nat → Nat} {x y : Nat}, (∀ p ∈ l, 0 ≤ p.1 ∧ 0 ≤ p.2) → ((boardF l w x).testBit y = true ↔ (w x).testBit y = true ∨ ((x : Int), (y : Int)) ∈ l)
  | [], w, x, y, _ => by simp [boardF]
  | (a, b) :: r, w, x, y, h => by
    obtain ⟨h1, h2⟩ := h (a, b) (List.mem_cons_self ..)
    obtain ⟨a, rfl⟩ := Int.eq_ofNat_of_zero_le h1
    obtain ⟨b, rfl⟩ := Int.eq_ofNat_of_zero_le h2
    have e : boardF (((a : Int), (b : Int)) :: r) w = boardF r (winW w ((a : Int), (b : Int))) := rfl
    rw [e, boardF_bit fun p hp => h p (List.mem_cons_of_mem _ hp), winW_bit, List.mem_cons, Prod.mk.injEq]
    simp only [Bool.or_eq_true, Bool.and_eq_true, decide_eq_true_eq]
    constructor
    · rintro ((h | ⟨h1, h2⟩) | h)
      · exact .inl h
      · exact .inr (.inl ⟨by omega, by omega⟩)
      · exact .inr (.inr h)
    · rintro (h | ⟨h1, h2⟩ | h)
      · exact .inl (.inl h)
      · exact .inl (.inr ⟨by omega, by omega⟩)
      · exact .inr h
theorem leave1_nil {e : Int} : leave 1 base bar [.nilp, .int .i64 e] H = some (.tup [.nilp, .int .i64 e], H.take base) := by
  have h2 : frzAll bar H [.nilp, .int .i64 e] = some ([.nilp, .int .i64 e], H) := rfl
  simp only [leave, h2]
  simp [firstOwn, AV.top.tops, AV.top, tupled]
theorem leave1_ptr {id ver n fz : Nat} {ex : Bool} {w : Nat → Nat} {e : Int} (hid : H[id]? = some (.row ver (bcells n w) fz ex)) (hb : base ≤ id) :
    leave 1 base bar [.ptr id ver 0, .int .i64 e] H = some (.tup [.ptr base ver 0, .int .i64 e], H.take base ++ [.row ver (bcells n w) fz ex]) := by
  have h1 : frzAll bar H (bcells n w) = some (bcells n w, H) := by
    simp only [frzAll, frz.frzs]
    exact plains (d := 6) bcells_plain
  have h2 : frzAll bar H [.ptr id ver 0, .int .i64 e] = some ([.ptr id ver 0, .int .i64 e], H) := rfl
  simp only [leave, h2]
  simp [firstOwn, hb, hid, h1, bcells_tops, movable, AV.top, moveP, tupled]
theorem l30 {n : Nat} {q : AV} {l : List ZZ} (hq : isP q l) (hl : l.length < 1000) (hv : ∀ p ∈ l, 0 ≤ p.1 ∧ 0 ≤ p.2 ∧ p.1 < 7 ∧ p.2 < 7) (hbar : bar ≤ H.length) {R : PQ} :
    ∀ (k i : Nat) (w : Nat → Nat), i + k = l.length → (∀ x, w x < 256) →
    (R (.exit 0) [(5, .ptr (H.length + 1) 0 0), (18, q), (19, .int .i64 (l.length : Nat)), (20, .int .i64 (l.length : Nat)), (21, .bool false)] (H ++ [.row 0 [.int .i64 (n : Nat), q] 0 true, .row 0 (bcells n (boardF (l.drop i) w)) 0 true])) →
    Wp E H.length bar (.loop c30_l0) [(5, .ptr (H.length + 1) 0 0), (18, q), (19, .int .i64 (l.length : Nat)), (20, .int .i64 (i : Nat))] (H ++ [.row 0 [.int .i64 (n : Nat), q] 0 true, .row 0 (bcells n w) 0 true]) R := by
  intro k
  induction k with
  | zero =>
    intro i w hi hw h
    obtain rfl : i = l.length := by omega
    rw [List.drop_length] at h
    rw [wp_round c30_l0.eq_1]
    simp [go_sem]
    exact h
  | succ k ih =>
    intro i w hi hw h
    have hlt : i < l.length := by omega
    rw [List.drop_eq_getElem_cons hlt] at h
    obtain ⟨⟨a, b⟩, hp⟩ : ∃ p, l[i] = p := ⟨_, rfl⟩
    rw [hp] at h
    obtain ⟨h1, h2, h3, h4⟩ := hv (a, b) (by rw [← hp]; exact List.getElem_mem hlt)
    simp only at h1 h2 h3 h4
    obtain ⟨a, rfl⟩ := Int.eq_ofNat_of_zero_le h1
    obtain ⟨b, rfl⟩ := Int.eq_ofNat_of_zero_le h2
    have ha : a < 7 := by omega
    have hb : b < 8 := by omega
    have e : boardF (((a : Int), (b : Int)) :: l.drop (i + 1)) w = boardF (l.drop (i + 1)) (upd w a (bor (w a) (pw b))) := rfl
    rw [e] at h
    have hid : ∀ L : Heap, (H ++ (.row 0 [.int .i64 (n : Nat), q] 0 true :: .row 0 (bcells n w) 0 true :: L))[H.length + 1]? = some (.row 0 (bcells n w) 0 true) := fun L => by simp [own_get]
    have next := ih (i + 1) _ (by omega) (upd_lt (i := a) hw (bor_lt (hw a) (pw_lt hb))) h
    rw [wp_round c30_l0.eq_1]
    have ld : ∀ L : Heap, aload (H ++ (.row 0 [.int .i64 (n : Nat), q] 0 true :: .row 0 (bcells n w) 0 true :: L)) ⟨false, 1⟩ (.ptr (H.length + 1) 0 (1 + a)) = some (.int .u8 ((w a : Nat) : Int)) := fun L => loadB (hid L) ha
    have st : ∀ (L : Heap) (K : AV → Heap → List Nat → Prop) (bs : Nat), storeWp bs bar 1 (.ptr (H.length + 1) 0 (1 + a)) (.int .u8 ((bor (w a) (pw b) : Nat) : Int)) (H ++ (.row 0 [.int .i64 (n : Nat), q] 0 true :: .row 0 (bcells n w) 0 true :: L)) K
        = K (.tup []) (H ++ (.row 0 [.int .i64 (n : Nat), q] 0 true :: .row 0 (bcells n (upd w a (bor (w a) (pw b)))) 0 true :: L)) [H.length + 1] := fun L K bs => by
      rw [storeB (hid L) ha (by omega), own_set]; rfl
    have l2 : ∀ (X Y : Blk), aload (H ++ [X, Y, .row 0 [.int .i64 (a : Int), .int .i64 (b : Int)] 0 true]) ⟨false, 1⟩ (.ptr (H.length + 2) 0 0) = some (.int .i64 (a : Nat)) := fun X Y => by simp [aload, own_get, Ab.part]
    have l3 : ∀ (X Y : Blk), aload (H ++ [X, Y, .row 0 [.int .i64 (a : Int), .int .i64 (b : Int)] 0 true]) ⟨false, 1⟩ (.ptr (H.length + 2) 0 1) = some (.int .i64 (b : Nat)) := fun X Y => by simp [aload, own_get, Ab.part]
    have s2 : ∀ (X Y : Blk) (K : AV → Heap → List Nat → Prop) (bs : Nat), storeWp bs bar 2 (.ptr (H.length + 2) 0 0) (.agg [.int .i64 (a : Int), .int .i64 (b : Int)]) (H ++ [X, Y, .row 0 [.int .i64 0, .int .i64 0] 0 true]) K
        = K (.tup []) (H ++ [X, Y, .row 0 [.int .i64 (a : Int), .int .i64 (b : Int)] 0 true]) [H.length + 2] := fun X Y K bs => by
      simp [storeWp, astore, own_get, own_set, setCells, show bar ≤ H.length + 2 by omega, AV.isTup, AV.cells, AV.top.tops, AV.top]
    have lf : aload (H ++ [Blk.row 0 [.int .i64 (n : Nat), q] 0 true, .row 0 (bcells n w) 0 true]) ⟨true, 2⟩ (.fp (.agg [.int .i64 (a : Int), .int .i64 (b : Int)])) = some (.agg [.int .i64 (a : Int), .int .i64 (b : Int)]) := by simp [aload]
    simp [go_sem, hlt, hq.ix hlt, hp, zc, lf]
    rw [s2]
    simp [go_sem, l2, l3, ha, ld, shl_u8 hb, or_u8 (hw a) (pw_lt hb)]
    rw [st]
    simp [go_sem, hq.top, i64_suc (show i < 1000000 by omega)]
    exact next
theorem k30 {n : Int} {q : AV} {l : List ZZ} (hq : isP q l) (hl : l.length < 1000) (hbar : bar ≤ H.length)
    (h1 : checkS n l ≠ 0 → Q (.tup [.nilp, .int .i64 (checkS n l)]) H)
    (h2 : ∀ m : Nat, n = m → 1 ≤ m → m ≤ 7 → checkS n l = 0 → Q (.tup [.ptr H.length 0 0, .int .i64 0]) (H ++ [.row 0 (bcells m (boardF l fun _ => 0)) 0 true])) :
    WpCall E false base bar 30 [.agg [.int .i64 n, q]] H Q := by
  rw [call30]
  have lh : aload (H ++ [Blk.row 0 [.int .i64 n, q] 0 true]) ⟨true, 2⟩ (.ptr H.length 0 0) = some (.agg [.int .i64 n, q]) := by simp [aload, own_get0, Ab.part]
  have ln : aload (H ++ [Blk.row 0 [.int .i64 n, q] 0 true]) ⟨false, 1⟩ (.ptr H.length 0 0) = some (.int .i64 n) := by simp [aload, own_get0, Ab.part]
  simp [go_sem, WpFun, c30, hq.frz, lh]
  refine k63 hq hl (by simp; omega) ?_
  by_cases hc : checkS n l = 0
  · rw [hc]
    have hr : within 1 7 n = true := by
      unfold checkS at hc
      split at hc
      · assumption
      · cases hc
    have hchk : chkF n [] l = 0 := by
      unfold checkS at hc
      rw [if_pos hr] at hc
      split at hc
      · assumption
      · exact hc
    simp [within] at hr
    obtain ⟨n, rfl⟩ := Int.eq_ofNat_of_zero_le (show 0 ≤ n by omega)
    have hv := chkF_valid hchk
    have e0 : [AV.int .i64 (n : Int), .int .u8 0, .int .u8 0, .int .u8 0, .int .u8 0, .int .u8 0, .int .u8 0, .int .u8 0] = bcells n (fun _ => 0) := rfl
    have lq : ∀ L : Heap, aload (H ++ (Blk.row 0 [.int .i64 (n : Int), q] 0 true :: L)) ⟨false, 1⟩ (.ptr H.length 0 1) = some q := fun L => by simp [aload, own_get0, Ab.part]
    simp [go_sem, ln, fillA, setCells, lq, hq.len]
    rw [e0]
    refine l30 hq hl (fun p hp => by have := hv p hp; omega) hbar l.length 0 (fun _ => 0) (by omega) (fun _ => by decide) ?_
    rw [List.drop_zero]
    simp [go_sem]
    rw [leave1_ptr (id := H.length + 1) (n := n) (w := boardF l fun _ => 0) (fz := 0) (ex := true) (by simp [own_get]) (by omega)]
    simp [go_sem]
    exact h2 n rfl (by omega) (by omega) hc
  · simp [go_sem, hc, leave1_nil]
    exact h1 hc
theorem MadeC.board {n bits : Nat} {l : List ZZ} {f : Nat → Nat → Bool} (h : MadeC n bits l f) : BoardW n (boardF l fun _ => 0) ∧ ∀ x y, (boardF l (fun _ => 0) x).testBit y = f x y := by
  have hv := chkF_valid h.chk
  have hb : ∀ x y, (boardF l (fun _ => 0) x).testBit y = f x y := fun x y => by
    rw [Bool.eq_iff_iff, boardF_bit fun p hp => by have := hv p hp; exact ⟨this.1, this.2.1⟩, h.beat]
    simp
  have hlt : ∀ (r : List ZZ) (w : Nat → Nat), (∀ x, w x < 256) → (∀ p ∈ r, p.2.toNat < 8) → ∀ x, boardF r w x < 256 := by
    intro r
    induction r with
    | nil => intro w hw _; exact hw
    | cons p r ih =>
      intro w hw hp
      exact ih (winW w p) (winW_lt hw (hp p (List.mem_cons_self ..))) fun q hq => hp q (List.mem_cons_of_mem _ hq)
  have h7 := h.le
  exact ⟨⟨h.le, hlt l _ (fun _ => by decide) fun p hp => by have := hv p hp; omega, fun x y hxy => h.dom x y (by rw [← hb]; exact hxy), fun x => by rw [hb]; exact h.irr x, fun x y hx hy hne => by rw [hb, hb]; exact h.one hx hy hne⟩, hb⟩
end Go.Proofs.Ytngoldipfgfecaa.Code
end
section
namespace Go.Proofs.Ytngoldipfgfecaa.Code
open Go Go.Ab
variable {pure : Bool} {base bar : Nat} {H : Heap} {Q : AV → Heap → Prop}
theorem Rch.lt {n : Nat} {w : Nat → Nat} (hbd : BoardW n w) {x y : Nat} (hx : x < n) (h : Rch w x y) : y < n := by
  induction h with
  | refl => exact hx
  | step _ h2 _ => exact (hbd.dom _ _ h2).2
end Go.Proofs.Ytngoldipfgfecaa.Code
end
section
namespace Go.Proofs.Ytngoldipfgfecaa.Code
open Go Go.Ab
variable {pure : Bool} {base bar : Nat} {H : Heap} {Q : AV → Heap → Prop}
end Go.Proofs.Ytngoldipfgfecaa.Code
end
section
namespace Go.Proofs.Ytngoldipfgfecaa.Code
open Go Go.Ab
variable {pure : Bool} {base bar : Nat} {H : Heap} {Q : AV → Heap → Prop}
/-! 45: to whom chains lead, with at most so many steps -/
def nextR (f : Nat → Nat → Bool) (n : Nat) (met : Nat → Bool) (a : Nat) : Nat → Bool := fun j => met j || (decide (j < n) && (List.range a).any fun x => met x && f x j)
def reachR (f : Nat → Nat → Bool) (n x : Nat) : Nat → Nat → Bool
  | 0 => fun j => decide (j = x)
  | k + 1 => nextR f n (reachR f n x k) n
/-! what it says -/
theorem nextR_iff {f : Nat → Nat → Bool} {n j : Nat} {met : Nat → Bool} : nextR f n met n j = true ↔ met j = true ∨ j < n ∧ ∃ x, x < n ∧ met x = true ∧ f x j = true := by
  unfold nextR
  simp [List.any_eq_true, Bool.or_eq_true, Bool.and_eq_true]
section
variable {n x : Nat} {f : Nat → Nat → Bool} {w : Nat → Nat}
theorem reachR_mono {k j : Nat} (h : reachR f n x k j = true) : reachR f n x (k + 1) j = true := nextR_iff.2 (.inl h)
end
end Go.Proofs.Ytngoldipfgfecaa.Code
end
section
namespace Go.Proofs.Ytngoldipfgfecaa.Code
open Go Go.Ab
variable {base bar : Nat} {H : Heap}
def Fill (F f : Nat → Nat) (P : List Nat) : Prop := ∀ x ∈ P, f x = F x
theorem Fill.put {F f : Nat → Nat} {P : List Nat} {x i : Nat} (h : Fill F f P) (hx : F x = i) : Fill F (upd f x i) (P ++ [x]) := fun y hy => by
  unfold upd
  split
  · rename_i he; subst he; exact hx.symm
  · rename_i hne
    rcases List.mem_append.1 hy with hy | hy
    · exact h y hy
    · simp only [List.mem_singleton] at hy; exact absurd hy hne
end Go.Proofs.Ytngoldipfgfecaa.Code
end
section
namespace Go.Proofs.Ytngoldipfgfecaa.Code
open Go Go.Ab
variable {base bar : Nat} {H : Heap}
end Go.Proofs.Ytngoldipfgfecaa.Code
end
section
namespace Go.Proofs.Ytngoldipfgfecaa.Code
open Go Go.Ab
variable {pure : Bool} {base bar : Nat} {H : Heap} {Q : AV → Heap → Prop}
/-! 57, 18: scores -/
theorem sliceB {id ver n fz : Nat} {w : Nat → Nat} (hid : H[id]? = some (.row ver (bcells n w) fz true)) {m : Nat} (hm : m ≤ 7) :
    aslice H (.arr 7 1) (.ptr id ver 1) none (some (.int .i64 (m : Int))) none = some (.vec id ver 1 m 1) := by
  simp [aslice, hid, bcells_length, optBound, bound1, AV.asNat, hm]
/-- how many each one beat -/
def oftenS (n : Nat) (w : Nat → Nat) : List Nat := (List.range n).map fun a => (bitsOf (w a)).length
theorem l31 {id ver n : Nat} {w : Nat → Nat} {H0 : Heap} (hid : H0[id]? = some (.row ver (bcells n w) 0 true)) (hw : ∀ x, w x < 256) (hn : n ≤ 7) (hb : bar ≤ H0.length) (hbase : base ≤ H0.length) {R : PQ} :
    ∀ (k i : Nat) (v : AV) (H : Heap), i + k = n → Grow 1 (nats ((List.range i).map fun a => (bitsOf (w a)).length)) H0 v H →
    (∀ v' H', Grow 1 (nats (oftenS n w)) H0 v' H' → R (.exit 0) [(3, v'), (13, .vec id ver 1 n 1), (14, .int .i64 (n : Nat)), (15, .int .i64 (n : Nat)), (16, .bool false)] H') →
    Wp E base bar (.loop c31_l0) [(3, v), (13, .vec id ver 1 n 1), (14, .int .i64 (n : Nat)), (15, .int .i64 (i : Nat))] H R := by
  intro k
  induction k with
  | zero =>
    intro i v H hi hg h
    obtain rfl : i = n := by omega
    rw [wp_round c31_l0.eq_1]
    simp [go_sem]
    exact h v H hg
  | succ k ih =>
    intro i v H hi hg h
    have hlt : i < n := by omega
    have hidH : H[id]? = some (.row ver (bcells n w) 0 true) := by
      rcases hg with ⟨_, _, rfl⟩ | ⟨_, _, _, _, _, rfl⟩
      · exact hid
      · exact old_get hid
    rw [wp_round c31_l0.eq_1]
    simp [go_sem, hlt, loadB hidH (show i < 7 by omega), k64 (hw i), aop, chunks]
    refine hg.nat hb hbase (by simp; omega) fun v' H' tc g' => ?_
    simp [go_sem, i64_suc (show i < 1000000 by omega)]
    refine ih (i + 1) v' H' (by omega) ?_ h
    simpa [List.range_succ] using g'
theorem k31 {id ver n : Nat} {w : Nat → Nat} (hid : H[id]? = some (.row ver (bcells n w) 0 true)) (hw : ∀ x, w x < 256) (hn : n ≤ 7) (hb : bar ≤ H.length) (h : Q (outL 1 (nats (oftenS n w))) H) :
    WpCall E pure base bar 31 [.ptr id ver 0] H Q := by
  rw [call31]
  have hb' := bar_ok (pure := pure) hb
  simp [go_sem, WpFun, c31, aop, Opd.evo, loadBN hid, sliceB hid hn] at hb' ⊢
  refine l31 hid hw hn hb' (Nat.le_refl _) n 0 _ _ (by omega) Grow.nil fun v' H' g => ?_
  simp [go_sem]
  refine g.out hb' (Nat.le_refl _) ?_
  simpa using h
end Go.Proofs.Ytngoldipfgfecaa.Code
end
section
namespace Go.Proofs.Ytngoldipfgfecaa.Code
open Go Go.Ab
variable {pure : Bool} {base bar : Nat} {H : Heap} {Q : AV → Heap → Prop}
/-! a list that is still owned -/
def Wv (l : List Nat) (v : AV) (H : Heap) : Prop := (l = [] ∧ v = .nils) ∨ ∃ id ver fz, l ≠ [] ∧ v = .vec id ver 0 l.length 1 ∧ H[id]? = some (.row ver (nats l) fz false)
theorem Wv.len {l : List Nat} {v : AV} (h : Wv l v H) {K : AV → Heap → List Nat → Prop} : lenWp (some v) H K = K (.int .i64 (l.length : Int)) H [] := by
  rcases h with ⟨rfl, rfl⟩ | ⟨id, ver, fz, h1, rfl, h2⟩ <;> rfl
theorem Wv.frz {l : List Nat} {v : AV} (h : Wv l v H) : ∃ v' H', frz 8 0 H v = some (v', H') ∧ isL v' l ∧ Wv l v H' := by
  rcases h with ⟨rfl, rfl⟩ | ⟨id, ver, fz, h1, rfl, h2⟩
  · exact ⟨.nils, H, rfl, .nil, .inl ⟨rfl, rfl⟩⟩
  · have e := frz_vec (d := 7) (bar := 0) (H := H) (id := id) (ver := ver) (off := 0) (len := l.length) (sz := 1) (cs := nats l) (fz := fz) (ex := false) (xs := nats l)
      (H' := H.set id (.row ver (nats l) (max fz (0 + l.length * 1)) false)) h2 (by rw [nats_length]; omega) (Nat.zero_le _) (by
        rw [List.drop_zero, List.take_of_length_le (by rw [nats_length]; omega), plains nats_plain])
    have hch : chunks 1 l.length (nats l) = nats l := by
      have := chunks_one (l := nats l)
      rw [nats_length] at this; exact this
    rw [hch] at e
    exact ⟨_, _, e, .lst (ex := false), .inr ⟨id, ver, max fz (0 + l.length * 1), h1, rfl, set_get h2⟩⟩
theorem Wv.ix {l : List Nat} {v : AV} (h : Wv l v H) {i : Nat} (hi : i < l.length) : ∃ p, (∀ K : AV → Heap → List Nat → Prop, ixaSWp 1 (some v) (some (.int .i64 (i : Int))) H K = K p H []) ∧ aload H ⟨false, 1⟩ p = some (.int .i64 ((l[i] : Nat) : Int)) := by
  rcases h with ⟨rfl, rfl⟩ | ⟨id, ver, fz, h1, rfl, h2⟩
  · simp at hi
  · refine ⟨.ptr id ver i, fun K => ?_, ?_⟩
    · simp [ixaSWp_vec, hi]
    · rw [aload_ptr h2, part_one, nats_get hi]
end Go.Proofs.Ytngoldipfgfecaa.Code
end
section
namespace Go.Proofs.Ytngoldipfgfecaa.Code
open Go Go.Ab
/-! who reaches all in two steps -/
end Go.Proofs.Ytngoldipfgfecaa.Code
end
section
namespace Go.Proofs.Ytngoldipfgfecaa.Code
open Go Go.Ab
variable {base bar : Nat} {H : Heap}
end Go.Proofs.Ytngoldipfgfecaa.Code
end
section
namespace Go.Proofs.Ytngoldipfgfecaa.Code
open Go Go.Ab
end Go.Proofs.Ytngoldipfgfecaa.Code
end
section
namespace Go.Proofs.Ytngoldipfgfecaa.Code
open Go Go.Ab
variable {pure : Bool} {base bar : Nat} {H : Heap} {Q : AV → Heap → Prop}
/-! steps at the front -/
theorem reachR_le {f : Nat → Nat → Bool} {n x j : Nat} : ∀ {m k : Nat}, reachR f n x k j = true → k ≤ m → reachR f n x m j = true
  | 0, k, h, hk => by obtain rfl : k = 0 := by omega
                      exact h
  | m + 1, k, h, hk => by
    by_cases e : k = m + 1
    · subst e; exact h
    · exact reachR_mono (reachR_le (m := m) h (by omega))
theorem reach_front {f : Nat → Nat → Bool} {n z : Nat} (hd : ∀ x y, f x y = true → x < n ∧ y < n) (hz : z < n) : ∀ {k y : Nat}, reachR f n z (k + 1) y = true ↔ reachR f n z k y = true ∨ ∃ u, u < n ∧ f z u = true ∧ reachR f n u k y = true
  | 0, y => by
    show nextR f n (reachR f n z 0) n y = true ↔ _
    rw [nextR_iff]
    simp only [reachR, decide_eq_true_eq]
    constructor
    · rintro (h | ⟨h1, x, h2, rfl, h3⟩)
      · exact .inl h
      · exact .inr ⟨y, h1, h3, rfl⟩
    · rintro (h | ⟨u, h1, h2, rfl⟩)
      · exact .inl h
      · exact .inr ⟨h1, z, hz, rfl, h2⟩
  | k + 1, y => by
    show nextR f n (reachR f n z (k + 1)) n y = true ↔ _
    rw [nextR_iff]
    constructor
    · rintro (h | ⟨h1, x, h2, h3, h4⟩)
      · exact .inl h
      · rcases (reach_front hd hz).1 h3 with h | ⟨u, u1, u2, u3⟩
        · exact .inl (nextR_iff.2 (.inr ⟨h1, x, h2, h, h4⟩))
        · exact .inr ⟨u, u1, u2, nextR_iff.2 (.inr ⟨h1, x, h2, u3, h4⟩)⟩
    · rintro (h | ⟨u, u1, u2, u3⟩)
      · exact .inl h
      · rcases nextR_iff.1 u3 with h | ⟨h1, x, h2, h3, h4⟩
        · exact .inl ((reach_front hd hz).2 (.inr ⟨u, u1, u2, h⟩))
        · exact .inr ⟨h1, x, h2, (reach_front hd hz).2 (.inr ⟨u, u1, u2, h3⟩), h4⟩
/-- so many steps, and no fewer -/
def isLv (f : Nat → Nat → Bool) (n y z d : Nat) : Prop := reachR f n z d y = true ∧ ∀ j, j < d → reachR f n z j y = false
theorem isLv.le {f : Nat → Nat → Bool} {n y z a b : Nat} (h1 : isLv f n y z a) (h2 : reachR f n z b y = true) : a ≤ b := by
  apply Nat.le_of_not_lt
  intro h
  rw [h1.2 b h] at h2; cases h2
/-- one that is beaten and from whom chains lead in one step less -/
theorem isLv.pred {f : Nat → Nat → Bool} {n y z d u : Nat} (hd : ∀ x y, f x y = true → x < n ∧ y < n) (hz : z < n) (h : isLv f n y z (d + 1)) (hf : f z u = true) (hu : reachR f n u d y = true) : isLv f n y u d :=
  ⟨hu, fun j hj => by
    cases hr : reachR f n u j y
    · rfl
    · have := (reach_front hd hz).2 (.inr ⟨u, (hd _ _ hf).2, hf, hr⟩)
      rw [h.2 (j + 1) (by omega)] at this; cases this⟩
theorem isLv.next {f : Nat → Nat → Bool} {n y z d : Nat} (hd : ∀ x y, f x y = true → x < n ∧ y < n) (hz : z < n) (h : isLv f n y z (d + 1)) : ∃ u, u < n ∧ f z u = true ∧ isLv f n y u d := by
  rcases (reach_front hd hz).1 h.1 with h1 | ⟨u, u1, u2, u3⟩
  · rw [h.2 d (by omega)] at h1; cases h1
  · exact ⟨u, u1, u2, h.pred hd hz u2 u3⟩
/-- those from whom at most k steps lead to y, with their numbers of steps -/
structure Known (f : Nat → Nat → Bool) (n y k s : Nat) (lv : Nat → Nat) : Prop where
  lt : s < 128
  bit : ∀ z, s.testBit z = true ↔ z < n ∧ reachR f n z k y = true
  lev : ∀ z, s.testBit z = true → isLv f n y z (lv z)
def newB (s : Nat) (w : Nat → Nat) (b z : Nat) : Bool := decide (z < b) && (!s.testBit z && !decide (band (w z) s = 0))
theorem band_meet {a s : Nat} : band a s ≠ 0 ↔ ∃ u, a.testBit u = true ∧ s.testBit u = true := by
  constructor
  · intro h
    obtain ⟨u, hu⟩ := Nat.exists_testBit_of_ne_zero h
    rw [testBit_band, Bool.and_eq_true] at hu
    exact ⟨u, hu⟩
  · rintro ⟨u, h1, h2⟩ hc
    have := congrArg (fun m => m.testBit u) hc
    simp only [testBit_band, h1, h2, Nat.zero_testBit] at this; cases this
section
variable {f : Nat → Nat → Bool} {w : Nat → Nat} {n y : Nat}
theorem Known.next {k s nx : Nat} {lv lv' : Nat → Nat} (hd : ∀ x y, f x y = true → x < n ∧ y < n) (hw : ∀ x y, (w x).testBit y = f x y) (h : Known f n y k s lv) (hn : nx < 128)
    (hb : ∀ z, nx.testBit z = (s.testBit z || newB s w n z)) (hl : ∀ z, lv' z = if newB s w n z = true then k + 1 else lv z) : Known f n y (k + 1) nx lv' := by
  have key : ∀ z, newB s w n z = true ↔ z < n ∧ reachR f n z k y = false ∧ ∃ u, u < n ∧ f z u = true ∧ reachR f n u k y = true := fun z => by
    unfold newB
    rw [Bool.and_eq_true, Bool.and_eq_true, decide_eq_true_eq, Bool.not_eq_true', Bool.not_eq_true', decide_eq_false_iff_not]
    constructor
    · rintro ⟨h1, h2, h3⟩
      obtain ⟨u, u1, u2⟩ := band_meet.1 h3
      obtain ⟨u3, u4⟩ := (h.bit u).1 u2
      refine ⟨h1, ?_, u, u3, by rw [← hw]; exact u1, u4⟩
      cases hr : reachR f n z k y
      · rfl
      · rw [(h.bit z).2 ⟨h1, hr⟩] at h2; cases h2
    · rintro ⟨h1, h2, u, u1, u2, u3⟩
      refine ⟨h1, ?_, band_meet.2 ⟨u, by rw [hw]; exact u2, (h.bit u).2 ⟨u1, u3⟩⟩⟩
      cases hs : s.testBit z
      · rfl
      · rw [((h.bit z).1 hs).2] at h2; cases h2
  have hbit : ∀ z, nx.testBit z = true ↔ z < n ∧ reachR f n z (k + 1) y = true := fun z => by
    rw [hb, Bool.or_eq_true, h.bit, key]
    constructor
    · rintro (⟨h1, h2⟩ | ⟨h1, h2, h3⟩)
      · exact ⟨h1, reachR_mono h2⟩
      · exact ⟨h1, (reach_front hd h1).2 (.inr h3)⟩
    · rintro ⟨h1, h2⟩
      cases hr : reachR f n z k y
      · rcases (reach_front hd h1).1 h2 with h3 | h3
        · rw [hr] at h3; cases h3
        · exact .inr ⟨h1, rfl, h3⟩
      · exact .inl ⟨h1, rfl⟩
  refine ⟨hn, hbit, fun z hz => ?_⟩
  rw [hl]
  split
  · rename_i hk
    obtain ⟨k1, k2, _⟩ := (key z).1 hk
    refine ⟨((hbit z).1 hz).2, fun j hj => ?_⟩
    cases hr : reachR f n z j y
    · rfl
    · rw [reachR_le hr (by omega)] at k2; cases k2
  · rename_i hk
    refine h.lev z ?_
    rw [hb] at hz
    cases hs : s.testBit z
    · rw [hs, Bool.false_or] at hz; exact absurd hz hk
    · rfl
theorem Known.zero {lv : Nat → Nat} (hy : y < n) (hn : n ≤ 7) (hl : lv y = 0) : Known f n y 0 (pw y) lv := by
  refine ⟨Nat.pow_lt_pow_right (n := 7) (a := 2) (by decide) (by omega), fun z => ?_, fun z hz => ?_⟩
  · rw [testBit_pw]
    simp only [reachR, decide_eq_true_eq]
    omega
  · rw [testBit_pw, decide_eq_true_eq] at hz
    subst hz
    rw [hl]
    exact ⟨by simp [reachR], fun j hj => by omega⟩
end
/-! 25: a shortest chain -/
/-- what is known of a chain's beginning -/
structure ChainP (f : Nat → Nat → Bool) (n y x d : Nat) (L : List Nat) : Prop where
  ne : 0 < L.length
  first : L.getD 0 0 = x
  lv : ∀ i, i < L.length → i ≤ d ∧ isLv f n y (L.getD i 0) (d - i) ∧ L.getD i 0 < n
  beat : ∀ i, 0 < i → i < L.length → f (L.getD (i - 1) 0) (L.getD i 0) = true
  least : ∀ i, 0 < i → i < L.length → ∀ z, z < L.getD i 0 → f (L.getD (i - 1) 0) z = true → reachR f n z (d - i) y = false
theorem ChainP.one {f : Nat → Nat → Bool} {n y x d : Nat} (hx : x < n) (h : isLv f n y x d) : ChainP f n y x d [x] := by
  refine ⟨by simp, rfl, fun i hi => ?_, fun i h0 hi => by simp at hi; omega, fun i h0 hi => by simp at hi; omega⟩
  simp at hi; subst hi
  exact ⟨Nat.zero_le _, h, hx⟩
/-! a list under construction that began with a literal -/
def Gro (l : List Nat) (H0 : Heap) (v : AV) (H : Heap) : Prop := (l ≠ [] ∧ v = .lst 1 true (nats l) ∧ H = H0) ∨ Grow 1 (nats l) H0 v H
theorem nats_flat : ∀ (b : List Nat), (nats b).flatMap AV.cells = nats b := fun b => by
  induction b with
  | nil => rfl
  | cons x r ih => simp only [nats, List.map_cons, List.flatMap_cons, AV.cells] at ih ⊢; rw [ih]; rfl
theorem Gro.nat {bytes : Nat} {l : List Nat} {H0 : Heap} {v : AV} {ex : Bool} {x : Nat} {K : AV → Heap → List Nat → Prop} (g : Gro l H0 v H) (hb : bar ≤ H0.length) (hbase : base ≤ H0.length)
    (hlen : (l.length + 1) * bytes ≤ 140737488355328)
    (h : ∀ v' H' tc, Gro (l ++ [x]) H0 v' H' → K v' H' tc) : appWp base bar 1 bytes (some v) (some (.lst 1 ex [.int .i64 (x : Int)])) H K := by
  rcases g with ⟨hne, rfl, rfl⟩ | g
  · have hp : ∀ c ∈ [AV.int .i64 (x : Int)], Plain c := fun c hc => by simp at hc; subst hc; exact Plain.int
    have e : [AV.int .i64 (x : Int)].flatMap AV.cells = [AV.int .i64 (x : Int)] := rfl
    simp only [appWp, asrc_lst, frzAll, frz.frzs, e]
    rw [plains (d := 6) hp]
    simp only [AV.noVec.noVecs, AV.noVec, Bool.and_true, if_true]
    rw [if_neg (by simp)]
    simp only [aappend]
    rw [if_neg (by simp), if_neg (by simp)]
    have hl2 : ((nats l).length + [AV.int .i64 (x : Int)].length / 1) * bytes ≤ 140737488355328 := by simpa [nats_length] using hlen
    rw [if_pos ⟨trivial, hl2⟩]
    simp only
    refine h _ _ _ (.inr (.inr ⟨0, 0, by simp [nats_eq_nil], Nat.zero_le _, ?_, ?_⟩))
    · simp [nats_length]
    · rw [nats_flat, nats_append, nats_one]
  · exact g.nat hb hbase hlen fun v' H' tc g' => h v' H' tc (.inr g')
theorem Gro.frz {l : List Nat} {H0 : Heap} {v : AV} (g : Gro l H0 v H) (hb : bar ≤ H0.length) : ∃ q H', frz 8 bar H v = some (q, H') ∧ isL q l ∧ H'.take H0.length = H0 := by
  rcases g with ⟨hne, rfl, rfl⟩ | g
  · refine ⟨_, _, ?_, isL.lst (ex := true), List.take_length⟩
    exact (isL.lst (ex := true) (l := l)).frz
  · obtain ⟨H', h1, h2, h3, h4⟩ := g.frz (d := 5) (bar := bar) (by omega) (Nat.one_dvd _) nats_plain hb
    exact ⟨_, H', h1, isL.out, h4⟩
theorem Gro.get {l : List Nat} {H0 : Heap} {v : AV} (g : Gro l H0 v H) {i : Nat} {b : Blk} (h : H0[i]? = some b) : H[i]? = some b := by
  rcases g with ⟨_, _, rfl⟩ | g
  · exact h
  · exact g.get h
theorem Gro.len {l : List Nat} {H0 : Heap} {v : AV} (g : Gro l H0 v H) : H0.length ≤ H.length := by
  rcases g with ⟨_, _, rfl⟩ | g
  · exact Nat.le_refl _
  · exact g.len
theorem Gro.slot {l : List Nat} {H0 : Heap} {v : AV} (g : Gro l H0 v H) : v.isTup = false ∧ v.cells = [v] := by
  rcases g with ⟨_, rfl, _⟩ | ⟨_, rfl, _⟩ | ⟨_, _, _, _, rfl, _⟩ <;> exact ⟨rfl, rfl⟩
end Go.Proofs.Ytngoldipfgfecaa.Code
end
section
namespace Go.Proofs.Ytngoldipfgfecaa.Code
open Go Go.Ab
variable {pure : Bool} {base bar : Nat} {H : Heap} {Q : AV → Heap → Prop}
end Go.Proofs.Ytngoldipfgfecaa.Code
end
section
namespace Go.Proofs.Ytngoldipfgfecaa.Code
open Go Go.Ab
variable {pure : Bool} {base bar : Nat} {H : Heap} {Q : AV → Heap → Prop}
end Go.Proofs.Ytngoldipfgfecaa.Code
end
section
namespace Go.Proofs.Ytngoldipfgfecaa.Code
open Go Go.Ab
variable {base bar : Nat} {H : Heap}
end Go.Proofs.Ytngoldipfgfecaa.Code
end
section
namespace Go.Proofs.Ytngoldipfgfecaa.Code
open Go Go.Ab
variable {pure : Bool} {base bar : Nat} {H : Heap} {Q : AV → Heap → Prop}
/-! a contest without an error, in general -/
structure OkC (n : Nat) (l : List ZZ) : Prop where
  le : n ≤ 7
  pos : 1 ≤ n
  check : checkS (n : Int) l = 0
theorem MadeC.ok {n bits : Nat} {l : List ZZ} {f : Nat → Nat → Bool} (h : MadeC n bits l f) : OkC n l := ⟨h.le, h.pos, h.check⟩
theorem OkC.chk {n : Nat} {l : List ZZ} (h : OkC n l) : chkF (n : Int) [] l = 0 := by
  have hc := h.check
  unfold checkS at hc
  split at hc
  · split at hc
    · assumption
    · exact hc
  · cases hc
theorem OkC.len {n : Nat} {l : List ZZ} (h : OkC n l) : halfN n ≤ l.length := by
  have hc := h.check
  unfold checkS at hc
  have hk := h.chk
  split at hc
  · split at hc
    · cases hc
    · rename_i g; simpa using g
  · cases hc
def codeP (p : ZZ) : Nat := tri (max p.1.toNat p.2.toNat) + min p.1.toNat p.2.toNat
theorem tri_mono {a b : Nat} (h : a ≤ b) : tri a ≤ tri b := by
  induction b with
  | zero => obtain rfl : a = 0 := by omega
            exact Nat.le_refl _
  | succ b ih =>
    by_cases e : a = b + 1
    · subst e; exact Nat.le_refl _
    · have := ih (by omega)
      simp only [tri]; omega
theorem tri_inj {a b c d : Nat} (hb : b < a) (hd : d < c) (h : tri a + b = tri c + d) : a = c ∧ b = d := by
  rcases Nat.lt_trichotomy a c with hl | hl | hl
  · have := tri_mono (show a + 1 ≤ c by omega)
    simp only [tri] at this; omega
  · subst hl; exact ⟨rfl, by omega⟩
  · have := tri_mono (show c + 1 ≤ a by omega)
    simp only [tri] at this; omega
theorem chkF_new {n : Int} : ∀ {l b : List ZZ}, chkF n b l = 0 → ∀ p ∈ l, qin b p.1 p.2 = false
  | [], _, _, p, hp => by simp at hp
  | o :: r, b, h, p, hp => by
    simp only [chkF] at h
    split at h
    · cases h
    split at h
    · cases h
    split at h
    · cases h
    rename_i g
    rcases List.mem_cons.1 hp with rfl | hp
    · simpa using g
    · have := chkF_new h p hp
      rw [qin, List.any_append, Bool.or_eq_false_iff] at this
      exact this.1
theorem chkF_codes {n : Int} : ∀ {l b : List ZZ}, chkF n b l = 0 → (l.map codeP).Nodup
  | [], _, _ => List.nodup_nil
  | o :: r, b, h => by
    have hv := chkF_valid h o (List.mem_cons_self ..)
    have hvr := fun p hp => chkF_valid h p (List.mem_cons_of_mem _ hp)
    simp only [chkF] at h
    split at h
    · cases h
    split at h
    · cases h
    split at h
    · cases h
    rw [List.map_cons, List.nodup_cons]
    refine ⟨fun hm => ?_, chkF_codes h⟩
    obtain ⟨p, hp, he⟩ := List.mem_map.1 hm
    have hn := chkF_new h p hp
    have hvp := hvr p hp
    rw [qin, List.any_append, Bool.or_eq_false_iff] at hn
    have h2 := hn.2
    simp only [List.any_cons, List.any_nil, Bool.or_false, Bool.or_eq_false_iff, Bool.and_eq_false_iff, beq_eq_false_iff_ne] at h2
    unfold codeP at he
    have := tri_inj (by omega) (by omega) he
    omega
theorem codeP_lt {n : Nat} {p : ZZ} (h : 0 ≤ p.1 ∧ 0 ≤ p.2 ∧ p.1 < (n : Int) ∧ p.2 < (n : Int) ∧ p.1 ≠ p.2) : codeP p < tri n := by
  unfold codeP
  have := tri_mono (show max p.1.toNat p.2.toNat + 1 ≤ n by omega)
  simp only [tri] at this
  omega
/-- no two met twice, and there are enough meetings: so all have met -/
theorem met_all {n : Nat} {l : List ZZ} (hc : chkF (n : Int) [] l = 0) (hl : tri n ≤ l.length) {x y : Nat} (hx : x < n) (hyx : y < x) : ((x : Int), (y : Int)) ∈ l ∨ ((y : Int), (x : Int)) ∈ l := by
  apply Decidable.byContradiction
  intro hno
  rw [not_or] at hno
  have hv := chkF_valid hc
  have hnd := chkF_codes hc
  have hnc : tri x + y ∉ l.map codeP := fun hm => by
    obtain ⟨⟨a, b⟩, hp, he⟩ := List.mem_map.1 hm
    have h1 := hv _ hp
    simp only at h1
    obtain ⟨a, rfl⟩ := Int.eq_ofNat_of_zero_le h1.1
    obtain ⟨b, rfl⟩ := Int.eq_ofNat_of_zero_le h1.2.1
    unfold codeP at he
    simp only [Int.toNat_natCast] at he
    obtain ⟨e1, e2⟩ := tri_inj (by omega) hyx he
    by_cases hab : a ≤ b
    · obtain rfl : b = x := by omega
      obtain rfl : a = y := by omega
      exact hno.2 hp
    · obtain rfl : a = x := by omega
      obtain rfl : b = y := by omega
      exact hno.1 hp
  have hxy : tri x + y < tri n := by
    have := tri_mono (show x + 1 ≤ n by omega)
    simp only [tri] at this; omega
  have := sub_len (l := (tri x + y) :: l.map codeP) (m := List.range (tri n)) (List.nodup_cons.2 ⟨hnc, hnd⟩) fun c hcm => by
    rcases List.mem_cons.1 hcm with rfl | hcm
    · exact List.mem_range.2 hxy
    · obtain ⟨p, hp, rfl⟩ := List.mem_map.1 hcm
      exact List.mem_range.2 (codeP_lt (hv p hp))
  rw [List.length_cons, List.length_map, List.length_range] at this
  omega
theorem not_both {n : Int} : ∀ {l b : List ZZ}, chkF n b l = 0 → ∀ x y, (x, y) ∈ l → (y, x) ∈ l → False
  | [], _, _, x, y, h, _ => by simp at h
  | o :: r, b, h, x, y, h1, h2 => by
    have hv := chkF_valid h
    have hne := (hv _ h1).2.2.2.2
    simp only at hne
    simp only [chkF] at h
    split at h
    · cases h
    split at h
    · cases h
    split at h
    · cases h
    rcases List.mem_cons.1 h1 with rfl | g1
    · rcases List.mem_cons.1 h2 with h2 | h2
      · cases h2; exact hne rfl
      · have hn := chkF_new h _ h2
        rw [qin, List.any_append, Bool.or_eq_false_iff] at hn
        have h3 := hn.2
        simp [List.any_cons] at h3
    · rcases List.mem_cons.1 h2 with h2 | g2
      · subst h2
        have hn := chkF_new h _ g1
        rw [qin, List.any_append, Bool.or_eq_false_iff] at hn
        have h3 := hn.2
        simp [List.any_cons] at h3
      · exact not_both h x y g1 g2
theorem boardF_lt : ∀ (r : List ZZ) (w : Nat → Nat), (∀ x, w x < 256) → (∀ p ∈ r, p.2.toNat < 8) → ∀ x, boardF r w x < 256
  | [], w, hw, _ => hw
  | p :: r, w, hw, hp => boardF_lt r (winW w p) (winW_lt hw (hp p (List.mem_cons_self ..))) fun q hq => hp q (List.mem_cons_of_mem _ hq)
/-- whom each one beat -/
def bitL (l : List ZZ) (x y : Nat) : Bool := l.any fun p => p.1 == (x : Int) && p.2 == (y : Int)
theorem bitL_iff {l : List ZZ} {x y : Nat} : bitL l x y = true ↔ ((x : Int), (y : Int)) ∈ l := by
  unfold bitL
  rw [List.any_eq_true]
  constructor
  · rintro ⟨⟨a, b⟩, h1, h2⟩
    simp at h2
    obtain ⟨rfl, rfl⟩ := h2; exact h1
  · exact fun h => ⟨_, h, by simp⟩
theorem OkC.board {n : Nat} {l : List ZZ} (h : OkC n l) : BoardW n (boardF l fun _ => 0) ∧ ∀ x y, (boardF l (fun _ => 0) x).testBit y = bitL l x y := by
  have hv := chkF_valid h.chk
  have hle := h.le
  have hl := h.len
  have ht := tri_half n hle
  have hb : ∀ x y, (boardF l (fun _ => 0) x).testBit y = true ↔ ((x : Int), (y : Int)) ∈ l := fun x y => by
    rw [boardF_bit fun p hp => by have := hv p hp; exact ⟨this.1, this.2.1⟩]
    simp
  have hdom : ∀ x y : Nat, ((x : Int), (y : Int)) ∈ l → x < n ∧ y < n ∧ x ≠ y := fun x y hm => by
    have := hv _ hm
    simp only at this; omega
  refine ⟨⟨hle, boardF_lt l _ (fun _ => by decide) fun p hp => by have := hv p hp; omega, fun x y hxy => ?_, fun x => ?_, fun x y hx hy hne => ?_⟩, fun x y => by rw [Bool.eq_iff_iff, hb, bitL_iff]⟩
  · have := hdom x y ((hb x y).1 hxy); exact ⟨this.1, this.2.1⟩
  · cases hx : (boardF l (fun _ => 0) x).testBit x
    · rfl
    · exact absurd rfl (hdom x x ((hb x x).1 hx)).2.2
  · have hall : ((x : Int), (y : Int)) ∈ l ∨ ((y : Int), (x : Int)) ∈ l := by
      rcases Nat.lt_or_ge y x with hlt | hge
      · exact met_all h.chk (by omega) hx hlt
      · exact (met_all h.chk (by omega) hy (show x < y by omega)).symm
    cases h1 : (boardF l (fun _ => 0) x).testBit y
    · cases h2 : (boardF l (fun _ => 0) y).testBit x
      · exfalso
        rcases hall with hm | hm
        · rw [(hb x y).2 hm] at h1; cases h1
        · rw [(hb y x).2 hm] at h2; cases h2
      · rfl
    · cases h2 : (boardF l (fun _ => 0) y).testBit x
      · rfl
      · exact (not_both h.chk _ _ ((hb x y).1 h1) ((hb y x).1 h2)).elim
end Go.Proofs.Ytngoldipfgfecaa.Code
end
section
namespace Go.Proofs.Ytngoldipfgfecaa.Code
open Go Go.Ab
variable {pure : Bool} {base bar : Nat} {H : Heap} {Q : AV → Heap → Prop}
/-! a function's own copy of a contest -/
def HI (H : Heap) (n : Int) (q : AV) : Heap := H ++ [.row 0 [.int .i64 n, q] 0 true]
theorem HI_len {n : Int} {q : AV} : (HI H n q).length = H.length + 1 := by simp [HI]
theorem HI_get {n : Int} {q : AV} : (HI H n q)[H.length]? = some (.row 0 [.int .i64 n, q] 0 true) := by simp [HI, own_get0]
end Go.Proofs.Ytngoldipfgfecaa.Code
end
section
namespace Go.Proofs.Ytngoldipfgfecaa.Code
open Go Go.Ab
variable {pure : Bool} {base bar : Nat} {H : Heap} {Q : AV → Heap → Prop}
theorem k7g {n : Nat} {q : AV} {l : List ZZ} (hq : isP q l) (hl : l.length < 1000) (hm : OkC n l) (hbar : bar ≤ H.length)
    (h : ∀ v, isL v (oftenS n (boardF l fun _ => 0)) → Q (.tup [v, .int .i64 0]) H) : WpCall E pure base bar 7 [.agg [.int .i64 (n : Nat), q]] H Q := by
  rw [call7]
  have hb' := bar_ok (pure := pure) hbar
  have hbd := hm.board.1
  have lh : aload (H ++ [Blk.row 0 [.int .i64 (n : Nat), q] 0 true]) ⟨true, 2⟩ (.ptr H.length 0 0) = some (.agg [.int .i64 (n : Nat), q]) := by simp [aload, own_get0, Ab.part]
  simp [go_sem, WpFun, c7, hq.frz, lh] at hb' ⊢
  generalize (if pure = true then H.length else bar) = bar' at hb' ⊢
  refine k30 hq hl (by simp; omega) (fun hc => absurd hm.check hc) (fun m hnm _ _ _ => ?_)
  obtain rfl : n = m := by omega
  have hid : (H ++ [Blk.row 0 [AV.int IntKind.i64 (n : Nat), q] 0 true, Blk.row 0 (bcells n (boardF l fun _ => 0)) 0 true])[H.length + 1]? = some (.row 0 (bcells n (boardF l fun _ => 0)) 0 true) := by simp [own_get]
  simp [go_sem]
  refine k31 hid hbd.lt hm.le (by simp; omega) ?_
  have hv := isL.out (l := oftenS n (boardF l fun _ => 0))
  generalize outL 1 (nats (oftenS n (boardF l fun _ => 0))) = v at hv
  simp [go_sem, hv.frz, hv.top]
  exact h v hv
end Go.Proofs.Ytngoldipfgfecaa.Code
end
section
namespace Go.Proofs.Ytngoldipfgfecaa.Code
open Go Go.Ab
variable {pure : Bool} {base bar : Nat} {H : Heap} {Q : AV → Heap → Prop}
/-! 86: all chains of so many steps more -/
def lastN (s : List Nat) : Nat := s.getD (s.length - 1) 0
/-- what a call found, and its own copy of the contest, are as they were -/
def Pre (H : Heap) (n : Int) (q : AV) (Hc : Heap) : Prop := H.length + 1 ≤ Hc.length ∧ ∀ j, j < H.length + 1 → Hc[j]? = (HI H n q)[j]?
theorem Pre.refl {n : Int} {q : AV} : Pre H n q (HI H n q) := ⟨by rw [HI_len]; omega, fun _ _ => rfl⟩
theorem Pre.get {n : Int} {q : AV} {Hc : Heap} (h : Pre H n q Hc) : Hc[H.length]? = some (.row 0 [.int .i64 n, q] 0 true) := by
  rw [h.2 _ (by omega), HI_get]
theorem Pre.n {n : Int} {q : AV} {Hc : Heap} (h : Pre H n q Hc) {s : Nat} : aload Hc ⟨false, s⟩ (.ptr H.length 0 0) = some (.int .i64 n) := by rw [aload_ptr h.get]; rfl
theorem Pre.q {n : Int} {q : AV} {Hc : Heap} (h : Pre H n q Hc) {s : Nat} : aload Hc ⟨false, s⟩ (.ptr H.length 0 1) = some q := by rw [aload_ptr h.get]; rfl
theorem Pre.h {n : Int} {q : AV} {Hc : Heap} (h : Pre H n q Hc) : aload Hc ⟨true, 2⟩ (.ptr H.length 0 0) = some (.agg [.int .i64 n, q]) := by rw [aload_ptr h.get]; rfl
theorem Pre.take {n : Int} {q : AV} {Hc : Heap} (h : Pre H n q Hc) : Hc.take H.length = H := by
  apply List.ext_getElem?
  intro j
  rw [List.getElem?_take]
  by_cases hj : j < H.length
  · rw [if_pos hj, h.2 j (by omega)]
    simp [HI, List.getElem?_append_left hj]
  · rw [if_neg hj, List.getElem?_eq_none (by omega)]
theorem Pre.next {n : Int} {q : AV} {Hc Hd : Heap} (h : Pre H n q Hc) (hl : Hc.length ≤ Hd.length) (hs : ∀ j, j < H.length + 1 → Hd[j]? = Hc[j]?) : Pre H n q Hd :=
  ⟨by have := h.1; omega, fun j hj => (hs j hj).trans (h.2 j hj)⟩
end Go.Proofs.Ytngoldipfgfecaa.Code
end
section
namespace Go.Proofs.Ytngoldipfgfecaa.Code
open Go Go.Ab
variable {pure : Bool} {base bar : Nat} {H : Heap} {Q : AV → Heap → Prop}
section
variable {l : List ZZ} {n b : Nat}
theorem OkC.dom {n : Nat} {l : List ZZ} (h : OkC n l) : ∀ x y, bitL l x y = true → x < n ∧ y < n := fun x y hxy => h.board.1.dom x y (by rw [h.board.2]; exact hxy)
end
end Go.Proofs.Ytngoldipfgfecaa.Code
end
section
namespace Go.Proofs.Ytngoldipfgfecaa.Code
open Go Go.Ab
variable {pure : Bool} {base bar : Nat} {H : Heap} {Q : AV → Heap → Prop}
theorem eqWp_nil {neg : Bool} {v : AV} {l : List Nat} (hv : isL v l) (hn : v ≠ .nils) {K : AV → Heap → List Nat → Prop} : eqWp neg .nilS (some v) (some .nils) H K = K (.bool neg) H [] := by
  rcases hv with ⟨rfl, _⟩ | ⟨ex, rfl⟩
  · exact absurd rfl hn
  · simp [eqWp, aeq]
theorem eqWp_nil0 {neg : Bool} {K : AV → Heap → List Nat → Prop} : eqWp neg .nilS (some .nils) (some .nils) H K = K (.bool (!neg)) H [] := by
  simp [eqWp, aeq]
end Go.Proofs.Ytngoldipfgfecaa.Code
end
section
namespace Go.Proofs.Ytngoldipfgfecaa.Code
open Go Go.Ab
variable {pure : Bool} {base bar : Nat} {H : Heap} {Q : AV → Heap → Prop}
end Go.Proofs.Ytngoldipfgfecaa.Code
end
section
namespace Go.Proofs.Ytngoldipfgfecaa.Code
open Go Go.Ab
variable {pure : Bool} {base bar : Nat} {H : Heap} {Q : AV → Heap → Prop}
end Go.Proofs.Ytngoldipfgfecaa.Code
end
section
namespace Go.Proofs.Ytngoldipfgfecaa.Code
open Go Go.Ab
variable {pure : Bool} {base bar : Nat} {H : Heap} {Q : AV → Heap → Prop}
theorem half_tab : ∀ s : Nat, s ≤ 8 → IntKind.i64.wrap ((IntKind.i64.wrap ((s : Int) * IntKind.i64.wrap ((s : Int) - 1))).tdiv 2) = ((halfN s : Nat) : Int) := by decide +kernel
theorem half_le : ∀ s : Nat, s ≤ 8 → halfN s ≤ 28 := by decide
theorem bits_len8 (s : Nat) : (bitsOf s).length ≤ 8 := bits_len s
end Go.Proofs.Ytngoldipfgfecaa.Code
end
section
namespace Go.Proofs.Ytngoldipfgfecaa.Code
open Go Go.Ab
variable {pure : Bool} {base bar : Nat} {H : Heap} {Q : AV → Heap → Prop}
theorem sum_le {α : Type} {f : α → Nat} {c : Nat} : ∀ {l : List α}, (∀ x ∈ l, f x ≤ c) → (l.map f).sum ≤ l.length * c
  | [], _ => by simp
  | x :: r, h => by
    have h1 := h x (List.mem_cons_self ..)
    have h2 := sum_le (f := f) (c := c) (l := r) fun y hy => h y (List.mem_cons_of_mem _ hy)
    simp only [List.map_cons, List.sum_cons, List.length_cons, Nat.succ_mul]; omega
end Go.Proofs.Ytngoldipfgfecaa.Code
end
section
namespace Go.Proofs.Ytngoldipfgfecaa.Code
open Go Go.Ab
variable {pure : Bool} {base bar : Nat} {H : Heap} {Q : AV → Heap → Prop}
end Go.Proofs.Ytngoldipfgfecaa.Code
end
section
namespace Go.Proofs.Ytngoldipfgfecaa.Code
open Go Go.Ab
theorem bits_filter {n x : Nat} {f : Nat → Nat → Bool} {w : Nat → Nat} (hbd : BoardW n w) (hw : ∀ x y, (w x).testBit y = f x y) : (bitsOf (w x)).length = ((List.range n).filter (f x)).length := by
  unfold bitsOf
  have hn := hbd.le
  obtain ⟨d, hd⟩ : ∃ d, 8 = n + d := ⟨8 - n, by omega⟩
  rw [hd, filter_range_cut d fun c hc1 hc2 => by
    cases hc : (w x).testBit c
    · rfl
    · have := (hbd.dom x c hc).2; omega]
  congr 1
  apply List.filter_congr
  intro y _
  exact hw x y
end Go.Proofs.Ytngoldipfgfecaa.Code
end
section
namespace Go.Proofs.Ytngoldipfgfecaa.Code
open Go Go.Ab
end Go.Proofs.Ytngoldipfgfecaa.Code
end
section
namespace Go.Proofs.Ytngoldipfgfecaa.Code
open Go Go.Ab
variable {pure : Bool} {base bar : Nat} {H : Heap} {Q : AV → Heap → Prop}
end Go.Proofs.Ytngoldipfgfecaa.Code
end
section
namespace Go.Proofs.Ytngoldipfgfecaa.Code
open Go Go.Ab
variable {pure : Bool} {base bar : Nat} {H : Heap} {Q : AV → Heap → Prop}
def Ext (H Hc : Heap) : Prop := H.length ≤ Hc.length ∧ ∀ j, j < H.length → Hc[j]? = H[j]?
theorem Ext.refl : Ext H H := ⟨Nat.le_refl _, fun _ _ => rfl⟩
theorem Ext.trans {A B C : Heap} (h1 : Ext A B) (h2 : Ext B C) : Ext A C := ⟨Nat.le_trans h1.1 h2.1, fun j hj => (h2.2 j (Nat.lt_of_lt_of_le hj h1.1)).trans (h1.2 j hj)⟩
theorem Ext.get {A B : Heap} (h : Ext A B) {i : Nat} {b : Blk} (hi : A[i]? = some b) : B[i]? = some b := by
  rw [h.2 i (List.getElem?_eq_some_iff.1 hi).1]; exact hi
theorem Ext.take {A B : Heap} (h : Ext A B) : B.take A.length = A := by
  apply List.ext_getElem?
  intro j
  rw [List.getElem?_take]
  by_cases hj : j < A.length
  · rw [if_pos hj, h.2 j hj]
  · rw [if_neg hj, List.getElem?_eq_none (by omega)]
end Go.Proofs.Ytngoldipfgfecaa.Code
end
section
namespace Go.Proofs.Ytngoldipfgfecaa.Code
open Go Go.Ab
variable {pure : Bool} {base bar : Nat} {H : Heap} {Q : AV → Heap → Prop}
end Go.Proofs.Ytngoldipfgfecaa.Code
end
section
namespace Go.Proofs.Ytngoldipfgfecaa.Code
open Go Go.Ab
variable {pure : Bool} {base bar : Nat} {H : Heap} {Q : AV → Heap → Prop}
end Go.Proofs.Ytngoldipfgfecaa.Code
end
section
namespace Go.Proofs.Ytngoldipfgfecaa.Code
open Go Go.Ab
variable {pure : Bool} {base bar : Nat} {H : Heap} {Q : AV → Heap → Prop}
/-! 69: all rows -/
def rowsR (f : Nat → Nat → Bool) (n : Nat) : Nat → List Nat → List (List Nat)
  | 0, s => [s]
  | k + 1, s => (List.range' 0 n).flatMap fun (x : Nat) => if (!s.contains x && (s.isEmpty || f (lastN s) x)) = true then rowsR f n k (s ++ [x]) else []
end Go.Proofs.Ytngoldipfgfecaa.Code
end
section
namespace Go.Proofs.Ytngoldipfgfecaa.Code
open Go Go.Ab
variable {pure : Bool} {base bar : Nat} {H : Heap} {Q : AV → Heap → Prop}
end Go.Proofs.Ytngoldipfgfecaa.Code
end
section
namespace Go.Proofs.Ytngoldipfgfecaa.Code
open Go Go.Ab
variable {base bar : Nat} {H : Heap}
/-! arithmetic that wraps -/
theorem wrap_ex (a : Int) : ∃ k : Int, IntKind.i64.wrap a = a + k * 18446744073709551616 := by
  unfold IntKind.wrap
  simp only [show IntKind.i64.bits = 64 from rfl, show IntKind.i64.signed = true from rfl, Bool.true_and]
  rw [show (2 : Int) ^ 64 = 18446744073709551616 by decide]
  split
  · exact ⟨-(a / 18446744073709551616) - 1, by omega⟩
  · exact ⟨-(a / 18446744073709551616), by omega⟩
theorem wrap_cong (a k : Int) : IntKind.i64.wrap (a + k * 18446744073709551616) = IntKind.i64.wrap a := by
  unfold IntKind.wrap
  simp only [show IntKind.i64.bits = 64 from rfl]
  rw [show (2 : Int) ^ 64 = 18446744073709551616 by decide, Int.add_mul_emod_self_right]
end Go.Proofs.Ytngoldipfgfecaa.Code
end
section
namespace Go.Proofs.Ytngoldipfgfecaa.Code
open Go Go.Ab
variable {pure : Bool} {base bar : Nat} {H : Heap} {Q : AV → Heap → Prop}
end Go.Proofs.Ytngoldipfgfecaa.Code
end
section
namespace Go.Proofs.Ytngoldipfgfecaa.Code
open Go Go.Ab
variable {pure : Bool} {base bar : Nat} {H : Heap} {Q : AV → Heap → Prop}
end Go.Proofs.Ytngoldipfgfecaa.Code
end
section
namespace Go.Proofs.Ytngoldipfgfecaa.Code
open Go Go.Ab
/-- the same but for a multiple of 2 ^ 64 -/
def cong (a b : Int) : Prop := ∃ k : Int, a = b + k * 18446744073709551616
theorem cong.refl {a : Int} : cong a a := ⟨0, by omega⟩
theorem cong.trans {a b c : Int} : cong a b → cong b c → cong a c
  | ⟨k, h1⟩, ⟨m, h2⟩ => ⟨k + m, by rw [h1, h2, Int.add_mul]; omega⟩
theorem cong.wrap (a : Int) : cong (IntKind.i64.wrap a) a := wrap_ex a
theorem cong.eq {a b : Int} : cong a b → IntKind.i64.wrap a = IntKind.i64.wrap b
  | ⟨k, h⟩ => by rw [h, wrap_cong]
end Go.Proofs.Ytngoldipfgfecaa.Code
end
section
namespace Go.Proofs.Ytngoldipfgfecaa.Code
open Go Go.Ab
/-! rows are the lists in which each one beat the next -/
def chainL (f : Nat → Nat → Bool) : List Nat → Prop
  | [] => True
  | [_] => True
  | a :: b :: r => f a b = true ∧ chainL f (b :: r)
theorem lastN_cons {a b : Nat} {r : List Nat} : lastN (a :: b :: r) = lastN (b :: r) := by
  simp [lastN, List.getD_eq_getElem?_getD]
theorem chainL_append {f : Nat → Nat → Bool} : ∀ {A B : List Nat}, A ≠ [] → B ≠ [] → (chainL f (A ++ B) ↔ chainL f A ∧ chainL f B ∧ f (lastN A) (B.getD 0 0) = true)
  | [], _, h, _ => absurd rfl h
  | [a], [], _, h => absurd rfl h
  | [a], b :: r, _, _ => by
    simp only [List.singleton_append, chainL, true_and]
    rw [and_comm]
    rfl
  | a :: a' :: r, B, _, hB => by
    have ih := chainL_append (f := f) (A := a' :: r) (B := B) (by simp) hB
    rw [lastN_cons]
    simp only [List.cons_append, chainL] at ih ⊢
    rw [ih, and_assoc]
theorem chainL_snoc {f : Nat → Nat → Bool} {s : List Nat} {x : Nat} : chainL f (s ++ [x]) ↔ chainL f s ∧ (s = [] ∨ f (lastN s) x = true) := by
  by_cases h : s = []
  · subst h; simp [chainL]
  · rw [chainL_append h (by simp)]
    simp [chainL, h]
structure Valid (f : Nat → Nat → Bool) (n : Nat) (L : List Nat) : Prop where
  nodup : L.Nodup
  lt : ∀ x ∈ L, x < n
  chain : chainL f L
section
variable {f : Nat → Nat → Bool} {n : Nat}
theorem rows_valid : ∀ {k : Nat} {s L : List Nat}, Valid f n s → L ∈ rowsR f n k s → Valid f n L ∧ L.take s.length = s ∧ L.length = s.length + k
  | 0, s, L, hv, h => by
    unfold rowsR at h
    rw [List.mem_singleton] at h; subst h
    exact ⟨hv, List.take_length, rfl⟩
  | k + 1, s, L, hv, h => by
    unfold rowsR at h
    obtain ⟨x, hx, hL⟩ := List.mem_flatMap.1 h
    split at hL
    · rename_i hc
      rw [Bool.and_eq_true, Bool.not_eq_true', Bool.or_eq_true] at hc
      have hxn : x < n := by have := List.mem_range'_1.1 hx; omega
      have hxs : x ∉ s := fun hm => by
        have := hc.1
        rw [List.contains_eq_mem, decide_eq_true hm] at this; cases this
      have hv' : Valid f n (s ++ [x]) := by
        refine ⟨?_, fun y hy => ?_, chainL_snoc.2 ⟨hv.chain, ?_⟩⟩
        · rw [List.nodup_append]
          refine ⟨hv.nodup, by simp, fun a ha b hb => ?_⟩
          rw [List.mem_singleton] at hb; subst hb
          exact fun he => hxs (he ▸ ha)
        · rcases List.mem_append.1 hy with hy | hy
          · exact hv.lt y hy
          · rw [List.mem_singleton] at hy; subst hy; exact hxn
        · rcases hc.2 with h | h
          · exact .inl (List.isEmpty_iff.1 h)
          · exact .inr h
      obtain ⟨h1, h2, h3⟩ := rows_valid hv' hL
      refine ⟨h1, ?_, by rw [h3]; simp; omega⟩
      have := congrArg (List.take s.length) h2
      rw [List.take_take, List.length_append, List.length_singleton, Nat.min_eq_left (by omega), List.take_left'] at this
      · exact this
      · rfl
    · simp at hL
theorem rows_has : ∀ {k : Nat} {s L : List Nat}, Valid f n L → L.length = s.length + k → L.take s.length = s → L ∈ rowsR f n k s
  | 0, s, L, _, h1, h2 => by
    unfold rowsR
    rw [List.mem_singleton, ← h2, List.take_of_length_le (by omega)]
  | k + 1, s, L, hv, h1, h2 => by
    have hlt : s.length < L.length := by omega
    have hs : L.take (s.length + 1) = s ++ [L[s.length]] := by rw [List.take_succ_eq_append_getElem hlt, h2]
    have ih := rows_has (k := k) (s := s ++ [L[s.length]]) hv (by simp; omega) (by rw [List.length_append, List.length_singleton, hs])
    unfold rowsR
    refine List.mem_flatMap.2 ⟨L[s.length], List.mem_range'_1.2 ⟨Nat.zero_le _, by have := hv.lt _ (List.getElem_mem hlt); omega⟩, ?_⟩
    have hch : chainL f (s ++ [L[s.length]]) := by
      rw [← hs]
      by_cases hd : L.drop (s.length + 1) = []
      · have : L.take (s.length + 1) = L := List.take_of_length_le (by have := List.drop_eq_nil_iff.1 hd; omega)
        rw [this]; exact hv.chain
      · have h3 := hv.chain
        rw [← List.take_append_drop (s.length + 1) L] at h3
        exact ((chainL_append (by intro h; have := congrArg List.length h; rw [List.length_take, List.length_nil] at this; omega) hd).1 h3).1
    have hxs : s.contains L[s.length] = false := by
      rw [List.contains_eq_mem, decide_eq_false_iff_not]
      intro hm
      have h3 : (L.take (s.length + 1)).Nodup := hv.nodup.sublist (List.take_sublist ..)
      rw [hs, List.nodup_append] at h3
      exact h3.2.2 _ hm _ (List.mem_singleton.2 rfl) rfl
    rw [hxs]
    have hch2 := (chainL_snoc.1 hch).2
    generalize L[s.length] = x at *
    rcases hch2 with h | h
    · have : s.isEmpty = true := by rw [h]; rfl
      rw [this]
      exact ih
    · rw [h, Bool.or_true]
      exact ih
end
end Go.Proofs.Ytngoldipfgfecaa.Code
end
section
namespace Go.Proofs.Ytngoldipfgfecaa.Code
open Go Go.Ab
end Go.Proofs.Ytngoldipfgfecaa.Code
end
section
namespace Go.Proofs.Ytngoldipfgfecaa.Code
open Go Go.Ab
variable {pure : Bool} {base bar : Nat} {H : Heap} {Q : AV → Heap → Prop}
theorem getD_get {L : List Nat} {i : Nat} (h : i < L.length) : L[i] = L.getD i 0 := by rw [List.getD_eq_getElem?_getD, List.getElem?_eq_getElem h]; rfl
/-! the state of the search through all orders: how many rows, the first one, the first ring -/
def stH (H : Heap) (i6 i7 i8 : Nat) (c : Int) (v7 v8 : AV) : Heap := ((H.set i6 (.row 0 [.int .i64 c] 0 true)).set i7 (.row 0 [v7] 0 true)).set i8 (.row 0 [v8] 0 true)
structure St3 (H : Heap) (i6 i7 i8 : Nat) (c : Int) (v7 v8 : AV) : Prop where
  n67 : i6 ≠ i7
  n68 : i6 ≠ i8
  n78 : i7 ≠ i8
  h6 : H[i6]? = some (.row 0 [.int .i64 c] 0 true)
  h7 : H[i7]? = some (.row 0 [v7] 0 true)
  h8 : H[i8]? = some (.row 0 [v8] 0 true)
section
variable {i6 i7 i8 : Nat} {c c' : Int} {v7 v8 w7 w8 : AV}
theorem St3.lt (h : St3 H i6 i7 i8 c v7 v8) : i6 < H.length ∧ i7 < H.length ∧ i8 < H.length :=
  ⟨(List.getElem?_eq_some_iff.1 h.h6).1, (List.getElem?_eq_some_iff.1 h.h7).1, (List.getElem?_eq_some_iff.1 h.h8).1⟩
theorem stH_get {j : Nat} (h6 : j ≠ i6) (h7 : j ≠ i7) (h8 : j ≠ i8) : (stH H i6 i7 i8 c v7 v8)[j]? = H[j]? := by
  unfold stH
  rw [List.getElem?_set_ne (Ne.symm h8), List.getElem?_set_ne (Ne.symm h7), List.getElem?_set_ne (Ne.symm h6)]
theorem set_same {H : Heap} {i : Nat} {b : Blk} (h : H[i]? = some b) : H.set i b = H := by
  apply List.ext_getElem?
  intro j
  rw [List.getElem?_set]
  by_cases hj : i = j
  · subst hj; rw [if_pos rfl, if_pos (List.getElem?_eq_some_iff.1 h).1, h]
  · rw [if_neg hj]
theorem St3.same (h : St3 H i6 i7 i8 c v7 v8) : stH H i6 i7 i8 c v7 v8 = H := by
  unfold stH
  rw [set_same h.h6, set_same h.h7, set_same h.h8]
theorem St3.set (h : St3 H i6 i7 i8 c v7 v8) : St3 (stH H i6 i7 i8 c' w7 w8) i6 i7 i8 c' w7 w8 := by
  obtain ⟨l6, l7, l8⟩ := h.lt
  refine ⟨h.n67, h.n68, h.n78, ?_, ?_, ?_⟩
  · unfold stH
    rw [List.getElem?_set_ne (Ne.symm h.n68), List.getElem?_set_ne (Ne.symm h.n67)]
    simp [l6]
  · unfold stH
    rw [List.getElem?_set_ne (Ne.symm h.n78)]
    simp [l7]
  · unfold stH
    simp [l8]
end
/-- what an order does to the state -/
structure OSt where
  c : Int
  first : List Nat
  ring : List Nat
/-- a list that is nil just if it is empty -/
def isN (v : AV) (l : List Nat) : Prop := isL v l ∧ (l = [] → v = .nils)
theorem isN.eq {v : AV} {l : List Nat} (h : isN v l) {neg : Bool} {K : AV → Heap → List Nat → Prop} : eqWp neg .nilS (some v) (some .nils) H K = K (.bool (neg != l.isEmpty)) H [] := by
  cases l with
  | nil => rw [h.2 rfl, eqWp_nil0]; cases neg <;> rfl
  | cons a r =>
    have hn : v ≠ .nils := fun he => by
      rcases h.1 with ⟨_, h0⟩ | ⟨ex, h0⟩
      · cases h0
      · rw [he] at h0; cases h0
    rw [eqWp_nil h.1 hn]; cases neg <;> rfl
end Go.Proofs.Ytngoldipfgfecaa.Code
end
section
namespace Go.Proofs.Ytngoldipfgfecaa.Code
open Go Go.Ab
variable {base : Nat} {H : Heap} {Q : AV → Heap → Prop}
structure Env82 (H : Heap) (i2 i3 i4 i5 ig i6 i7 i8 n : Nat) (f : Nat → Nat → Bool) : Prop where
  h2 : H[i2]? = some (.row 0 [.int .i64 (n : Nat)] 0 true)
  h3 : H[i3]? = some (.row 0 [.fn 953 [] [.ptr i5 0 0, .ptr ig 0 0, .ptr i6 0 0, .ptr i7 0 0, .ptr i8 0 0]] 0 true)
  h4 : H[i4]? = some (.row 0 [.fn 982 [] [.ptr i2 0 0, .ptr i3 0 0, .ptr i4 0 0]] 0 true)
  h5 : H[i5]? = some (.row 0 [.int .i64 (n : Nat)] 0 true)
  hg : H[ig]? = some (.row 0 (gcells f) 0 true)
  d2 : i2 ≠ i6 ∧ i2 ≠ i7 ∧ i2 ≠ i8
  d3 : i3 ≠ i6 ∧ i3 ≠ i7 ∧ i3 ≠ i8
  d4 : i4 ≠ i6 ∧ i4 ≠ i7 ∧ i4 ≠ i8
  d5 : i5 ≠ i6 ∧ i5 ≠ i7 ∧ i5 ≠ i8
  dg : ig ≠ i6 ∧ ig ≠ i7 ∧ ig ≠ i8
section
variable {i2 i3 i4 i5 ig i6 i7 i8 n : Nat} {f : Nat → Nat → Bool}
theorem Env82.st (h : Env82 H i2 i3 i4 i5 ig i6 i7 i8 n f) {c : Int} {v7 v8 : AV} : Env82 (stH H i6 i7 i8 c v7 v8) i2 i3 i4 i5 ig i6 i7 i8 n f :=
  ⟨by rw [stH_get h.d2.1 h.d2.2.1 h.d2.2.2]; exact h.h2, by rw [stH_get h.d3.1 h.d3.2.1 h.d3.2.2]; exact h.h3, by rw [stH_get h.d4.1 h.d4.2.1 h.d4.2.2]; exact h.h4,
    by rw [stH_get h.d5.1 h.d5.2.1 h.d5.2.2]; exact h.h5, by rw [stH_get h.dg.1 h.dg.2.1 h.dg.2.2]; exact h.hg, h.d2, h.d3, h.d4, h.d5, h.dg⟩
end
end Go.Proofs.Ytngoldipfgfecaa.Code
end
section
namespace Go.Proofs.Ytngoldipfgfecaa.Code
open Go Go.Ab
variable {base : Nat} {H : Heap} {Q : AV → Heap → Prop}
end Go.Proofs.Ytngoldipfgfecaa.Code
end
section
namespace Go.Proofs.Ytngoldipfgfecaa.Code
open Go Go.Ab
/-- a contest that a number makes -/
structure ByBits (n T : Nat) (f : Nat → Nat → Bool) : Prop where
  lt : T < 2 ^ tri n
  won : ∀ x y, y < x → x < n → f x y = !T.testBit (tri x + y) ∧ f y x = T.testBit (tri x + y)
  dom : ∀ x y, f x y = true → x < n ∧ y < n
  irr : ∀ x, f x x = false
theorem tri_lt {n x y : Nat} (h1 : y < x) (h2 : x < n) : tri x + y < tri n := by
  have := tri_mono (show x + 1 ≤ n by omega)
  simp only [tri] at this; omega
theorem MadeC.bits {n bits : Nat} {l : List ZZ} {f : Nat → Nat → Bool} (h : MadeC n bits l f) : ByBits n (bits % 2 ^ tri n) f := by
  refine ⟨Nat.mod_lt _ (Nat.two_pow_pos _), fun x y h1 h2 => ?_, h.dom, h.irr⟩
  have := tri_lt h1 h2
  rw [Nat.testBit_mod_two_pow, decide_eq_true this, Bool.true_and]
  exact h.won x y h1 h2
end Go.Proofs.Ytngoldipfgfecaa.Code
end
section
namespace Go.Proofs.Ytngoldipfgfecaa.Code
open Go Go.Ab
end Go.Proofs.Ytngoldipfgfecaa.Code
end
section
namespace Go.Proofs.Ytngoldipfgfecaa.Code
open Go Go.Ab
variable {base bar : Nat} {H : Heap} {Q : AV → Heap → Prop} {K : AV → Heap → List Nat → Prop}
/-! lists of pairs that are made anew by each append, and two structs that hold such lists -/
/-- a list of pairs: nil, written out, or in a block from number 5 on -/
def PV (H : Heap) (v : AV) (l : List ZZ) : Prop :=
  (v = .nils ∧ l = []) ∨ v = .lst 2 true (prA l) ∨ ∃ id ver fz, 5 ≤ id ∧ v = .vec id ver 0 l.length 2 ∧ H[id]? = some (.row ver (prs l) fz false)
theorem PV.nil : PV H .nils [] := .inl ⟨rfl, rfl⟩
theorem PV.lt {v : AV} {l : List ZZ} (h : PV H v l) {j : Nat} (hj : idOf v = some j) : 5 ≤ j ∧ j < H.length := by
  rcases h with ⟨rfl, _⟩ | rfl | ⟨id, ver, fz, h1, rfl, h3⟩
  · cases hj
  · cases hj
  · cases hj; exact ⟨h1, (List.getElem?_eq_some_iff.1 h3).1⟩
theorem PV.mono {v : AV} {l : List ZZ} {H' : Heap} (h : PV H v l) (hs : ∀ j, idOf v = some j → H'[j]? = H[j]?) : PV H' v l := by
  rcases h with h | h | ⟨id, ver, fz, h1, rfl, h3⟩
  · exact .inl h
  · exact .inr (.inl h)
  · exact .inr (.inr ⟨id, ver, fz, h1, rfl, by rw [hs id rfl]; exact h3⟩)
theorem PV.slot {v : AV} {l : List ZZ} (h : PV H v l) : v.isTup = false ∧ v.cells = [v] := by
  rcases h with ⟨rfl, _⟩ | rfl | ⟨id, ver, fz, h1, rfl, h3⟩ <;> exact ⟨rfl, rfl⟩
theorem prs_noVec {l : List ZZ} : AV.noVec.noVecs (prs l) = true := by
  induction l with
  | nil => rfl
  | cons p r ih => simp only [prs, List.flatMap_cons, zc, List.cons_append, List.nil_append] at ih ⊢; simp only [AV.noVec.noVecs, AV.noVec, ih, Bool.and_self]
/-- freezing it -/
theorem PV.frz {v : AV} {l : List ZZ} {d : Nat} (g : PV H v l) : ∃ q H', frz (d + 3) 0 H v = some (q, H') ∧ isP q l ∧ PV H' v l ∧ H'.length = H.length ∧ ∀ j, idOf v ≠ some j → H'[j]? = H[j]? := by
  rcases g with ⟨rfl, rfl⟩ | rfl | ⟨id, ver, fz, h1, rfl, h3⟩
  · exact ⟨.nils, H, rfl, .nil, .nil, rfl, fun _ _ => rfl⟩
  · exact ⟨_, H, rfl, .lst, .inr (.inl rfl), rfl, fun _ _ => rfl⟩
  · have hlt := (List.getElem?_eq_some_iff.1 h3).1
    have e := frz_vec (d := d + 2) (bar := 0) (H := H) (id := id) (ver := ver) (off := 0) (len := l.length) (sz := 2) (cs := prs l) (fz := fz) (ex := false) (xs := prs l)
        (H' := H.set id (.row ver (prs l) (max fz (0 + l.length * 2)) false)) h3 (by rw [prs_length]; omega) (Nat.zero_le _) (by
          rw [List.drop_zero, List.take_of_length_le (by rw [prs_length]; omega), plains prs_plain])
    refine ⟨_, _, e, ?_, .inr (.inr ⟨id, ver, max fz (0 + l.length * 2), h1, rfl, by simp [hlt]⟩), by simp, fun j hj => ?_⟩
    · rw [chunks_two]; exact .lst
    · have : id ≠ j := fun hc => hj (by rw [hc]; rfl)
      simp [this]
/-- three contests: c, o and back, in blocks 1, 3 and 4 -/
structure Three (n : Nat) (q : AV) (lo lb : List ZZ) (o b : AV) (H : Heap) : Prop where
  c901 : H[1]? = some (.row 0 [.int .i64 (n : Nat), q] 0 true)
  c903 : H[3]? = some (.row 0 [.int .i64 (n : Nat), o] 0 true)
  c904 : H[4]? = some (.row 0 [.int .i64 (n : Nat), b] 0 true)
  ho : PV H o lo
  hb : Own 5 2 (prs lb) b H
  sep : ∀ j, idOf o = some j → idOf b ≠ some j
variable {n : Nat} {q o b : AV} {lo lb : List ZZ}
theorem Three.len (g : Three n q lo lb o b H) : 5 ≤ H.length := by
  have := (List.getElem?_eq_some_iff.1 g.c904).1; omega
theorem Three.push (g : Three n q lo lb o b H) {x : Blk} : Three n q lo lb o b (H ++ [x]) := by
  have h5 := g.len
  refine ⟨?_, ?_, ?_, g.ho.mono fun j hj => ?_, g.hb.mono fun j hj => ?_, g.sep⟩
  · rw [List.getElem?_append_left (by omega)]; exact g.c901
  · rw [List.getElem?_append_left (by omega)]; exact g.c903
  · rw [List.getElem?_append_left (by omega)]; exact g.c904
  · rw [List.getElem?_append_left (g.ho.lt hj).2]
  · rw [List.getElem?_append_left (g.hb.lt hj).2]
/-- a pair ahead in o -/
theorem Three.seto (g : Three n q lo lb o b H) {lo' : List ZZ} {o' : AV} {H' : Heap} (g' : PV H' o' lo') (hH : H' = H ∨ ∃ x, H' = H ++ [x]) (hid : ∀ j, idOf o' = some j → j = H.length) :
    H'[3]? = some (.row 0 [.int .i64 (n : Nat), o] 0 true) ∧ Three n q lo' lb o' b (H'.set 3 (.row 0 [.int .i64 (n : Nat), o'] 0 true)) := by
  have h5 := g.len
  have g2 : Three n q lo lb o b H' := by
    rcases hH with rfl | ⟨x, rfl⟩
    · exact g
    · exact g.push
  have h5' := g2.len
  refine ⟨g2.c903, ?_, ?_, ?_, g'.mono fun j hj => ?_, g2.hb.mono fun j hj => ?_, fun j hj hb => ?_⟩
  · rw [List.getElem?_set_ne (by omega)]; exact g2.c901
  · rw [List.getElem?_set_self (by omega)]
  · rw [List.getElem?_set_ne (by omega)]; exact g2.c904
  · have := (g'.lt hj).1
    rw [List.getElem?_set_ne (by omega)]
  · have := (g2.hb.lt hj).1
    rw [List.getElem?_set_ne (by omega)]
  · have h1 := hid j hj
    have h2 := (g.hb.lt hb).2
    omega
end Go.Proofs.Ytngoldipfgfecaa.Code
end
section
namespace Go.Proofs.Ytngoldipfgfecaa.Code
open Go Go.Ab
/-! contests with other numbers of the curlers, and with all meetings the other way round -/
def zV (n : Int) (p : ZZ) : Prop := 0 ≤ p.1 ∧ 0 ≤ p.2 ∧ p.1 < n ∧ p.2 < n ∧ p.1 ≠ p.2
def swZ (p : ZZ) : ZZ := (p.2, p.1)
def zN (p q : ZZ) : Prop := q ≠ p ∧ q ≠ swZ p
theorem qin_zN {b : List ZZ} {p : ZZ} : qin b p.1 p.2 = false ↔ ∀ o ∈ b, zN o p := by
  rw [← Bool.not_eq_true, qin_mem]
  constructor
  · intro h o ho
    refine ⟨fun e => h (.inl (e ▸ ho)), fun e => h (.inr ?_)⟩
    rw [e]; exact ho
  · rintro h (h1 | h1)
    · exact (h _ h1).1 rfl
    · exact (h _ h1).2 rfl
theorem chkF_iff {n : Int} : ∀ {l b : List ZZ}, chkF n b l = 0 ↔ (∀ p ∈ l, zV n p) ∧ l.Pairwise zN ∧ (∀ p ∈ l, ∀ o ∈ b, zN o p)
  | [], b => by simp [chkF]
  | p :: r, b => by
    have ih := chkF_iff (n := n) (l := r) (b := b ++ [p])
    simp only [chkF]
    constructor
    · intro h
      split at h
      · cases h
      rename_i g1
      split at h
      · cases h
      rename_i g2
      split at h
      · cases h
      rename_i g3
      obtain ⟨a1, a2, a3⟩ := ih.1 h
      refine ⟨fun q hq => ?_, List.pairwise_cons.2 ⟨fun q hq => a3 q hq p (by simp), a2⟩, fun q hq o ho => ?_⟩
      · rcases List.mem_cons.1 hq with rfl | hq
        · exact ⟨by omega, by omega, by omega, by omega, g2⟩
        · exact a1 q hq
      · rcases List.mem_cons.1 hq with rfl | hq
        · exact qin_zN.1 (by simpa using g3) o ho
        · exact a3 q hq o (List.mem_append_left _ ho)
    · rintro ⟨a1, a2, a3⟩
      obtain ⟨b1, b2⟩ := List.pairwise_cons.1 a2
      have hp := a1 p (List.mem_cons_self ..)
      obtain ⟨c901, c902, c903, c904, c905⟩ := hp
      rw [if_neg (by omega), if_neg c905, if_neg (by
        rw [Bool.not_eq_true]
        exact qin_zN.2 fun o ho => a3 p (List.mem_cons_self ..) o ho)]
      refine ih.2 ⟨fun q hq => a1 q (List.mem_cons_of_mem _ hq), b2, fun q hq o ho => ?_⟩
      rcases List.mem_append.1 ho with ho | ho
      · exact a3 q (List.mem_cons_of_mem _ hq) o ho
      · rw [List.mem_singleton] at ho; subst ho; exact b1 q hq
theorem chkF_iff0 {n : Int} {l : List ZZ} : chkF n [] l = 0 ↔ (∀ p ∈ l, zV n p) ∧ l.Pairwise zN := by
  rw [chkF_iff]
  exact ⟨fun h => ⟨h.1, h.2.1⟩, fun h => ⟨h.1, h.2, fun _ _ o ho => by simp at ho⟩⟩
theorem OkC.mk' {n : Nat} {l : List ZZ} (h7 : n ≤ 7) (h1 : 1 ≤ n) (hc : chkF (n : Int) [] l = 0) (hl : halfN n ≤ l.length) : OkC n l := by
  refine ⟨h7, h1, ?_⟩
  unfold checkS
  rw [if_pos (by simp [within]; omega), if_pos hc, if_neg (by simpa using hl)]
structure Turn (n : Nat) (f g : Nat → Nat → Bool) (s t : Nat → Nat) : Prop where
  lt : ∀ x, x < n → s x < n
  lt' : ∀ x, x < n → t x < n
  ts : ∀ x, x < n → t (s x) = x
  st : ∀ x, x < n → s (t x) = x
  eq : ∀ x y, x < n → y < n → g (s x) (s y) = f x y
section
variable {n : Nat} {f g : Nat → Nat → Bool} {s t : Nat → Nat}
theorem Turn.symm (h : Turn n f g s t) : Turn n g f t s :=
  ⟨h.lt', h.lt, h.st, h.ts, fun x y hx hy => by rw [← h.eq _ _ (h.lt' x hx) (h.lt' y hy), h.st x hx, h.st y hy]⟩
theorem Turn.inj (h : Turn n f g s t) {x y : Nat} (hx : x < n) (hy : y < n) (e : s x = s y) : x = y := by
  rw [← h.ts x hx, ← h.ts y hy, e]
theorem mapS_nodup {l : List Nat} (hl : l.Nodup) {s : Nat → Nat} (hi : ∀ x ∈ l, ∀ y ∈ l, s x = s y → x = y) : (l.map s).Nodup := by
  unfold List.Nodup at hl ⊢
  rw [List.pairwise_map]
  exact hl.imp_of_mem fun ha hb hne he => hne (hi _ ha _ hb he)
theorem Turn.perm (h : Turn n f g s t) : ((List.range n).map s).Perm (List.range n) := by
  rw [List.perm_ext_iff_of_nodup (mapS_nodup List.nodup_range fun x hx y hy e => h.inj (List.mem_range.1 hx) (List.mem_range.1 hy) e) List.nodup_range]
  intro a
  rw [List.mem_map, List.mem_range]
  constructor
  · rintro ⟨x, hx, rfl⟩; exact h.lt x (List.mem_range.1 hx)
  · exact fun ha => ⟨t a, List.mem_range.2 (h.lt' a ha), h.st a ha⟩
end
theorem OkC.nat {n : Nat} {l : List ZZ} (h : OkC n l) : ∀ p ∈ l, ∃ x y : Nat, x < n ∧ y < n ∧ x ≠ y ∧ p = ((x : Int), (y : Int)) := fun p hp => by
  obtain ⟨a1, a2, a3, a4, a5⟩ := (chkF_iff0.1 h.chk).1 p hp
  obtain ⟨a, b⟩ := p
  simp only at a1 a2 a3 a4 a5
  obtain ⟨x, rfl⟩ := Int.eq_ofNat_of_zero_le a1
  obtain ⟨y, rfl⟩ := Int.eq_ofNat_of_zero_le a2
  exact ⟨x, y, by omega, by omega, by omega, rfl⟩
theorem zV_nat {n : Nat} {p : ZZ} (h : zV (n : Int) p) : ∃ x y : Nat, x < n ∧ y < n ∧ x ≠ y ∧ p = ((x : Int), (y : Int)) := by
  obtain ⟨a1, a2, a3, a4, a5⟩ := h
  obtain ⟨a, b⟩ := p
  simp only at a1 a2 a3 a4 a5
  obtain ⟨x, rfl⟩ := Int.eq_ofNat_of_zero_le a1
  obtain ⟨y, rfl⟩ := Int.eq_ofNat_of_zero_le a2
  exact ⟨x, y, by omega, by omega, by omega, rfl⟩
/-! rows -/
section
variable {n : Nat} {f g : Nat → Nat → Bool} {s t : Nat → Nat}
theorem rows_iff {L : List Nat} : L ∈ rowsR f n n [] ↔ Valid f n L ∧ L.length = n := by
  constructor
  · intro h
    obtain ⟨h1, _, h3⟩ := rows_valid (s := []) ⟨by simp, by simp, trivial⟩ h
    exact ⟨h1, by simpa using h3⟩
  · rintro ⟨h1, h2⟩
    exact rows_has h1 (by simpa using h2) (by simp)
theorem chainL_map (h : Turn n f g s t) : ∀ {L : List Nat}, (∀ x ∈ L, x < n) → chainL f L → chainL g (L.map s)
  | [], _, _ => trivial
  | [_], _, _ => trivial
  | a :: b :: r, hL, hc => by
    refine ⟨?_, chainL_map h (L := b :: r) (fun x hx => hL x (List.mem_cons_of_mem _ hx)) hc.2⟩
    rw [h.eq a b (hL a (by simp)) (hL b (by simp))]; exact hc.1
theorem Turn.row (h : Turn n f g s t) {L : List Nat} (hL : L ∈ rowsR f n n []) : L.map s ∈ rowsR g n n [] := by
  obtain ⟨h1, h2⟩ := rows_iff.1 hL
  refine rows_iff.2 ⟨⟨mapS_nodup h1.nodup fun x hx y hy e => h.inj (h1.lt x hx) (h1.lt y hy) e, fun x hx => ?_, chainL_map h h1.lt h1.chain⟩, by simpa using h2⟩
  obtain ⟨y, hy, rfl⟩ := List.mem_map.1 hx
  exact h.lt y (h1.lt y hy)
end
/-! groups -/
end Go.Proofs.Ytngoldipfgfecaa.Code
end
section
namespace Go.Proofs.Ytngoldipfgfecaa.Code
open Go Go.Ab
variable {pure : Bool} {base bar : Nat} {H : Heap} {Q : AV → Heap → Prop} {K : AV → Heap → List Nat → Prop}
/-! lists of numbers with a sign -/
def ints (l : List Int) : List AV := l.map (.int .i64)
def isZ (v : AV) (l : List Int) : Prop := (v = .nils ∧ l = []) ∨ ∃ ex, v = .lst 1 ex (ints l)
def natsZ (l : List Nat) : List Int := l.map fun x : Nat => (x : Int)
theorem ints_nats {l : List Nat} : ints (natsZ l) = nats l := by simp [ints, natsZ, nats]
theorem isL.z {v : AV} {l : List Nat} (h : isL v l) : isZ v (natsZ l) := by
  rcases h with ⟨rfl, rfl⟩ | ⟨ex, rfl⟩
  · exact .inl ⟨rfl, rfl⟩
  · exact .inr ⟨ex, by rw [ints_nats]⟩
theorem isZ.l {v : AV} {l : List Nat} (h : isZ v (natsZ l)) : isL v l := by
  rcases h with ⟨rfl, h⟩ | ⟨ex, rfl⟩
  · cases l with
    | nil => exact .nil
    | cons a r => simp [natsZ] at h
  · rw [ints_nats]; exact .lst
theorem isZ.len {v : AV} {l : List Int} (h : isZ v l) : lenWp (some v) H K = K (.int .i64 (l.length : Int)) H [] := by
  rcases h with ⟨rfl, rfl⟩ | ⟨ex, rfl⟩
  · rfl
  · rw [lenWp_lst]; simp [ints]
theorem isZ.frz {v : AV} {l : List Int} (h : isZ v l) {d : Nat} : Go.Ab.frz (d + 1) bar H v = some (v, H) := by
  rcases h with ⟨rfl, rfl⟩ | ⟨ex, rfl⟩ <;> rfl
theorem isZ.top {v : AV} {l : List Int} (h : isZ v l) : v.top = 0 := by
  rcases h with ⟨rfl, rfl⟩ | ⟨ex, rfl⟩
  · rfl
  · show AV.top.tops _ = 0
    exact tops_ints
theorem isZ.ix {v : AV} {l : List Int} (h : isZ v l) {k : IntKind} {i : Nat} (hi : i < l.length) : ixaSWp 1 (some v) (some (.int k (i : Int))) H K = K (.fp (.int .i64 l[i])) H [] := by
  rcases h with ⟨rfl, rfl⟩ | ⟨ex, rfl⟩
  · simp at hi
  · rw [ixaSWp_lst]
    simp only [Int.toNat_natCast]
    rw [show (ints l)[i]? = some (.int .i64 l[i]) by simp [ints, List.getElem?_eq_getElem hi]]
    simp [valWp_some]
/-! 90, 94, 89: a score that is out of range -/
def outR (n s : Int) : Bool := !(within 0 (IntKind.i64.wrap (n - 1)) s)
theorem k88 {id ver fz : Nat} {ex : Bool} {n s : Int} (hid : H[id]? = some (.row ver [.int .i64 n] fz ex)) (h : Q (.bool (outR n s)) H) : WpCall E pure base bar 88 [.int .i64 s, .ptr id ver 0] H Q := by
  have hlt := (List.getElem?_eq_some_iff.1 hid).1
  have ld : aload H ⟨false, 1⟩ (.ptr id ver 0) = some (.int .i64 n) := by rw [aload_ptr hid]; rfl
  rw [call88]
  simp [go_sem, WpFun, c88, ld, k86]
  exact h
theorem l94 {id ver fz : Nat} {ex : Bool} {n : Int} {v : AV} {l : List Int} (hv : isZ v l) (hl : l.length < 1000) (hid : H[id]? = some (.row ver [.int .i64 n] fz ex)) {R : PQ} : ∀ (k i : Nat), i + k = l.length →
    ((l.drop i).any (outR n) = false → R (.exit 0) [(0, v), (1, .fn 88 [] [.ptr id ver 0]), (7, .int .i64 (l.length : Nat)), (8, .int .i64 (l.length : Nat)), (9, .bool false)] H) →
    ((l.drop i).any (outR n) = true → ∀ j : Nat, R .ret [(4, .int .i64 (j : Nat))] H) →
    Wp E base bar (.loop c94_l0) [(0, v), (1, .fn 88 [] [.ptr id ver 0]), (7, .int .i64 (l.length : Nat)), (8, .int .i64 (i : Nat))] H R := by
  intro k
  induction k with
  | zero =>
    intro i hi h1 h2
    obtain rfl : i = l.length := by omega
    rw [List.drop_length] at h1
    rw [wp_round c94_l0.eq_1]
    simp [go_sem]
    exact h1 rfl
  | succ k ih =>
    intro i hi h1 h2
    have hlt : i < l.length := by omega
    rw [List.drop_eq_getElem_cons hlt, List.any_cons] at h1 h2
    have hix := fun (K : AV → Heap → List Nat → Prop) (k : IntKind) => hv.ix (H := H) (K := K) (k := k) hlt
    generalize l[i] = x at *
    rw [wp_round c94_l0.eq_1]
    simp [go_sem, hlt, hix]
    refine k88 hid ?_
    cases hc : outR n x
    · rw [hc] at h1 h2
      simp only [Bool.false_or] at h1 h2
      have next := ih (i + 1) (by omega) h1 h2
      simp [go_sem, i64_suc (show i < 1000000 by omega)]
      exact next
    · rw [hc] at h1 h2
      simp [go_sem]
      exact h2 rfl i
theorem k87 {id ver fz : Nat} {ex : Bool} {n : Int} {v : AV} {l : List Int} (hv : isZ v l) (hl : l.length < 1000) (hid : H[id]? = some (.row ver [.int .i64 n] fz ex)) (h : Q (.bool (l.any (outR n))) H) :
    WpCall E pure base bar 87 [v, .fn 88 [] [.ptr id ver 0]] H Q := by
  rw [call87]
  simp [go_sem, WpFun, c87, hv.frz]
  rw [call94]
  simp [go_sem, WpFun, c94, hv.frz, hv.len]
  refine l94 hv hl hid l.length 0 (by omega) (fun hm => ?_) (fun hm j => ?_)
  · rw [List.drop_zero] at hm
    rw [hm] at h
    simp [go_sem]
    exact h
  · rw [List.drop_zero] at hm
    rw [hm] at h
    simp [go_sem]
    exact h
/-! 73: the error of scores -/
def summedS (l : List Int) : Int :=
  if l.length = 0 then 4 else if 7 < l.length then 3 else if l.any (outR (l.length : Int)) = true then 1 else if l.sum = ((halfN l.length : Nat) : Int) then 0 else 17
theorem outR_in {n : Nat} {s : Int} (hn : n ≤ 7) : outR (n : Int) s = false ↔ 0 ≤ s ∧ s < (n : Int) := by
  unfold outR
  by_cases h0 : n = 0
  · subst h0
    simp [within, show IntKind.i64.wrap (-1) = -1 from by decide]
    omega
  · rw [show (n : Int) - 1 = ((n - 1 : Nat) : Int) by omega, i64_nat (by omega)]
    simp [within]
    omega
theorem l65 {id ver : Nat} {ex : Bool} {v : AV} {l : List Int} (hv : isZ v l) (hl : l.length ≤ 7) (hr : ∀ s ∈ l, 0 ≤ s ∧ s < 7) (hb : bar ≤ id) {R : PQ} : ∀ (k i : Nat) (c : Int) (H : Heap), i + k = l.length →
    H[id]? = some (.row ver [.int .i64 c] 0 ex) → -60 ≤ c - 7 * (k : Int) → c ≤ 60 →
    (R (.exit 1) [(0, v), (3, .ptr id ver 0), (19, v), (20, .int .i64 (l.length : Nat)), (21, .int .i64 (l.length : Nat)), (22, .bool false)] (H.set id (.row ver [.int .i64 (c - (l.drop i).sum)] 0 ex))) →
    Wp E base bar (.loop c65_l0) [(0, v), (3, .ptr id ver 0), (19, v), (20, .int .i64 (l.length : Nat)), (21, .int .i64 (i : Nat))] H R := by
  intro k
  induction k with
  | zero =>
    intro i c H hi hid h1 h2 h
    obtain rfl : i = l.length := by omega
    rw [List.drop_length] at h
    simp only [List.sum_nil, Int.sub_zero] at h
    rw [set_same hid] at h
    rw [wp_round c65_l0.eq_1]
    simp [go_sem]
    exact h
  | succ k ih =>
    intro i c H hi hid h1 h2 h
    have hlt : i < l.length := by omega
    rw [List.drop_eq_getElem_cons hlt, List.sum_cons] at h
    obtain ⟨r1, r2⟩ := hr l[i] (List.getElem_mem hlt)
    have hix := fun (H : Heap) (K : AV → Heap → List Nat → Prop) (k : IntKind) => hv.ix (H := H) (K := K) (k := k) hlt
    generalize l[i] = x at *
    have ld : aload H ⟨false, 1⟩ (.ptr id ver 0) = some (.int .i64 c) := by rw [aload_ptr hid]; rfl
    have hw : IntKind.i64.wrap (c - x) = c - x := Go.IntWalk.i64_in _ (by omega)
    have hid2 : (H.set id (.row ver [.int .i64 (c - x)] 0 ex))[id]? = some (.row ver [.int .i64 (c - x)] 0 ex) := set_get hid
    have next := ih (i + 1) (c - x) (H.set id (.row ver [.int .i64 (c - x)] 0 ex)) (by omega) hid2 (by omega) (by omega) (by
      rw [List.set_set, Int.sub_sub]; exact h)
    rw [wp_round c65_l0.eq_1]
    simp [go_sem, hlt, hix, ld, hw]
    rw [storeWp_ptr (size := 1) hid rfl rfl (by omega) (by simp) hb (.inr (by simp [AV.cells, tops_cons, tops_nil, top_int]))]
    simp [go_sem, setCells, AV.cells, i64_suc (show i < 1000000 by omega)]
    exact next
theorem k65 {v : AV} {l : List Int} (hv : isZ v l) (hl : l.length < 1000) (hbar : bar ≤ H.length) (h : Q (.int .i64 (summedS l)) H) : WpCall E pure base bar 65 [v] H Q := by
  rw [call65]
  have hb' := bar_ok (pure := pure) hbar
  simp [go_sem, WpFun, c65, hv.frz, hv.len] at hb' ⊢
  generalize (if pure = true then H.length else bar) = bar' at hb' ⊢
  have ld : ∀ c : Int, aload (H ++ [.row 0 [.int .i64 c] 0 true]) ⟨false, 1⟩ (.ptr H.length 0 0) = some (.int .i64 c) := fun c => by simp [aload, own_get0, Ab.part]
  have hid : ∀ c : Int, (H ++ [Blk.row 0 [.int .i64 c] 0 true])[H.length]? = some (.row 0 [.int .i64 c] 0 true) := fun c => by simp
  unfold summedS at h
  simp [go_sem, storeWp, astore, own_get0, own_set, setCells, hb', AV.isTup, AV.cells, AV.top.tops, AV.top, ld]
  by_cases c900 : l.length = 0
  · rw [if_pos c900] at h
    have c900' : l = [] := List.length_eq_zero_iff.1 c900
    simp [go_sem, c900, c900', natEq]
    exact h
  rw [if_neg c900] at h
  have c900' : l ≠ [] := fun e => c900 (by rw [e]; rfl)
  by_cases c907 : 7 < l.length
  · rw [if_pos c907] at h
    simp [go_sem, c900, c900', c907, natEq, show (7 : Int) < (l.length : Int) by omega]
    exact h
  rw [if_neg c907] at h
  simp [go_sem, c900, c900', c907, natEq, show ¬ (7 : Int) < (l.length : Int) by omega]
  refine k87 hv hl (hid _) ?_
  cases ha : l.any (outR (l.length : Int))
  · rw [ha] at h
    simp only [Bool.false_eq_true, if_false] at h
    have hr : ∀ s ∈ l, 0 ≤ s ∧ s < 7 := fun s hs => by
      have h1 := List.any_eq_false.1 ha s hs
      have h2 := (outR_in (n := l.length) (s := s) (by omega)).1 (by simpa using h1)
      omega
    have hb : -60 ≤ (l.length : Int) - 7 * (l.length : Int) := by omega
    simp [go_sem, hv.len]
    refine l65 hv (by omega) hr (id := H.length) (by omega) l.length 0 (l.length : Int) _ (by omega) (hid _) (by omega) (by omega) ?_
    have est : ∀ a b : Blk, (H ++ [a]).set H.length b = H ++ [b] := fun a b => by simp
    rw [est, List.drop_zero]
    have hs : ∀ (l : List Int), (∀ s ∈ l, 0 ≤ s ∧ s < 7) → 0 ≤ l.sum ∧ l.sum ≤ 7 * (l.length : Int) := by
      intro l
      induction l with
      | nil => intro _; simp
      | cons a r ih =>
        intro h
        have h1 := h a (List.mem_cons_self ..)
        have h2 := ih fun s hs => h s (List.mem_cons_of_mem _ hs)
        simp only [List.sum_cons, List.length_cons]
        omega
    have hsl := hs l hr
    have hw : IntKind.i64.wrap ((l.length : Int) - ((l.length : Int) - l.sum)) = l.sum := by
      rw [show (l.length : Int) - ((l.length : Int) - l.sum) = l.sum by omega]
      exact Go.IntWalk.i64_in _ (by omega)
    have hh := half_tab l.length (by omega)
    by_cases hq : l.sum = ((halfN l.length : Nat) : Int)
    · rw [if_pos hq] at h
      rw [hq] at hw
      simp [go_sem, hv.len, ld, hw, hh, abin_quo, hq]
      exact h
    · rw [if_neg hq] at h
      simp [go_sem, hv.len, ld, hw, hh, abin_quo, hq]
      exact h
  · rw [ha] at h
    simp only [if_true] at h
    simp [go_sem]
    exact h
end Go.Proofs.Ytngoldipfgfecaa.Code
end
section
namespace Go.Proofs.Ytngoldipfgfecaa.Code
open Go Go.Ab
variable {pure : Bool} {base bar : Nat} {H : Heap} {Q : AV → Heap → Prop}
/-! 92, 81, 47: lists are compared -/
theorem k93 {n : Int} : WpCall E pure base bar 93 [.int .i64 n] H Q ↔ Q (.bool false) H := by
  rw [call93]
  simp [go_sem, WpFun, c93]
def cmp3 (a b : Nat) : Int := if a < b then -1 else if b < a then 1 else 0
theorem k83 {a b : Nat} : WpCall E pure base bar 83 [.int .i64 a, .int .i64 b] H Q ↔ Q (.int .i64 (cmp3 a b)) H := by
  rw [call83]
  simp [go_sem, WpFun, c83, k93]
  unfold cmp3
  by_cases h : a < b
  · simp [h]
  · by_cases h2 : b < a <;> simp [h, h2]
def cmpL : List Nat → List Nat → Int
  | [], [] => 0
  | [], _ :: _ => -1
  | _ :: _, [] => 1
  | a :: x, b :: y => if cmp3 a b = 0 then cmpL x y else cmp3 a b
theorem cmpL_nil {x y : List Nat} (h : x.length ≤ y.length) (hx : x = []) : cmpL x y = if x.length < y.length then -1 else 0 := by
  subst hx
  cases y <;> simp [cmpL]
theorem l55 {a b : AV} {x y : List Nat} (ha : isL a x) (hb : isL b y) (hx : x.length < 100000) (hy : y.length < 100000) {R : PQ} : ∀ (k i : Nat), i + k = x.length → i ≤ y.length →
    (R .ret [(4, .int .i64 (cmpL (x.drop i) (y.drop i)))] H) →
    (x.length ≤ y.length → cmpL (x.drop i) (y.drop i) = (if x.length < y.length then -1 else 0) → R (.exit 0) [(0, a), (1, b), (9, a), (10, .int .i64 (x.length : Nat)), (11, .int .i64 (x.length : Nat)), (12, .bool false)] H) →
    Wp E base bar (.loop c55_l0) [(0, a), (1, b), (9, a), (10, .int .i64 (x.length : Nat)), (11, .int .i64 (i : Nat))] H R := by
  intro k
  induction k with
  | zero =>
    intro i hi hy2 hr he
    obtain rfl : i = x.length := by omega
    rw [wp_round c55_l0.eq_1]
    simp [go_sem]
    refine he hy2 ?_
    have := cmpL_nil (x := x.drop x.length) (y := y.drop x.length) (by simp) (by simp)
    rw [this]
    simp only [List.length_drop, Nat.sub_self]
    have : (0 < y.length - x.length) ↔ (x.length < y.length) := by omega
    simp [this]
  | succ k ih =>
    intro i hi hy2 hr he
    rw [wp_round c55_l0.eq_1]
    have hlt : i < x.length := by omega
    simp [go_sem, hlt, ha.ix hlt, hb.len]
    by_cases hyi : y.length ≤ i
    · simp [go_sem, hyi]
      rw [List.drop_eq_getElem_cons hlt, List.drop_eq_nil_of_le hyi] at hr
      exact hr
    · have hyi : i < y.length := by omega
      simp [go_sem, show ¬ y.length ≤ i by omega, hb.ix hyi, k83]
      rw [List.drop_eq_getElem_cons hlt, List.drop_eq_getElem_cons hyi] at hr he
      simp only [cmpL] at hr he
      by_cases hc : cmp3 x[i] y[i] = 0
      · simp [go_sem, hc, i64_suc (show i < 1000000 by omega)] at hr he ⊢
        exact ih (i + 1) (by omega) (by omega) hr he
      · simp [go_sem, hc] at hr ⊢
        exact hr
theorem k55 {a b : AV} {x y : List Nat} (ha : isL a x) (hb : isL b y) (hx : x.length < 100000) (hy : y.length < 100000) (h : Q (.int .i64 (cmpL x y)) H) : WpCall E pure base bar 55 [a, b] H Q := by
  rw [call55]
  simp [go_sem, WpFun, c55, ha.frz, hb.frz, ha.len]
  refine l55 ha hb hx hy x.length 0 (by omega) (by omega) ?_ ?_
  · simp [go_sem]; exact h
  · intro hl he
    simp only [List.drop_zero] at he
    rw [he] at h
    simp [go_sem, ha.len, hb.len]
    by_cases hc : x.length < y.length
    · simp [go_sem, hc] at h ⊢; exact h
    · simp [go_sem, hc] at h ⊢; exact h
/-! 74: by how much scores are less than the meetings between them -/
def sumS (s : List Nat) (T : List Nat) : Nat := (T.map fun x => s.getD x 0).sum
def lessW (s : List Nat) (S : Nat) : Int := ((halfN (bitsOf S).length : Nat) : Int) - ((sumS s (bitsOf S) : Nat) : Int)
theorem l66 {v lv : AV} {s L : List Nat} (hv : isL v s) (hs : ∀ x ∈ s, x < 7) (hl : isL lv L) (hL : ∀ x ∈ L, x < s.length) (hLl : L.length ≤ 8) {R : PQ} : ∀ (k i : Nat) (a : Int), i + k = L.length → -100 ≤ a - 7 * (k : Int) → a ≤ 100 →
    R (.exit 0) [(0, v), (6, .int .i64 (a - ((sumS s (L.drop i) : Nat) : Int))), (18, lv), (19, .int .i64 (L.length : Nat)), (20, .int .i64 (L.length : Nat)), (21, .bool false)] H →
    Wp E base bar (.loop c66_l0) [(0, v), (6, .int .i64 a), (18, lv), (19, .int .i64 (L.length : Nat)), (20, .int .i64 (i : Nat))] H R := by
  intro k
  induction k with
  | zero =>
    intro i a hi h1 h2 h
    obtain rfl : i = L.length := by omega
    rw [List.drop_length] at h
    rw [wp_round c66_l0.eq_1]
    simp [go_sem]
    simpa [sumS] using h
  | succ k ih =>
    intro i a hi h1 h2 h
    have hlt : i < L.length := by omega
    have hx := hL L[i] (List.getElem_mem hlt)
    rw [List.drop_eq_getElem_cons hlt] at h
    have e : ∀ (x : Nat) (r : List Nat), sumS s (x :: r) = s.getD x 0 + sumS s r := fun x r => by simp [sumS]
    rw [e] at h
    have hix := fun (K : AV → Heap → List Nat → Prop) (k : IntKind) => hl.ix (H := H) (K := K) (k := k) hlt
    generalize L[i] = x at *
    have hsx : s[x] = s.getD x 0 := getD_get hx
    have h7 := hs s[x] (List.getElem_mem hx)
    have hix2 := fun (K : AV → Heap → List Nat → Prop) (k : IntKind) => hv.ix (H := H) (K := K) (k := k) hx
    rw [hsx] at h7
    simp only [hsx] at hix2
    clear hsx
    generalize s.getD x 0 = y at *
    have hw : IntKind.i64.wrap (a - (y : Int)) = a - (y : Int) := Go.IntWalk.i64_in _ (by omega)
    have next := ih (i + 1) (a - (y : Int)) (by omega) (by omega) (by omega) (by
      have e2 : a - (y : Int) - ((sumS s (L.drop (i + 1)) : Nat) : Int) = a - ((y + sumS s (L.drop (i + 1)) : Nat) : Int) := by omega
      rw [e2]; exact h)
    rw [wp_round c66_l0.eq_1]
    simp [go_sem, hlt, hix, hix2, hw, i64_suc (show i < 1000000 by omega)]
    exact next
theorem k66 {v : AV} {s : List Nat} {S : Nat} (hv : isL v s) (hs7 : s.length ≤ 7) (hs : ∀ x ∈ s, x < 7) (hS : S < pw s.length) (hbar : bar ≤ H.length) (h : Q (.int .i64 (lessW s S)) H) : WpCall E pure base bar 66 [v, .int .u8 (S : Nat)] H Q := by
  rw [call66]
  have hb' := bar_ok (pure := pure) hbar
  have hp : pw s.length ≤ 128 := Nat.pow_le_pow_right (by decide) hs7
  have hL : ∀ x ∈ bitsOf S, x < s.length := fun x hx => by
    have hb : S.testBit x = true := by
      unfold bitsOf at hx
      exact (List.mem_filter.1 hx).2
    apply Decidable.byContradiction
    intro hc
    have : S < 2 ^ x := Nat.lt_of_lt_of_le hS (Nat.pow_le_pow_right (by decide) (by omega))
    rw [Nat.testBit_lt_two_pow this] at hb
    cases hb
  simp [go_sem, WpFun, c66, hv.frz] at hb' ⊢
  generalize (if pure = true then H.length else bar) = bar' at hb' ⊢
  refine k67 (by omega) (by omega) ?_
  have hlv := isL.out (l := bitsOf S)
  have h8 := bits_len8 S
  have hh := half_tab (bitsOf S).length h8
  have hhl := half_le (bitsOf S).length h8
  unfold lessW at h
  generalize outL 1 (nats (bitsOf S)) = lv at *
  generalize bitsOf S = L at *
  simp [go_sem, hlv.len, hh, abin_quo]
  refine l66 hv hs hlv hL h8 L.length 0 _ (by omega) (by omega) (by omega) ?_
  rw [List.drop_zero]
  simp [go_sem]
  exact h
/-! 38: the first proof against scores -/
def fewer (x y : List Nat) : Prop := x.length < y.length ∨ x.length = y.length ∧ cmpL x y < 0
instance {x y : List Nat} : Decidable (fewer x y) := by unfold fewer; exact inferInstance
def stepA (s b : List Nat) (S : Nat) : List Nat := if 0 < lessW s S ∧ (b = [] ∨ fewer (bitsOf S) b) then bitsOf S else b
def bestA (s : List Nat) : List Nat := (List.range' 1 (pw s.length - 1)).foldl (stepA s) []
theorem stepA_len {s b : List Nat} {S : Nat} (h : b.length ≤ 8) : (stepA s b S).length ≤ 8 := by
  unfold stepA
  split
  · exact bits_len8 _
  · exact h
theorem l32 {v : AV} {s : List Nat} (hv : isL v s) (hs7 : s.length ≤ 7) (hs : ∀ x ∈ s, x < 7) (hbar : bar ≤ H.length) {R : PQ} : ∀ (k S : Nat) (b : List Nat) (bv : AV), S + k = pw s.length → 1 ≤ S → isN bv b → b.length ≤ 8 →
    (∀ bv', isN bv' ((List.range' S k).foldl (stepA s) b) → R (.exit 0) [(0, v), (5, bv'), (6, .int .u8 (pw s.length : Nat)), (17, .bool false)] H) →
    Wp E base bar (.loop c32_l0) [(0, v), (5, bv), (6, .int .u8 (S : Nat))] H R := by
  have hp : pw s.length ≤ 128 := Nat.pow_le_pow_right (by decide) hs7
  intro k
  induction k with
  | zero =>
    intro S b bv hS h1 hb hbl h
    obtain rfl : S = pw s.length := by omega
    rw [wp_round c32_l0.eq_1]
    simp [go_sem, hv.len, shl_u8 (show s.length < 8 by omega)]
    exact h bv hb
  | succ k ih =>
    intro S b bv hS h1 hb hbl h
    have hlt : S < pw s.length := by omega
    rw [List.range'_succ, List.foldl_cons] at h
    have next := fun bv' hb' => ih (S + 1) (stepA s b S) bv' (by omega) (by omega) hb' (stepA_len hbl) h
    have hw : IntKind.u8.wrap ((S : Int) + 1) = (S : Int) + 1 := Go.IntWalk.u8_in _ (by omega)
    have hlv := isL.out (l := bitsOf S)
    have hne : bitsOf S ≠ [] := fun e => by
      have : S = 0 := Nat.eq_of_testBit_eq fun i => by
        rw [Nat.zero_testBit]
        cases hb : S.testBit i
        · rfl
        · have hi8 : i < 8 := by
            apply Decidable.byContradiction
            intro hc
            have : S < 2 ^ i := Nat.lt_of_lt_of_le (show S < 2 ^ 8 by omega) (Nat.pow_le_pow_right (by decide) (by omega))
            rw [Nat.testBit_lt_two_pow this] at hb; cases hb
          have : i ∈ bitsOf S := by unfold bitsOf; simp [hi8, hb]
          rw [e] at this; simp at this
      omega
    have h8 := bits_len8 S
    have hbe := fun (neg : Bool) (K : AV → Heap → List Nat → Prop) => hb.eq (H := H) (neg := neg) (K := K)
    have hbN := hb.1
    unfold stepA at next
    rw [wp_round c32_l0.eq_1]
    simp [go_sem, hv.len, shl_u8 (show s.length < 8 by omega), hlt]
    refine k66 hv hs7 hs hlt hbar ?_
    by_cases c901 : 0 < lessW s S
    · simp [go_sem, show ¬ lessW s S ≤ 0 by omega]
      refine k67 (by omega) hbar ?_
      generalize outL 1 (nats (bitsOf S)) = lv at *
      generalize bitsOf S = L at *
      have hlvN : isN lv L := ⟨hlv, fun e => absurd e hne⟩
      simp only [c901, true_and] at next
      by_cases hb0 : b = []
      · subst hb0
        simp only [true_or, if_true] at next
        simp [go_sem, hbe, hw]
        exact next lv hlvN
      · have hbe' : b.isEmpty = false := by cases b with
          | nil => exact absurd rfl hb0
          | cons a r => rfl
        simp only [hb0, false_or] at next
        unfold fewer at next
        simp [go_sem, hbe, hbe', hlv.len, hbN.len]
        by_cases c902 : L.length < b.length
        · simp only [c902, true_or, if_true] at next
          simp [go_sem, c902, hw, show ¬ b.length ≤ L.length by omega]
          exact next lv hlvN
        · by_cases c903 : L.length = b.length
          · simp [go_sem, c902, c903, natEq, hbN.len]
            refine k55 hlv hbN (by omega) (by omega) ?_
            by_cases c904 : cmpL L b < 0
            · simp only [c903, c904, Nat.lt_irrefl, true_and, false_or, if_true] at next
              simp [go_sem, c904, hw]
              exact next lv hlvN
            · simp only [c903, c904, Nat.lt_irrefl, and_false, or_false, if_false] at next
              simp [go_sem, c904, hw]
              exact next bv hb
          · simp only [c902, c903, false_and, or_false, if_false] at next
            simp [go_sem, c902, c903, natEq, hbN.len, hw, show b.length ≤ L.length by omega]
            exact next bv hb
    · simp only [c901, false_and, if_false] at next
      simp [go_sem, show lessW s S ≤ 0 by omega, hw]
      exact next bv hb
/-- scores that are added up -/
structure OkS (s : List Nat) : Prop where
  pos : 1 ≤ s.length
  le : s.length ≤ 7
  lt : ∀ x ∈ s, x < s.length
  sum : s.sum = halfN s.length
theorem OkS.lt7 {s : List Nat} (h : OkS s) : ∀ x ∈ s, x < 7 := fun x hx => by have := h.lt x hx; have := h.le; omega
theorem natsZ_sum {s : List Nat} : (natsZ s).sum = ((s.sum : Nat) : Int) := by
  induction s with
  | nil => rfl
  | cons a r ih =>
    unfold natsZ at ih ⊢
    rw [List.map_cons, List.sum_cons, List.sum_cons, ih]; simp
theorem OkS.summed {s : List Nat} (h : OkS s) : summedS (natsZ s) = 0 := by
  have hl : (natsZ s).length = s.length := by simp [natsZ]
  have h1 := h.pos
  have h7 := h.le
  unfold summedS
  rw [hl, if_neg (by omega), if_neg (by omega), if_neg, if_pos]
  · rw [natsZ_sum, h.sum]
  · rw [Bool.not_eq_true, List.any_eq_false]
    intro x hx
    obtain ⟨y, hy, rfl⟩ := List.mem_map.1 hx
    have := h.lt y hy
    rw [(outR_in h7).2 (by omega)]; simp
theorem k32 {v : AV} {s : List Nat} (hv : isL v s) (hs : OkS s) (hbar : bar ≤ H.length) (h1 : bestA s = [] → Q (.tup [.nils, .int .i64 13]) H) (h2 : bestA s ≠ [] → ∀ w, isL w (bestA s) → Q (.tup [w, .int .i64 0]) H) : WpCall E pure base bar 32 [v] H Q := by
  rw [call32]
  have hb' := bar_ok (pure := pure) hbar
  have h7 := hs.le
  simp [go_sem, WpFun, c32, hv.frz] at hb' ⊢
  generalize (if pure = true then H.length else bar) = bar' at hb' ⊢
  refine k65 (isL.z hv) (by unfold natsZ; rw [List.length_map]; omega) (by omega) ?_
  rw [hs.summed]
  have hp1 : 1 ≤ pw s.length := Nat.one_le_two_pow
  simp [go_sem]
  refine l32 hv h7 hs.lt7 (by omega) (pw s.length - 1) 1 [] .nils (by omega) (by omega) ⟨.nil, fun _ => rfl⟩ (by simp) fun bv hb => ?_
  have hb2 : isN bv (bestA s) := hb
  have hbN := hb2.1
  have hbe := fun (neg : Bool) (K : AV → Heap → List Nat → Prop) => hb2.eq (H := H) (neg := neg) (K := K)
  by_cases hc : bestA s = []
  · have hn := hb2.2 hc
    subst hn
    rw [hc] at hbe
    simp [go_sem, hbe]
    exact h1 hc
  · have hbe' : (bestA s).isEmpty = false := by
      cases hq : bestA s with
      | nil => exact absurd hq hc
      | cons a r => rfl
    simp [go_sem, hbe, hbe', hbN.frz, hbN.top]
    exact h2 hc bv hbN
end Go.Proofs.Ytngoldipfgfecaa.Code
end
section
namespace Go.Proofs.Ytngoldipfgfecaa.Code
open Go Go.Ab
variable {pure : Bool} {base bar : Nat} {H : Heap} {Q : AV → Heap → Prop}
/-! 77: a copy, as it is -/
theorem k38 {v : AV} {s : List Nat} (hv : isL v s) (hs : s ≠ []) (hl : s.length < 1000) (h : Q (.vec H.length 0 0 s.length 1) (H ++ [.row 0 (nats s) 0 false])) : WpCall E false base bar 38 [v] H Q := by
  have hN : isN v s := ⟨hv, fun e => absurd e hs⟩
  have hbe := fun (neg : Bool) (K : AV → Heap → List Nat → Prop) => hN.eq (H := H) (neg := neg) (K := K)
  have hbe' : s.isEmpty = false := by
    cases s with
    | nil => exact absurd rfl hs
    | cons a r => rfl
  rw [call38]
  simp [go_sem, WpFun, c38, hv.frz, hbe, hbe', aop, fillA, setCells, chunks]
  refine app_lst0 hv (by omega) (fun e => absurd e hs) fun _ => ?_
  simp [go_sem]
  exact h
/-! 79: two curlers by what is left of their scores -/
structure Cl (H : Heap) (ip il n : Nat) (f : Nat → Nat) : Prop where
  hp : H[ip]? = some (.row 0 [.vec il 0 0 n 1] 0 true)
  hl : H[il]? = some (.row 0 (fcells n f) 0 false)
theorem Cl.set {ip il n io : Nat} {f : Nat → Nat} {b : Blk} (h : Cl H ip il n f) (h1 : io ≠ ip) (h2 : io ≠ il) : Cl (H.set io b) ip il n f :=
  ⟨by rw [List.getElem?_set_ne h1]; exact h.hp, by rw [List.getElem?_set_ne h2]; exact h.hl⟩
theorem k40 {ip il n x y : Nat} {f : Nat → Nat} (hc : Cl H ip il n f) (hx : x < n) (hy : y < n) (hf : ∀ x, f x < 1000) (h : Q (.int .i64 ((f x : Int) - (f y : Int))) H) : WpCall E pure base bar 40 [.int .i64 (x : Nat), .int .i64 (y : Nat), .ptr ip 0 0] H Q := by
  have l1 : aload H ⟨false, 1⟩ (.ptr ip 0 0) = some (.vec il 0 0 n 1) := by rw [aload_ptr hc.hp]; rfl
  have l2 := loadF (s := 1) hc.hl hx
  have l3 := loadF (s := 1) hc.hl hy
  have hw : IntKind.i64.wrap ((f x : Int) - (f y : Int)) = (f x : Int) - (f y : Int) := by
    have := hf x
    have := hf y
    exact Go.IntWalk.i64_in _ (by omega)
  rw [call40]
  simp [go_sem, WpFun, c40, l1, hx, hy, l2, l3, hw]
  exact h
/-! 95: sorted by insertion -/
theorem nats_at {A : List Nat} {x : Nat} {R : List Nat} : (nats (A ++ x :: R))[A.length]? = some (.int .i64 (x : Nat)) := by
  simp [nats]
theorem nats_set {A : List Nat} {x y : Nat} {R : List Nat} : setCells (nats (A ++ x :: R)) A.length [.int .i64 (y : Nat)] = nats (A ++ y :: R) := by
  simp [nats, setCells, List.set_append]
theorem loadN {id vr fz s : Nat} {ex : Bool} {A : List Nat} {x : Nat} {R : List Nat} (h : H[id]? = some (.row vr (nats (A ++ x :: R)) fz ex)) : aload H ⟨false, s⟩ (.ptr id vr A.length) = some (.int .i64 (x : Nat)) := by
  rw [aload_ptr h, part_one, nats_at]
theorem storeN {id vr : Nat} {ex : Bool} {A : List Nat} {x y : Nat} {R : List Nat} {K : AV → Heap → List Nat → Prop} (h : H[id]? = some (.row vr (nats (A ++ x :: R)) 0 ex)) (hb : bar ≤ id) :
    storeWp base bar 1 (.ptr id vr A.length) (.int .i64 (y : Nat)) H K = K (.tup []) (H.set id (.row vr (nats (A ++ y :: R)) 0 ex)) [id] := by
  rw [storeWp_ptr (size := 1) h rfl rfl (by omega) (by simp [nats]) hb (.inr (by simp [AV.cells, tops_cons, tops_nil, top_int]))]
  simp only [AV.cells, nats_set]
section
variable {ip il n m io vo x : Nat} {f : Nat → Nat}
set_option maxRecDepth 4000 in
theorem l90a (hf : ∀ x, f x < 1000) (hx : x < n) (hip : io ≠ ip) (hil : io ≠ il) (hm : m < 1000) (hb : bar ≤ io) {i : Nat} {S : List Nat} {R : PQ} : ∀ (A : List Nat) (T : List Nat) (H : Heap), A.length < m → (∀ y ∈ A, y < n) → Cl H ip il n f →
    H[io]? = some (.row vo (nats (A ++ x :: T)) 0 false) →
    (∀ A' B, A = A' ++ B → (∀ b ∈ B, f x < f b) → (∀ y, A'.getLast? = some y → f y ≤ f x) →
      R (.exit 2) [(0, .vec io vo 0 m 1), (1, .int .i64 0), (2, .int .i64 (m : Nat)), (3, .fn 40 [] [.ptr ip 0 0]), (8, .int .i64 (i : Nat)), (9, .int .i64 (A'.length : Nat)), (34, .bool false)] (H.set io (.row vo (nats (A' ++ x :: (B ++ T))) 0 false))) →
    Wp E base bar (.loop c90_l0) [(0, .vec io vo 0 m 1), (1, .int .i64 0), (2, .int .i64 (m : Nat)), (3, .fn 40 [] [.ptr ip 0 0]), (8, .int .i64 (i : Nat)), (9, .int .i64 (A.length : Nat))] H R := by
  have key : ∀ (k : Nat) (A : List Nat) (T : List Nat) (H : Heap), A.length = k → A.length < m → (∀ y ∈ A, y < n) → Cl H ip il n f →
    H[io]? = some (.row vo (nats (A ++ x :: T)) 0 false) →
    (∀ A' B, A = A' ++ B → (∀ b ∈ B, f x < f b) → (∀ y, A'.getLast? = some y → f y ≤ f x) →
      R (.exit 2) [(0, .vec io vo 0 m 1), (1, .int .i64 0), (2, .int .i64 (m : Nat)), (3, .fn 40 [] [.ptr ip 0 0]), (8, .int .i64 (i : Nat)), (9, .int .i64 (A'.length : Nat)), (34, .bool false)] (H.set io (.row vo (nats (A' ++ x :: (B ++ T))) 0 false))) →
    Wp E base bar (.loop c90_l0) [(0, .vec io vo 0 m 1), (1, .int .i64 0), (2, .int .i64 (m : Nat)), (3, .fn 40 [] [.ptr ip 0 0]), (8, .int .i64 (i : Nat)), (9, .int .i64 (A.length : Nat))] H R := by
    intro k
    induction k with
    | zero =>
      intro A T H hk hAm hA hc hid h
      have hA0 : A = [] := List.length_eq_zero_iff.1 hk
      subst hA0
      have := h [] [] rfl (by simp) (by simp)
      rw [List.nil_append, List.nil_append, set_same (by simpa using hid)] at this
      rw [wp_round c90_l0.eq_1]
      simp [go_sem]
      exact this
    | succ k ih =>
      intro A T H hk hAm hA hc hid h
      obtain ⟨A0, y, rfl⟩ : ∃ A0 y, A = A0 ++ [y] := by
        have hne : A ≠ [] := fun e => by rw [e] at hk; simp at hk
        exact ⟨A.dropLast, A.getLast hne, (List.dropLast_concat_getLast hne).symm⟩
      have hy : y < n := hA y (by simp)
      have hk0 : A0.length = k := by simpa using hk
      have hl1 : (A0 ++ [y]).length = A0.length + 1 := by simp
      have hid0 : H[io]? = some (.row vo (nats (A0 ++ y :: x :: T)) 0 false) := by simpa using hid
      have ly := loadN (s := 1) hid0
      have lx := loadN (s := 1) hid
      rw [hl1] at hAm lx ⊢
      have hst1 : (H.set io (.row vo (nats (A0 ++ y :: y :: T)) 0 false))[io]? = some (.row vo (nats (A0 ++ y :: y :: T)) 0 false) := set_get hid0
      have s1 := fun (K : AV → Heap → List Nat → Prop) (b : Nat) => storeN (base := b) (bar := bar) (y := y) (K := K) hid hb
      rw [hl1] at s1
      have e1 : A0 ++ [y] ++ y :: T = A0 ++ y :: y :: T := by simp
      rw [e1] at s1
      have s2 := fun (K : AV → Heap → List Nat → Prop) (b : Nat) => storeN (base := b) (bar := bar) (y := x) (K := K) hst1 hb
      rw [List.set_set] at s2
      have hid2 : (H.set io (.row vo (nats (A0 ++ x :: y :: T)) 0 false))[io]? = some (.row vo (nats (A0 ++ x :: y :: T)) 0 false) := set_get hid0
      have next := ih A0 (y :: T) (H.set io (.row vo (nats (A0 ++ x :: y :: T)) 0 false)) hk0 (by omega) (fun z hz => hA z (by simp [hz])) (hc.set hip hil) hid2
      simp only [List.set_set] at next
      have w1 : IntKind.i64.wrap (A0.length : Int) = (A0.length : Int) := i64_nat (by omega)
      have w2 : ((A0.length : Int) + 1).toNat = A0.length + 1 := by omega
      have w0 : (0 : Int) ≤ (A0.length : Int) + 1 := by omega
      have hAm' : A0.length < m := by omega
      rw [wp_round c90_l0.eq_1]
      simp [go_sem, w0, w1, w2, hAm, hAm', ly, lx]
      refine k40 hc hx hy hf ?_
      by_cases hlt : f x < f y
      · simp [go_sem, w0, w1, w2, hAm, hAm', ly, lx, show (f x : Int) - (f y : Int) < 0 by omega]
        rw [s1]
        simp [go_sem, w1, hAm']
        rw [s2]
        simp [go_sem, w1]
        refine next fun A' B he hB hl => ?_
        have := h A' (B ++ [y]) (by rw [he, List.append_assoc]) (fun b hb => by
          rcases List.mem_append.1 hb with hb | hb
          · exact hB b hb
          · rw [List.mem_singleton] at hb; subst hb; exact hlt) hl
        simpa using this
      · simp [go_sem, show ¬ (f x : Int) - (f y : Int) < 0 by omega]
        have := h (A0 ++ [y]) [] (by simp) (by simp) (fun z hz => by simp at hz; subst hz; omega)
        rw [List.nil_append, set_same hid, hl1] at this
        simpa using this
  exact fun A T H => key A.length A T H rfl
theorem sorted_ins {A' B : List Nat} {x : Nat} (hs : (A' ++ B).Pairwise fun a b => f a ≤ f b) (hB : ∀ b ∈ B, f x < f b) (hl : ∀ y, A'.getLast? = some y → f y ≤ f x) : (A' ++ x :: B).Pairwise fun a b => f a ≤ f b := by
  rw [List.pairwise_append] at hs ⊢
  obtain ⟨h1, h2, h3⟩ := hs
  have hA : ∀ a ∈ A', f a ≤ f x := fun a ha => by
    have hne : A' ≠ [] := fun e => by rw [e] at ha; simp at ha
    have hd := List.dropLast_concat_getLast hne
    have hx := hl (A'.getLast hne) (List.getLast?_eq_some_getLast hne)
    rw [← hd] at ha h1
    rcases List.mem_append.1 ha with ha | ha
    · have := (List.pairwise_append.1 h1).2.2 a ha _ (List.mem_singleton.2 rfl)
      omega
    · rw [List.mem_singleton] at ha; subst ha; exact hx
  refine ⟨h1, List.pairwise_cons.2 ⟨fun b hb => Nat.le_of_lt (hB b hb), h2⟩, fun a ha b hb => ?_⟩
  rcases List.mem_cons.1 hb with rfl | hb
  · exact hA a ha
  · exact h3 a ha b hb
theorem l90b (hf : ∀ x, f x < 1000) (hip : io ≠ ip) (hil : io ≠ il) (hm : m < 1000) (hb : bar ≤ io) {J : List Nat} {R : PQ} : ∀ (k i : Nat) (o : List Nat) (H : Heap), i + k = m → 1 ≤ i → o.length = m → (∀ x ∈ o, x < n) → Cl H ip il n f →
    H[io]? = some (.row vo (nats (o ++ J)) 0 false) → (o.take i).Pairwise (fun a b => f a ≤ f b) →
    (∀ o', o'.Perm o → o'.Pairwise (fun a b => f a ≤ f b) →
      R (.exit 0) [(0, .vec io vo 0 m 1), (1, .int .i64 0), (2, .int .i64 (m : Nat)), (3, .fn 40 [] [.ptr ip 0 0]), (8, .int .i64 (m : Nat)), (14, .bool false)] (H.set io (.row vo (nats (o' ++ J)) 0 false))) →
    Wp E base bar (.loop c90_l1) [(0, .vec io vo 0 m 1), (1, .int .i64 0), (2, .int .i64 (m : Nat)), (3, .fn 40 [] [.ptr ip 0 0]), (8, .int .i64 (i : Nat))] H R := by
  intro k
  induction k with
  | zero =>
    intro i o H hi h1 ho hon hc hid hs h
    obtain rfl : i = m := by omega
    have := h o (List.Perm.refl _) (by rwa [List.take_of_length_le (by omega)] at hs)
    rw [set_same hid] at this
    rw [wp_round c90_l1.eq_1]
    simp [go_sem]
    exact this
  | succ k ih =>
    intro i o H hi h1 ho hon hc hid hs h
    have hlt : i < m := by omega
    have hsp : o = o.take i ++ o[i] :: o.drop (i + 1) := by
      rw [← List.drop_eq_getElem_cons (by omega), List.take_append_drop]
    have hxn := hon o[i] (List.getElem_mem (by omega))
    have hAl : (o.take i).length = i := by rw [List.length_take]; omega
    generalize o[i] = x at *
    generalize o.take i = A at *
    generalize o.drop (i + 1) = T at *
    subst hsp
    rw [wp_round c90_l1.eq_1]
    simp [go_sem, hlt]
    have hin := fun (R : PQ) => l90a (base := base) (vo := vo) (i := i) (S := []) hf hxn hip hil hm hb (R := R) A (T ++ J) H (by omega) (fun y hy => hon y (by simp [hy])) hc (by simpa using hid)
    rw [hAl] at hin
    refine hin _ fun A' B he hB hl => ?_
    subst he
    have hsr := sorted_ins hs hB hl
    have hperm : (A' ++ x :: B ++ T).Perm (A' ++ B ++ x :: T) := by
      rw [List.append_assoc, List.append_assoc]
      refine List.Perm.append_left A' ?_
      exact List.perm_middle.symm
    have hid2 : (H.set io (.row vo (nats (A' ++ x :: B ++ T ++ J)) 0 false))[io]? = some (.row vo (nats (A' ++ x :: B ++ T ++ J)) 0 false) := set_get hid
    have hl2 := hperm.length_eq
    have next := ih (i + 1) (A' ++ x :: B ++ T) _ (by omega) (by omega) (by omega) (fun z hz => hon z (hperm.mem_iff.1 hz)) (hc.set hip hil) hid2 (by
      rw [List.take_left' (by simp at hAl ⊢; omega)]; exact hsr) fun o' hp hs' => by
      rw [List.set_set]
      exact h o' (hp.trans hperm) hs'
    simp [go_sem, i64_suc (show i < 1000000 by omega)]
    simpa using next
theorem k90 (hf : ∀ x, f x < 1000) (hip : io ≠ ip) (hil : io ≠ il) (hm : m < 1000) (hb : bar ≤ io) {J o : List Nat} (h1 : 1 ≤ m) (ho : o.length = m) (hon : ∀ x ∈ o, x < n) (hc : Cl H ip il n f) (hid : H[io]? = some (.row vo (nats (o ++ J)) 0 false))
    (h : ∀ o', o'.Perm o → o'.Pairwise (fun a b => f a ≤ f b) → Q (.tup []) (H.set io (.row vo (nats (o' ++ J)) 0 false))) : WpCall E false base bar 90 [.vec io vo 0 m 1, .int .i64 0, .int .i64 (m : Nat), .fn 40 [] [.ptr ip 0 0]] H Q := by
  rw [call90]
  simp [go_sem, WpFun, c90]
  refine l90b hf hip hil hm hb (J := J) (m - 1) 1 o H (by omega) (by omega) ho hon hc hid (by
    match o, ho with
    | [], _ => simp
    | a :: r, _ => simp) fun o' hp hs => ?_
  have hlen : H.length = (H.set io (.row vo (nats (o' ++ J)) 0 false)).length := by simp
  simp [go_sem]
  rw [hlen, List.take_length]
  exact h o' hp hs
set_option maxRecDepth 8000 in
theorem k39 (hf : ∀ x, f x < 1000) (hip : io ≠ ip) (hil : io ≠ il) (hm : m < 20) (hb : bar ≤ io) {J o : List Nat} (h1 : 1 ≤ m) (ho : o.length = m) (hon : ∀ x ∈ o, x < n) (hc : Cl H ip il n f) (hid : H[io]? = some (.row vo (nats (o ++ J)) 0 false))
    (h : ∀ o', o'.Perm o → o'.Pairwise (fun a b => f a ≤ f b) → Q (.tup []) (H.set io (.row vo (nats (o' ++ J)) 0 false))) : WpCall E false base bar 39 [.vec io vo 0 m 1, .fn 40 [] [.ptr ip 0 0]] H Q := by
  rw [call39]
  simp [go_sem, WpFun, c39]
  rw [call73]
  simp [go_sem, WpFun, c73]
  rw [wp_round c73_l0.eq_1]
  simp [go_sem, show ¬ (20 : Int) ≤ (m : Int) by omega]
  refine k90 hf hip hil (by omega) hb h1 ho hon hc hid fun o' hp hs => ?_
  have hlen : H.length = (H.set io (.row vo (nats (o' ++ J)) 0 false)).length := by simp
  simp [go_sem]
  rw [wp_round c73_l2.eq_1]
  simp [go_sem, show ¬ (20 : Int) < (m : Int) by omega]
  rw [hlen, List.take_length, List.take_length]
  exact h o' hp hs
end
end Go.Proofs.Ytngoldipfgfecaa.Code
end
section
namespace Go.Proofs.Ytngoldipfgfecaa.Code
open Go Go.Ab
/-! scores: no curlers have fewer wins together than meetings between them; the greedy choice keeps that -/
theorem halfN_succ (n : Nat) : halfN (n + 1) = halfN n + n := by
  unfold halfN
  cases n with
  | zero => rfl
  | succ m =>
    show (m + 2) * (m + 1) / 2 = (m + 1) * m / 2 + (m + 1)
    have : (m + 2) * (m + 1) = (m + 1) * m + (m + 1) * 2 := by rw [← Nat.mul_add, Nat.mul_comm]
    rw [this, Nat.add_mul_div_right _ _ (by decide)]
theorem halfN_add (a : Nat) : ∀ b, halfN (a + b) = halfN a + halfN b + a * b
  | 0 => rfl
  | b + 1 => by
    rw [← Nat.add_assoc, halfN_succ, halfN_add a b, halfN_succ, Nat.mul_add, Nat.mul_one]; omega
structure Lan (f : Nat → Nat) (o : List Nat) : Prop where
  nodup : o.Nodup
  le : ∀ T : List Nat, T.Nodup → (∀ x ∈ T, x ∈ o) → halfN T.length ≤ (T.map f).sum
  eq : (o.map f).sum = halfN o.length
def decB (f : Nat → Nat) (B : List Nat) : Nat → Nat := fun x => if x ∈ B then f x - 1 else f x
theorem sum_decB {f : Nat → Nat} {B : List Nat} : ∀ {T : List Nat}, (∀ x ∈ T, x ∈ B → 1 ≤ f x) → (T.map f).sum = (T.map (decB f B)).sum + (T.filter fun x => decide (x ∈ B)).length
  | [], _ => rfl
  | x :: r, h => by
    have ih := sum_decB (f := f) (B := B) (T := r) fun y hy => h y (List.mem_cons_of_mem _ hy)
    have hx := h x (List.mem_cons_self ..)
    rw [List.map_cons, List.sum_cons, List.map_cons, List.sum_cons, ih]
    by_cases hb : x ∈ B
    · have := hx hb
      rw [List.filter_cons_of_pos (by simpa using hb), List.length_cons]
      unfold decB
      rw [if_pos hb]; omega
    · rw [List.filter_cons_of_neg (by simpa using hb)]
      have e : decB f B x = f x := by unfold decB; rw [if_neg hb]
      rw [e]; omega
theorem filter_two {T : List Nat} {p : Nat → Bool} : T.length = (T.filter p).length + (T.filter fun x => !p x).length := by
  induction T with
  | nil => rfl
  | cons x r ih =>
    cases hp : p x
    · rw [List.filter_cons_of_neg (by simp [hp]), List.filter_cons_of_pos (by simp [hp])]
      simp only [List.length_cons]; omega
    · rw [List.filter_cons_of_pos hp, List.filter_cons_of_neg (by simp [hp])]
      simp only [List.length_cons]; omega
theorem filter_swap {T A : List Nat} (hT : T.Nodup) (hA : A.Nodup) : (T.filter fun x => decide (x ∈ A)).length = (A.filter fun x => decide (x ∈ T)).length := by
  apply List.Perm.length_eq
  rw [List.perm_ext_iff_of_nodup (hT.filter _) (hA.filter _)]
  intro a
  simp only [List.mem_filter, decide_eq_true_eq]
  exact And.comm
theorem Lan.step {f : Nat → Nat} {o : List Nat} {z : Nat} (h : Lan f (o ++ [z])) (hs : (o ++ [z]).Pairwise fun a b => f a ≤ f b) :
    f z ≤ o.length ∧ (∀ x ∈ o.drop (f z), 1 ≤ f x) ∧ Lan (decB f (o.drop (f z))) o := by
  obtain ⟨hn, hle, heq⟩ := h
  obtain ⟨hno, _, hdz⟩ := List.nodup_append.1 hn
  have hz : z ∉ o := fun hm => hdz z hm z (by simp) rfl
  rw [List.map_append, List.sum_append, List.length_append, List.length_singleton, halfN_succ] at heq
  simp only [List.map_cons, List.map_nil, List.sum_cons, List.sum_nil, Nat.add_zero] at heq
  have ho := hle o hno fun x hx => List.mem_append_left _ hx
  have hzl : f z ≤ o.length := by omega
  have hso := (List.pairwise_append.1 hs).1
  have hAB : o.take (f z) ++ o.drop (f z) = o := List.take_append_drop ..
  have hAl : (o.take (f z)).length = f z := by rw [List.length_take]; omega
  have hBl : (o.drop (f z)).length = o.length - f z := List.length_drop ..
  generalize ht : f z = t at *
  generalize o.take t = A at *
  generalize o.drop t = B at *
  rw [← hAB] at hno hso
  obtain ⟨hnA, hnB, hdis⟩ := List.nodup_append.1 hno
  obtain ⟨_, _, hcr⟩ := List.pairwise_append.1 hso
  rw [hAB] at hno
  have memo : ∀ {x}, x ∈ o ↔ x ∈ A ∨ x ∈ B := fun {x} => by rw [← hAB, List.mem_append]
  have hpos : ∀ x ∈ B, 1 ≤ f x := fun b hb => by
    apply Decidable.byContradiction
    intro hc
    have hA0 := sum_le (f := f) (c := 0) (l := A) fun a ha => by have := hcr a ha b hb; omega
    have hzb : z ≠ b := fun e => hz (e ▸ memo.2 (.inr hb))
    have := hle (z :: b :: A) (by
      rw [List.nodup_cons, List.nodup_cons]
      refine ⟨fun hm => ?_, fun hm => hdis b hm b hb rfl, hnA⟩
      rcases List.mem_cons.1 hm with hm | hm
      · exact hzb hm
      · exact hz (memo.2 (.inl hm))) fun x hx => by
        rcases List.mem_cons.1 hx with rfl | hx
        · simp
        rcases List.mem_cons.1 hx with rfl | hx
        · exact List.mem_append_left _ (memo.2 (.inr hb))
        · exact List.mem_append_left _ (memo.2 (.inl hx))
    simp only [List.length_cons, List.map_cons, List.sum_cons] at this
    rw [halfN_succ, halfN_succ] at this
    omega
  refine ⟨hzl, hpos, hno, ?_, ?_⟩
  · have key : ∀ k (T : List Nat), T.length = k → T.Nodup → (∀ x ∈ T, x ∈ o) → halfN k ≤ (T.map (decB f B)).sum := by
      intro k
      induction k with
      | zero => intro T hT _ _; exact Nat.zero_le _
      | succ k ih =>
        intro T hT hTn hTo
        have hsum := sum_decB (f := f) (B := B) (T := T) fun x _ hb => hpos x hb
        have hTf := hle T hTn fun x hx => List.mem_append_left _ (hTo x hx)
        rw [hT] at hTf
        by_cases h0 : (T.filter fun x => decide (x ∈ B)).length = 0
        · omega
        obtain ⟨b, hb⟩ := List.exists_mem_of_length_pos (by omega : 0 < (T.filter fun x => decide (x ∈ B)).length)
        rw [List.mem_filter, decide_eq_true_eq] at hb
        obtain ⟨hbT, hbB⟩ := hb
        by_cases hex : ∃ y ∈ A, y ∉ T ∧ k + 1 ≤ f y
        · obtain ⟨y, hyA, _, hyk⟩ := hex
          have hby := hcr y hyA b hbB
          have hp := List.perm_cons_erase hbT
          have hpl := hp.length_eq
          rw [List.length_cons, hT] at hpl
          have := ih (T.erase b) (by omega) (hTn.erase b) fun x hx => hTo x (List.mem_of_mem_erase hx)
          have hs2 := (hp.map (decB f B)).sum_nat
          rw [List.map_cons, List.sum_cons] at hs2
          have e : decB f B b = f b - 1 := by unfold decB; rw [if_pos hbB]
          rw [hs2, e, halfN_succ]; omega
        · have hC := sum_le (f := f) (c := k) (l := A.filter fun y => !decide (y ∈ T)) fun y hy => by
            rw [List.mem_filter] at hy
            apply Decidable.byContradiction
            intro hc
            exact hex ⟨y, hy.1, by simpa using hy.2, by omega⟩
          have hU := hle (z :: ((A.filter fun y => !decide (y ∈ T)) ++ T)) (by
            rw [List.nodup_cons, List.nodup_append]
            refine ⟨fun hm => ?_, hnA.filter _, hTn, fun a ha c hc e => ?_⟩
            · rcases List.mem_append.1 hm with hm | hm
              · exact hz (memo.2 (.inl (List.mem_filter.1 hm).1))
              · exact hz (hTo z hm)
            · have := (List.mem_filter.1 ha).2
              rw [e] at this
              simp [hc] at this) fun x hx => by
              rcases List.mem_cons.1 hx with rfl | hx
              · simp
              rcases List.mem_append.1 hx with hx | hx
              · exact List.mem_append_left _ (memo.2 (.inl (List.mem_filter.1 hx).1))
              · exact List.mem_append_left _ (hTo x hx)
          rw [List.length_cons, List.length_append, List.map_cons, List.sum_cons, List.map_append, List.sum_append, ht, hT] at hU
          have c901 := filter_two (T := A) (p := fun y => decide (y ∈ T))
          have c902 := filter_two (T := T) (p := fun y => decide (y ∈ B))
          have c903 : (T.filter fun x => !decide (x ∈ B)).length = (T.filter fun x => decide (x ∈ A)).length := by
            congr 1
            apply List.filter_congr
            intro x hx
            rcases memo.1 (hTo x hx) with ha | hb
            · have : x ∉ B := fun hb => hdis x ha x hb rfl
              simp [ha, this]
            · have : x ∉ A := fun ha => hdis x ha x hb rfl
              simp [hb, this]
          have c904 := filter_swap hTn hnA
          generalize (A.filter fun y => !decide (y ∈ T)) = C at *
          generalize (T.filter fun x => decide (x ∈ B)).length = a at *
          generalize (T.filter fun x => decide (x ∈ A)).length = ta at *
          generalize (A.filter fun x => decide (x ∈ T)).length = ta2 at *
          generalize (T.filter fun x => !decide (x ∈ B)).length = ta3 at *
          generalize C.length = c at *
          have e1 := halfN_add (k + 1) (c + 1)
          have e2 : c + (k + 1) + 1 = k + 1 + (c + 1) := by omega
          rw [e2, e1] at hU
          have e3 : (k + 1) * (c + 1) = c * k + c + (k + 1) := by rw [Nat.mul_add, Nat.add_mul, Nat.mul_comm k c]; omega
          rw [e3] at hU
          omega
    exact fun T hTn hTo => key _ T rfl hTn hTo
  · have hsum := sum_decB (f := f) (B := B) (T := o) fun x _ hb => hpos x hb
    have : (o.filter fun x => decide (x ∈ B)) = B := by
      rw [← hAB, List.filter_append, List.filter_eq_nil_iff.2 fun a ha => by
        have : a ∉ B := fun hb => hdis a ha a hb rfl
        simpa using this, List.nil_append, List.filter_eq_self.2 fun a ha => by simpa using ha]
    rw [this, hBl] at hsum
    omega
end Go.Proofs.Ytngoldipfgfecaa.Code
end
section
namespace Go.Proofs.Ytngoldipfgfecaa.Code
open Go Go.Ab
/-! the meetings of one curler with all that are left -/
def prZ (x y : Nat) : ZZ := ((x : Int), (y : Int))
def procG (z t : Nat) : Nat → List Nat → List ZZ → (Nat → Nat) → List ZZ × (Nat → Nat)
  | _, [], ms, f => (ms, f)
  | i, x :: r, ms, f => if i < t then procG z t (i + 1) r (ms ++ [prZ z x]) f else procG z t (i + 1) r (ms ++ [prZ x z]) (upd f x (f x - 1))
theorem procG_eq {z t : Nat} : ∀ (l : List Nat) (i : Nat) (ms : List ZZ) (f : Nat → Nat), l.Nodup →
    procG z t i l ms f = (ms ++ (l.take (t - i)).map (fun x => prZ z x) ++ (l.drop (t - i)).map (fun x => prZ x z), decB f (l.drop (t - i)))
  | [], i, ms, f, _ => by
    simp only [procG, List.take_nil, List.drop_nil, List.map_nil, List.append_nil, Prod.mk.injEq, true_and]
    funext x
    simp [decB]
  | x :: r, i, ms, f, hn => by
    rw [List.nodup_cons] at hn
    unfold procG
    by_cases hc : i < t
    · rw [if_pos hc, procG_eq r (i + 1) _ _ hn.2, show t - i = (t - (i + 1)) + 1 by omega]
      simp
    · rw [if_neg hc, procG_eq r (i + 1) _ _ hn.2, show t - i = 0 by omega, show t - (i + 1) = 0 by omega]
      simp only [List.take_zero, List.drop_zero, List.map_nil, List.append_nil, List.map_cons, Prod.mk.injEq]
      refine ⟨by simp, ?_⟩
      funext y
      unfold decB upd
      by_cases hy : y ∈ r
      · have : y ≠ x := fun e => hn.1 (e ▸ hy)
        simp [hy, this]
      · by_cases hx : y = x
        · subst hx; simp [hy]
        · simp [hy, hx]
theorem count_map {φ : Nat → ZZ} {x : Nat} : ∀ {L : List Nat}, L.Nodup → (∀ a, ((φ a).1 == (x : Int)) = (a == x)) → ((L.map φ).filter fun p => p.1 == (x : Int)).length = if x ∈ L then 1 else 0
  | [], _, _ => rfl
  | a :: r, hn, hφ => by
    rw [List.nodup_cons] at hn
    have ih := count_map (φ := φ) (x := x) hn.2 hφ
    rw [List.map_cons]
    by_cases h : a = x
    · subst h
      rw [List.filter_cons_of_pos (by rw [hφ]; simp), List.length_cons, ih, if_neg hn.1]
      simp
    · rw [List.filter_cons_of_neg (by rw [hφ]; simpa using h), ih]
      have : x ≠ a := fun e => h e.symm
      simp [this]
theorem count_const {z x : Nat} : ∀ {L : List Nat}, ((L.map fun a => prZ z a).filter fun p => p.1 == (x : Int)).length = if x = z then L.length else 0
  | [] => by simp
  | a :: r => by
    have ih := count_const (z := z) (x := x) (L := r)
    rw [List.map_cons]
    by_cases h : x = z
    · subst h
      rw [List.filter_cons_of_pos (by simp [prZ]), List.length_cons, ih]
      simp
    · rw [List.filter_cons_of_neg (by simp [prZ]; omega), ih, if_neg h, if_neg h]
structure Gr (n : Nat) (s f : Nat → Nat) (o : List Nat) (ms : List ZZ) : Prop where
  lan : Lan f o
  lt : ∀ x ∈ o, x < n
  valid : ∀ p ∈ ms, zV (n : Int) p
  pw : ms.Pairwise zN
  out : ∀ x y : Nat, prZ x y ∈ ms → ¬ (x ∈ o ∧ y ∈ o)
  len : ms.length + halfN o.length = halfN n
  win : ∀ x, x < n → (ms.filter fun p => p.1 == (x : Int)).length + (if x ∈ o then f x else 0) = s x
theorem Gr.zero {n : Nat} {s : Nat → Nat} (h : Lan s (List.range n)) : Gr n s s (List.range n) [] :=
  ⟨h, fun x hx => List.mem_range.1 hx, by simp, .nil, by simp, by simp, fun x hx => by simp [hx]⟩
theorem Gr.step {n : Nat} {s f : Nat → Nat} {o : List Nat} {z : Nat} {ms : List ZZ} (h : Gr n s f (o ++ [z]) ms) (hs : (o ++ [z]).Pairwise fun a b => f a ≤ f b) :
    Gr n s (procG z (f z) 0 o ms f).2 o (procG z (f z) 0 o ms f).1 := by
  obtain ⟨hlan, hlt, hval, hpw, hout, hlen, hwin⟩ := h
  obtain ⟨h1, h2, h3⟩ := hlan.step hs
  have hn := hlan.nodup
  obtain ⟨hno, _, hdz⟩ := List.nodup_append.1 hn
  have hz : z ∉ o := fun hm => hdz z hm z (by simp) rfl
  have hzn : z < n := hlt z (by simp)
  rw [procG_eq o 0 ms f hno, Nat.sub_zero]
  have hAB : o.take (f z) ++ o.drop (f z) = o := List.take_append_drop ..
  have hAl : (o.take (f z)).length = f z := by rw [List.length_take]; omega
  have hBl : (o.drop (f z)).length = o.length - f z := List.length_drop ..
  generalize hA : o.take (f z) = A at *
  generalize hB : o.drop (f z) = B at *
  have hno2 := hno
  rw [← hAB] at hno2
  obtain ⟨hnA, hnB, hdis⟩ := List.nodup_append.1 hno2
  have memo : ∀ {x}, x ∈ o ↔ x ∈ A ∨ x ∈ B := fun {x} => by rw [← hAB, List.mem_append]
  have hol : ∀ x ∈ o, x < n ∧ x ≠ z := fun x hx => ⟨hlt x (List.mem_append_left _ hx), fun e => hz (e ▸ hx)⟩
  have hnew : ∀ p ∈ A.map (fun x => prZ z x) ++ B.map (fun x => prZ x z), ∃ x ∈ o, p = prZ z x ∨ p = prZ x z := fun p hp => by
    rcases List.mem_append.1 hp with hp | hp
    · obtain ⟨x, hx, rfl⟩ := List.mem_map.1 hp
      exact ⟨x, memo.2 (.inl hx), .inl rfl⟩
    · obtain ⟨x, hx, rfl⟩ := List.mem_map.1 hp
      exact ⟨x, memo.2 (.inr hx), .inr rfl⟩
  have hinj : ∀ {a b c d : Nat}, prZ a b = prZ c d → a = c ∧ b = d := fun {a b c d} e => by
    simp only [prZ, Prod.mk.injEq] at e; omega
  have hsw : ∀ {a b : Nat}, swZ (prZ a b) = prZ b a := rfl
  refine ⟨h3, fun x hx => (hol x hx).1, fun p hp => ?_, ?_, fun x y hp hxy => ?_, ?_, fun x hx => ?_⟩
  · rw [List.append_assoc] at hp
    rcases List.mem_append.1 hp with hp | hp
    · exact hval p hp
    · obtain ⟨x, hx, e⟩ := hnew p hp
      have := hol x hx
      rcases e with rfl | rfl <;> exact ⟨by simp [prZ], by simp [prZ], by simp [prZ]; omega, by simp [prZ]; omega, by simp [prZ]; omega⟩
  · rw [List.append_assoc, List.pairwise_append]
    refine ⟨hpw, ?_, fun p hp q hq => ?_⟩
    · rw [List.pairwise_append]
      refine ⟨?_, ?_, fun p hp q hq => ?_⟩
      · rw [List.pairwise_map]
        refine hnA.imp_of_mem fun {a b} ha hb hne => ⟨fun e => hne (hinj e).2.symm, fun e => ?_⟩
        rw [hsw] at e
        exact (hol b (memo.2 (.inl hb))).2 (hinj e).2
      · rw [List.pairwise_map]
        refine hnB.imp_of_mem fun {a b} ha hb hne => ⟨fun e => hne (hinj e).1.symm, fun e => ?_⟩
        rw [hsw] at e
        exact (hol b (memo.2 (.inr hb))).2 (hinj e).1
      · obtain ⟨a, ha, rfl⟩ := List.mem_map.1 hp
        obtain ⟨b, hb, rfl⟩ := List.mem_map.1 hq
        refine ⟨fun e => (hol b (memo.2 (.inr hb))).2 (hinj e).1, fun e => ?_⟩
        rw [hsw] at e
        exact hdis a ha b hb (hinj e).1.symm
    · obtain ⟨x, y, _, _, _, rfl⟩ := zV_nat (hval p hp)
      obtain ⟨b, hb, e⟩ := hnew q hq
      have h4 := hout x y hp
      have hbo : b ∈ o ++ [z] := List.mem_append_left _ hb
      have hzo : z ∈ o ++ [z] := by simp
      refine ⟨fun e2 => ?_, fun e2 => ?_⟩
      · rcases e with rfl | rfl
        · obtain ⟨rfl, rfl⟩ := hinj e2; exact h4 ⟨hzo, hbo⟩
        · obtain ⟨rfl, rfl⟩ := hinj e2; exact h4 ⟨hbo, hzo⟩
      · have e3 : q = prZ y x := e2
        rcases e with rfl | rfl
        · obtain ⟨rfl, rfl⟩ := hinj e3; exact h4 ⟨hbo, hzo⟩
        · obtain ⟨rfl, rfl⟩ := hinj e3; exact h4 ⟨hzo, hbo⟩
  · rw [List.append_assoc] at hp
    rcases List.mem_append.1 hp with hp | hp
    · exact hout x y hp ⟨List.mem_append_left _ hxy.1, List.mem_append_left _ hxy.2⟩
    · obtain ⟨b, hb, e⟩ := hnew _ hp
      rcases e with e | e
      · obtain ⟨rfl, rfl⟩ := hinj e; exact hz hxy.1
      · obtain ⟨rfl, rfl⟩ := hinj e; exact hz hxy.2
  · rw [List.length_append, List.length_singleton, halfN_succ] at hlen
    simp only [List.length_append, List.length_map]
    omega
  · have hw := hwin x hx
    rw [List.filter_append, List.filter_append, List.length_append, List.length_append, count_const, count_map hnB (fun a => by simp only [prZ]; rw [Bool.eq_iff_iff]; simp; omega), hAl]
    by_cases hxz : x = z
    · subst hxz
      have hxB : x ∉ B := fun hm => hz (memo.2 (.inr hm))
      rw [if_pos (by simp)] at hw
      rw [if_pos rfl, if_neg hxB, if_neg hz]
      omega
    · rw [if_neg hxz]
      by_cases hxo : x ∈ o
      · rw [if_pos (List.mem_append_left _ hxo)] at hw
        rw [if_pos hxo]
        by_cases hxB : x ∈ B
        · have := h2 x hxB
          have e : decB f B x = f x - 1 := if_pos hxB
          rw [if_pos hxB]
          show _ + decB f B x = _
          rw [e]; omega
        · have e : decB f B x = f x := if_neg hxB
          rw [if_neg hxB]
          show _ + decB f B x = _
          rw [e]; omega
      · have hxB : x ∉ B := fun hm => hxo (memo.2 (.inr hm))
        rw [if_neg (by simp [hxo, hxz])] at hw
        rw [if_neg hxo, if_neg hxB]; omega
theorem Gr.done {n : Nat} {s f : Nat → Nat} {o : List Nat} {ms : List ZZ} (h : Gr n s f o ms) (hl : o.length ≤ 1) (h1 : 1 ≤ n) (h7 : n ≤ 7) :
    OkC n ms ∧ ∀ x, x < n → ((List.range n).filter (bitL ms x)).length = s x := by
  have hlen := h.len
  have h0 : halfN o.length = 0 := by
    have : o.length = 0 ∨ o.length = 1 := by omega
    rcases this with e | e <;> rw [e] <;> rfl
  refine ⟨OkC.mk' h7 h1 (chkF_iff0.2 ⟨h.valid, h.pw⟩) (by omega), fun x hx => ?_⟩
  have hw := h.win x hx
  have hf : (if x ∈ o then f x else 0) = 0 := by
    split
    · rename_i hxo
      have heq := h.lan.eq
      rw [h0] at heq
      have hm : f x ∈ o.map f := List.mem_map.2 ⟨x, hxo, rfl⟩
      have : ∀ {l : List Nat}, l.sum = 0 → ∀ y ∈ l, y = 0 := by
        intro l
        induction l with
        | nil => intro _ y hy; simp at hy
        | cons a r ih =>
          intro hs y hy
          rw [List.sum_cons] at hs
          rcases List.mem_cons.1 hy with rfl | hy
          · omega
          · exact ih (by omega) y hy
      exact this heq _ hm
    · rfl
  rw [hf, Nat.add_zero] at hw
  rw [← hw]
  have hL : ((ms.filter fun p => p.1 == (x : Int)).map fun p => p.2.toNat).Perm ((List.range n).filter (bitL ms x)) := by
    rw [List.perm_ext_iff_of_nodup ?_ (List.nodup_range.filter _)]
    · intro y
      rw [List.mem_map, List.mem_filter, List.mem_range, bitL_iff]
      constructor
      · rintro ⟨p, hp, rfl⟩
        rw [List.mem_filter, beq_iff_eq] at hp
        obtain ⟨a, b, ha, hb, _, rfl⟩ := zV_nat (h.valid p hp.1)
        simp only at hp
        obtain ⟨hp1, hp2⟩ := hp
        refine ⟨by simpa using hb, ?_⟩
        rw [← hp2]
        simpa using hp1
      · rintro ⟨hy, hm⟩
        exact ⟨_, List.mem_filter.2 ⟨hm, by simp⟩, by simp⟩
    · unfold List.Nodup
      rw [List.pairwise_map]
      refine (h.pw.filter _).imp_of_mem fun {p q} hp hq hpq e => ?_
      rw [List.mem_filter, beq_iff_eq] at hp hq
      obtain ⟨a, b, ha, hb, _, rfl⟩ := zV_nat (h.valid p hp.1)
      obtain ⟨c, d, hc, hd, _, rfl⟩ := zV_nat (h.valid q hq.1)
      simp only [Int.toNat_natCast] at e hp hq
      refine hpq.1 ?_
      rw [← e, hp.2, hq.2]
  have := hL.length_eq
  rw [List.length_map] at this
  exact this.symm
end Go.Proofs.Ytngoldipfgfecaa.Code
end
section
namespace Go.Proofs.Ytngoldipfgfecaa.Code
open Go Go.Ab
variable {base bar : Nat} {H : Heap} {Q : AV → Heap → Prop}
theorem Lan.perm {f : Nat → Nat} {o o' : List Nat} (h : Lan f o) (hp : o'.Perm o) : Lan f o' :=
  ⟨hp.nodup_iff.2 h.nodup, fun T hT hTo => h.le T hT fun x hx => hp.mem_iff.1 (hTo x hx), by rw [(hp.map f).sum_nat, hp.length_eq, h.eq]⟩
theorem Gr.perm {n : Nat} {s f : Nat → Nat} {o o' : List Nat} {ms : List ZZ} (h : Gr n s f o ms) (hp : o'.Perm o) : Gr n s f o' ms := by
  refine ⟨h.lan.perm hp, fun x hx => h.lt x (hp.mem_iff.1 hx), h.valid, h.pw, fun x y hm hxy => h.out x y hm ⟨hp.mem_iff.1 hxy.1, hp.mem_iff.1 hxy.2⟩, by rw [hp.length_eq]; exact h.len, fun x hx => ?_⟩
  have := h.win x hx
  by_cases hxo : x ∈ o
  · rw [if_pos hxo] at this
    rw [if_pos (hp.mem_iff.2 hxo)]; exact this
  · rw [if_neg hxo] at this
    rw [if_neg fun hc => hxo (hp.mem_iff.1 hc)]; exact this
/-! 40: a contest with scores -/
theorem app_vec0 {x vo : Nat} {cells : List Nat} {K : AV → Heap → List Nat → Prop} (hl : cells.length < 1000) (hb : bar ≤ H.length) (hbase : base ≤ H.length)
    (h : K (.vec H.length (vo + 1) 0 (cells.length + 1) 1) (H ++ [.row (vo + 1) (nats (cells ++ [x])) 0 false]) [H.length]) :
    appWp base bar 1 8 (some (.vec H.length vo 0 cells.length 1)) (some (.lst 1 true [.int .i64 (x : Nat)])) (H ++ [.row vo (nats cells) 0 false]) K := by
  have e : nats cells ++ [AV.int .i64 (x : Nat)] = nats (cells ++ [x]) := by simp [nats]
  have e2 : (nats cells).length = cells.length := nats_length
  have e3 : AV.noVec.noVecs [AV.int .i64 (x : Nat)] = true := rfl
  have e4 : frzAll bar (H ++ [Blk.row vo (nats cells) 0 false]) [AV.int .i64 (x : Nat)] = some ([AV.int .i64 (x : Nat)], H ++ [Blk.row vo (nats cells) 0 false]) := rfl
  simp [appWp, asrc_lst, AV.cells, e4, aappend, e2, e3, List.take_of_length_le, e, hb, hbase, show (cells.length + 1) * 8 ≤ 140737488355328 by omega, show ¬ 140737488355328 < (cells.length + 1) * 8 by omega, show ¬ (cells.length + 1 ≤ cells.length) by omega]
  exact h
theorem app_nil0 {x : Nat} {K : AV → Heap → List Nat → Prop} (h : K (.vec H.length 0 0 1 1) (H ++ [.row 0 (nats [x]) 0 false]) []) :
    appWp base bar 1 8 (some .nils) (some (.lst 1 true [.int .i64 (x : Nat)])) H K := by
  have e3 : AV.noVec.noVecs [AV.int .i64 (x : Nat)] = true := rfl
  have e4 : frzAll bar H [AV.int .i64 (x : Nat)] = some ([AV.int .i64 (x : Nat)], H) := rfl
  simp [appWp, asrc_lst, AV.cells, e4, aappend, e3]
  exact h
structure Fr (N n : Nat) (f : Nat → Nat) (vo : Nat) (cells : List Nat) (ms : List ZZ) (mv : AV) (H0 H : Heap) : Prop where
  hN : H0.length = N
  h0 : H[N]? = some (.row 0 [.int .i64 0, .nils] 0 true)
  h6 : H[N + 1]? = some (.row 0 [.int .i64 (n : Nat), mv] 0 true)
  cl : Cl H (N + 3) (N + 2) n f
  ho : H[N + 4]? = some (.row vo (nats cells) 0 false)
  hm : Own (N + 5) 2 (prs ms) mv H
  tk : H.take N = H0
section
variable {N n vo : Nat} {f : Nat → Nat} {cells : List Nat} {ms : List ZZ} {mv : AV} {H0 : Heap}
theorem Fr.len (g : Fr N n f vo cells ms mv H0 H) : N + 5 ≤ H.length := by
  have := (List.getElem?_eq_some_iff.1 g.ho).1; omega
theorem Fr.seto (g : Fr N n f vo cells ms mv H0 H) {vo' : Nat} {cells' : List Nat} : Fr N n f vo' cells' ms mv H0 (H.set (N + 4) (.row vo' (nats cells') 0 false)) := by
  have hl := g.len
  refine ⟨g.hN, ?_, ?_, ?_, ?_, g.hm.mono fun j hj => ?_, ?_⟩
  · rw [List.getElem?_set_ne (by omega)]; exact g.h0
  · rw [List.getElem?_set_ne (by omega)]; exact g.h6
  · exact g.cl.set (by omega) (by omega)
  · rw [List.getElem?_set_self (by omega)]
  · have := (g.hm.lt hj).1
    rw [List.getElem?_set_ne (by omega)]
  · rw [List.take_set_of_le (by omega)]; exact g.tk
theorem Fr.setl (g : Fr N n f vo cells ms mv H0 H) {f' : Nat → Nat} : Fr N n f' vo cells ms mv H0 (H.set (N + 2) (.row 0 (fcells n f') 0 false)) := by
  have hl := g.len
  refine ⟨g.hN, ?_, ?_, ⟨?_, ?_⟩, ?_, g.hm.mono fun j hj => ?_, ?_⟩
  · rw [List.getElem?_set_ne (by omega)]; exact g.h0
  · rw [List.getElem?_set_ne (by omega)]; exact g.h6
  · rw [List.getElem?_set_ne (by omega)]; exact g.cl.hp
  · rw [List.getElem?_set_self (by omega)]
  · rw [List.getElem?_set_ne (by omega)]; exact g.ho
  · have := (g.hm.lt hj).1
    rw [List.getElem?_set_ne (by omega)]
  · rw [List.take_set_of_le (by omega)]; exact g.tk
theorem Fr.setm (g : Fr N n f vo cells ms mv H0 H) {ms' : List ZZ} {mv' : AV} {H' : Heap} {tc : List Nat} (g' : Own (N + 5) 2 (prs ms') mv' H') (hk : Kept1 mv mv' H H' tc) :
    H'[N + 1]? = some (.row 0 [.int .i64 (n : Nat), mv] 0 true) ∧ Fr N n f vo cells ms' mv' H0 (H'.set (N + 1) (.row 0 [.int .i64 (n : Nat), mv'] 0 true)) := by
  have hl := g.len
  have hl' := hk.len
  have hsm : ∀ j, j < N + 5 → H'[j]? = H[j]? := fun j hj => hk.same j (by omega) fun hc => by have := (g.hm.lt hc).1; omega
  refine ⟨by rw [hsm _ (by omega)]; exact g.h6, g.hN, ?_, ?_, ⟨?_, ?_⟩, ?_, g'.mono fun j hj => ?_, ?_⟩
  · rw [List.getElem?_set_ne (by omega), hsm _ (by omega)]; exact g.h0
  · rw [List.getElem?_set_self (by omega)]
  · rw [List.getElem?_set_ne (by omega), hsm _ (by omega)]; exact g.cl.hp
  · rw [List.getElem?_set_ne (by omega), hsm _ (by omega)]; exact g.cl.hl
  · rw [List.getElem?_set_ne (by omega), hsm _ (by omega)]; exact g.ho
  · have := (g'.lt hj).1
    rw [List.getElem?_set_ne (by omega)]
  · rw [List.take_set_of_le (by omega), ← g.tk]
    apply List.ext_getElem?
    intro j
    rw [List.getElem?_take, List.getElem?_take]
    split
    · exact hsm j (by omega)
    · rfl
end
end Go.Proofs.Ytngoldipfgfecaa.Code
end
section
namespace Go.Proofs.Ytngoldipfgfecaa.Code
open Go Go.Ab
section
variable {base bar N n vo : Nat} {H0 : Heap} {s : Nat → Nat}
set_option maxRecDepth 8000 in
set_option maxHeartbeats 1000000 in
theorem l11b {z t : Nat} {o J : List Nat} (hb : bar ≤ N) (hbase : base ≤ N) (hn : n ≤ 7) (hzn : z < n) (hzo : z ∉ o) (hno : o.Nodup) (hon : ∀ x ∈ o, x < n) (hol : o.length ≤ 7) {R : PQ} :
    ∀ (k i : Nat) (f : Nat → Nat) (ms : List ZZ) (mv : AV) (H : Heap), i + k = o.length → Fr N n f vo (o ++ J) ms mv H0 H → f z = t → (∀ x, f x < 1000) → (∀ x ∈ (o.drop i).drop (t - i), 1 ≤ f x) → ms.length + k < 1000 →
    (∀ mv' H', Fr N n (procG z t i (o.drop i) ms f).2 vo (o ++ J) (procG z t i (o.drop i) ms f).1 mv' H0 H' →
      R (.exit 4) [(2, .ptr N 0 0), (6, .ptr (N + 1) 0 0), (7, .ptr (N + 3) 0 0), (8, .vec (N + 4) vo 0 o.length 1), (10, .int .i64 (z : Nat)), (56, .vec (N + 4) vo 0 o.length 1), (57, .int .i64 (o.length : Nat)), (58, .int .i64 (o.length : Nat)), (59, .bool false)] H') →
    Wp E base bar (.loop c11_l1) [(2, .ptr N 0 0), (6, .ptr (N + 1) 0 0), (7, .ptr (N + 3) 0 0), (8, .vec (N + 4) vo 0 o.length 1), (10, .int .i64 (z : Nat)), (56, .vec (N + 4) vo 0 o.length 1), (57, .int .i64 (o.length : Nat)), (58, .int .i64 (i : Nat))] H R := by
  intro k
  induction k with
  | zero =>
    intro i f ms mv H hi g hz hf hpos hm h
    obtain rfl : i = o.length := by omega
    rw [List.drop_length] at h
    rw [wp_round c11_l1.eq_1]
    simp [go_sem]
    exact h mv H g
  | succ k ih =>
    intro i f ms mv H hi g hz hf hpos hm h
    have hlt : i < o.length := by omega
    have hsp : o = o.take i ++ o[i] :: o.drop (i + 1) := by
      rw [← List.drop_eq_getElem_cons (by omega), List.take_append_drop]
    have hxo := List.getElem_mem hlt
    have hd := List.drop_eq_getElem_cons hlt
    have hxn := hon _ hxo
    have hxz : o[i] ≠ z := fun e => hzo (e ▸ hxo)
    have hAl : (o.take i).length = i := by rw [List.length_take]; omega
    have lx : aload H ⟨false, 1⟩ (.ptr (N + 4) vo i) = some (.int .i64 ((o[i] : Nat) : Int)) := by
      have h1 := g.ho
      rw [hsp, List.append_assoc, List.cons_append] at h1
      have := loadN (s := 1) h1
      rw [hAl] at this
      exact this
    rw [hd] at h hpos
    generalize o[i] = x at *
    have lz := loadF (s := 1) g.cl.hl hzn
    have lfx := loadF (s := 1) g.cl.hl hxn
    have l7 : aload H ⟨false, 1⟩ (.ptr (N + 3) 0 0) = some (.vec (N + 2) 0 0 n 1) := by rw [aload_ptr g.cl.hp]; rfl
    have l6 : aload H ⟨false, 1⟩ (.ptr (N + 1) 0 1) = some mv := by rw [aload_ptr g.h6]; rfl
    have hl5 := g.len
    rw [hz] at lz
    unfold procG at h
    have hw1 := i64_suc (show i < 1000000 by omega)
    rw [wp_round c11_l1.eq_1]
    by_cases hit : i < t
    · simp only [hit, if_true] at h
      have hcs : [AV.agg [.int .i64 (z : Int), .int .i64 (x : Int)]].flatMap AV.cells = prs [prZ z x] := by simp [AV.cells, prs, zc, prZ]
      simp [go_sem, hlt, lx, l7, lz, hzn, hit, l6, aop, fillA, setCells, chunks]
      refine g.hm.app (by omega) (by omega) ⟨_, prs_length⟩ (by rw [hcs]; exact prs_plain) (by rw [hcs]; exact prs_noVec) (by rw [hcs]; exact ⟨_, prs_length⟩) (by omega) (by omega) (by
        rw [hcs, ← prs_append, prs_length, List.length_append, List.length_singleton, Nat.mul_div_cancel_left _ (by decide)]
        omega) fun mv' H' tc gm hk => ?_
      rw [hcs, ← prs_append] at gm
      obtain ⟨c906, g3⟩ := g.setm gm hk
      obtain ⟨sb1, sb2⟩ := gm.slot
      simp [go_sem]
      rw [storeWp_ptr (size := 1) c906 sb1 (by rw [sb2]; rfl) (by omega) (by simp) (by omega) (.inl (by omega))]
      have est2 : setCells [AV.int .i64 (n : Nat), mv] 1 mv'.cells = [.int .i64 (n : Nat), mv'] := by rw [sb2]; rfl
      rw [est2]
      simp [go_sem, hw1]
      refine ih (i + 1) f (ms ++ [prZ z x]) mv' _ (by omega) g3 hz hf (fun y hy => hpos y ?_) (by simp; omega) h
      rw [show t - i = (t - (i + 1)) + 1 by omega, List.drop_succ_cons]; exact hy
    · simp only [hit, if_false] at h
      have hti : t - i = 0 := by omega
      rw [hti, List.drop_zero] at hpos
      have hx1 := hpos x (List.mem_cons_self ..)
      have hfx := hf x
      have hcs : [AV.agg [.int .i64 (x : Int), .int .i64 (z : Int)]].flatMap AV.cells = prs [prZ x z] := by simp [AV.cells, prs, zc, prZ]
      simp [go_sem, hlt, lx, l7, lz, hzn, hit, l6, aop, fillA, setCells, chunks]
      refine g.hm.app (by omega) (by omega) ⟨_, prs_length⟩ (by rw [hcs]; exact prs_plain) (by rw [hcs]; exact prs_noVec) (by rw [hcs]; exact ⟨_, prs_length⟩) (by omega) (by omega) (by
        rw [hcs, ← prs_append, prs_length, List.length_append, List.length_singleton, Nat.mul_div_cancel_left _ (by decide)]
        omega) fun mv' H' tc gm hk => ?_
      rw [hcs, ← prs_append] at gm
      obtain ⟨c906, g3⟩ := g.setm gm hk
      obtain ⟨sb1, sb2⟩ := gm.slot
      simp [go_sem]
      rw [storeWp_ptr (size := 1) c906 sb1 (by rw [sb2]; rfl) (by omega) (by simp) (by omega) (.inl (by omega))]
      have est2 : setCells [AV.int .i64 (n : Nat), mv] 1 mv'.cells = [.int .i64 (n : Nat), mv'] := by rw [sb2]; rfl
      rw [est2]
      generalize H'.set (N + 1) (.row 0 [.int .i64 (n : Nat), mv'] 0 true) = H3 at *
      have l7' : aload H3 ⟨false, 1⟩ (.ptr (N + 3) 0 0) = some (.vec (N + 2) 0 0 n 1) := by rw [aload_ptr g3.cl.hp]; rfl
      have lfx' := loadF (s := 1) g3.cl.hl hxn
      have hws : IntKind.i64.wrap ((f x : Int) - 1) = ((f x - 1 : Nat) : Int) := by
        rw [show (f x : Int) - 1 = ((f x - 1 : Nat) : Int) by omega, i64_nat (by omega)]
      have st := fun (K : AV → Heap → List Nat → Prop) (b : Nat) (hb1 : bar ≤ N + 2) => storeF (base := b) (bar := bar) (x := f x - 1) (K := K) g3.cl.hl hxn (Nat.zero_le _) hb1
      simp [go_sem, l7', lfx', hxn, hws]
      rw [st _ _ (by omega)]
      simp [go_sem, hw1]
      refine ih (i + 1) (upd f x (f x - 1)) (ms ++ [prZ x z]) mv' _ (by omega) g3.setl (by unfold upd; rw [if_neg fun e => hxz e.symm]; exact hz) (fun y => by unfold upd; split; omega; exact hf y) (fun y hy => ?_) (by simp; omega) h
      rw [show t - (i + 1) = 0 by omega, List.drop_zero] at hy
      have hyx : y ≠ x := fun e => by
        subst e
        rw [hsp] at hno
        have := (List.nodup_append.1 hno).2.1
        rw [List.nodup_cons] at this
        exact this.1 hy
      unfold upd
      rw [if_neg hyx]
      exact hpos y (List.mem_cons_of_mem _ hy)
theorem l11a {H : Heap} (hN : H.length = N + 4) (hb : bar ≤ N) (hbase : base ≤ N) (hn : n ≤ 7) (h1 : 1 ≤ n) {R : PQ} :
    ∀ (k i vo : Nat), i + k = n →
    (∀ vo', R (.exit 0) [(2, .ptr N 0 0), (6, .ptr (N + 1) 0 0), (7, .ptr (N + 3) 0 0), (8, .vec (N + 4) vo' 0 n 1), (30, .int .i64 (n : Nat)), (31, .int .i64 (n : Nat)), (32, .bool false)] (H ++ [.row vo' (nats (List.range n)) 0 false])) →
    (1 ≤ i → Wp E base bar (.loop c11_l0) [(2, .ptr N 0 0), (6, .ptr (N + 1) 0 0), (7, .ptr (N + 3) 0 0), (8, .vec (N + 4) vo 0 i 1), (30, .int .i64 (n : Nat)), (31, .int .i64 (i : Nat))] (H ++ [.row vo (nats (List.range i)) 0 false]) R) := by
  intro k
  induction k with
  | zero =>
    intro i vo hi h _
    obtain rfl : i = n := by omega
    rw [wp_round c11_l0.eq_1]
    simp [go_sem]
    exact h vo
  | succ k ih =>
    intro i vo hi h hi1
    have hlt : i < n := by omega
    have next := ih (i + 1) (vo + 1) (by omega) h (by omega)
    rw [List.range_succ] at next
    have hap := fun (K : AV → Heap → List Nat → Prop) => app_vec0 (base := base) (bar := bar) (H := H) (x := i) (vo := vo) (cells := List.range i) (K := K) (by simp; omega) (by omega) (by omega)
    rw [List.length_range, hN] at hap
    rw [wp_round c11_l0.eq_1]
    simp [go_sem, hlt, aop, fillA, setCells, chunks]
    refine hap _ ?_
    simp [go_sem, i64_suc (show i < 1000000 by omega)]
    exact next
end
end Go.Proofs.Ytngoldipfgfecaa.Code
end
section
namespace Go.Proofs.Ytngoldipfgfecaa.Code
open Go Go.Ab
section
variable {base bar N n vo : Nat} {H0 : Heap} {s : Nat → Nat}
theorem decB_le {f : Nat → Nat} {B : List Nat} {x : Nat} : decB f B x ≤ f x := by
  unfold decB; split <;> omega
set_option maxRecDepth 8000 in
set_option maxHeartbeats 1000000 in
theorem l11c (hb : bar ≤ N) (hbase : base ≤ N) (hn : n ≤ 7) {R : PQ}
    (h : ∀ (o cells : List Nat) (f : Nat → Nat) (ms : List ZZ) (mv : AV) (H : Heap), Fr N n f vo cells ms mv H0 H → Gr n s f o ms → o.length = 1 →
      R (.exit 2) [(2, .ptr N 0 0), (6, .ptr (N + 1) 0 0), (7, .ptr (N + 3) 0 0), (8, .vec (N + 4) vo 0 1 1), (41, .bool false)] H) :
    ∀ (k m : Nat) (o J : List Nat) (f : Nat → Nat) (ms : List ZZ) (mv : AV) (H : Heap) (X : List (Nat × AV)), m = k + 1 → o.length = m → Fr N n f vo (o ++ J) ms mv H0 H → Gr n s f o ms → (∀ x, f x < 1000) → ((∃ a b c, X = [(30, a), (31, b), (32, c)]) ∨ ∃ a b c d e, X = [(10, a), (56, b), (57, c), (58, d), (59, e)]) →
    Wp E base bar (.loop c11_l2) ([(2, .ptr N 0 0), (6, .ptr (N + 1) 0 0), (7, .ptr (N + 3) 0 0), (8, .vec (N + 4) vo 0 m 1)] ++ X) H R := by
  intro k
  induction k with
  | zero =>
    intro m o J f ms mv H X hm ho g hg hf hX
    obtain rfl : m = 1 := by omega
    rw [wp_round c11_l2.eq_1]
    rcases hX with ⟨a, b, c, rfl⟩ | ⟨a, b, c, d, e, rfl⟩ <;> simp [go_sem]
    all_goals exact h o _ f ms mv H g hg ho
  | succ k ih =>
    intro m o J f ms mv H X hm ho g hg hf hX
    have hnd := hg.lan.nodup
    have hm7 : m ≤ 7 := by
      have := sub_len (l := o) (m := List.range n) hnd fun x hx => List.mem_range.2 (hg.lt x hx)
      rw [List.length_range] at this; omega
    have hms : ms.length ≤ 28 := by
      have := hg.len
      have := half_le n (by omega)
      omega
    obtain ⟨m1, hm1⟩ : ∃ m1, m1 = m - 1 := ⟨_, rfl⟩
    have w1 : IntKind.i64.wrap ((m : Int) - 1) = (m1 : Int) := by rw [show (m : Int) - 1 = (m1 : Int) by omega, i64_nat (by omega)]
    rw [wp_round c11_l2.eq_1]
    rcases hX with ⟨xa, xb, xc, rfl⟩ | ⟨xa, xb, xc, xd, xe, rfl⟩ <;> simp [go_sem, show (1 : Int) < (m : Int) by omega, show 1 < m by omega]
    all_goals
      refine k39 (n := n) (io := N + 4) hf (by omega) (by omega) (by omega) (by omega) (by omega) ho hg.lt g.cl g.ho fun o' hp hs => ?_
      have g2 := g.seto (vo' := vo) (cells' := o' ++ J)
      have hg2 := hg.perm hp
      have hl2 := hp.length_eq
      obtain ⟨o1, z, rfl⟩ : ∃ o1 z, o' = o1 ++ [z] := by
        have hne : o' ≠ [] := fun e => by rw [e] at hl2; simp at hl2; omega
        exact ⟨o'.dropLast, o'.getLast hne, (List.dropLast_concat_getLast hne).symm⟩
      rw [List.length_append, List.length_singleton] at hl2
      have hc : o1 ++ [z] ++ J = o1 ++ z :: J := by simp
      rw [hc] at g2 ⊢
      generalize H.set (N + 4) (.row vo (nats (o1 ++ z :: J)) 0 false) = H2 at *
      have lz : aload H2 ⟨false, 1⟩ (.ptr (N + 4) vo m1) = some (.int .i64 (z : Nat)) := by
        have := loadN (s := 1) g2.ho
        rwa [show o1.length = m1 by omega] at this
      have hnd2 := hg2.lan.nodup
      obtain ⟨hno, _, hdz⟩ := List.nodup_append.1 hnd2
      have hzo : z ∉ o1 := fun hm => hdz z hm z (by simp) rfl
      obtain ⟨q1, q2, q3⟩ := hg2.lan.step hs
      have hstep := hg2.step hs
      have hsl : aslice H2 (.slc 1) (.vec (N + 4) vo 0 m 1) none (some (.int .i64 (m1 : Nat))) none = some (.vec (N + 4) vo 0 m1 1) := by
        simp [aslice, g2.ho, nats_length, optBound, bound1, AV.asNat]
        rw [if_pos (by omega)]
      have hf2 : ∀ x, (procG z (f z) 0 o1 ms f).2 x < 1000 := fun x => by
        rw [procG_eq o1 0 ms f hno]
        exact Nat.lt_of_le_of_lt decB_le (hf x)
      have hin := fun (R : PQ) => l11b (R := R) (base := base) (bar := bar) (vo := vo) (H0 := H0) (z := z) (t := f z) (o := o1) (J := z :: J) hb hbase hn (hg2.lt z (by simp)) hzo hno (fun x hx => hg2.lt x (by simp [hx])) (by omega) m1 0 f ms mv H2 (by omega) g2 rfl hf (by
        rw [List.drop_zero, Nat.sub_zero]; exact q2) (by omega)
      rw [List.drop_zero, show o1.length = m1 by omega] at hin
      simp [go_sem, w1, show m1 < m by omega, lz, aop, hsl, Opd.evo]
      refine hin _ fun mv' H3 g3 => ?_
      simp [go_sem]
      exact ih m1 o1 (z :: J) _ _ mv' H3 _ (by omega) (by omega) g3 hstep hf2 (.inr ⟨_, _, _, _, _, rfl⟩)
end
end Go.Proofs.Ytngoldipfgfecaa.Code
end
section
namespace Go.Proofs.Ytngoldipfgfecaa.Code
open Go Go.Ab
variable {pure : Bool} {base bar : Nat} {H : Heap} {Q : AV → Heap → Prop}
set_option maxRecDepth 8000 in
set_option maxHeartbeats 1000000 in
theorem k11 {v : AV} {s : List Nat} (hv : isL v s) (hs : OkS s) (hno : bestA s = []) (hlan : Lan (fun x => s.getD x 0) (List.range s.length)) (hbar : bar ≤ H.length)
    (h : ∀ q ms, isP q ms → ms.length ≤ 28 → OkC s.length ms → (∀ x, x < s.length → ((List.range s.length).filter (bitL ms x)).length = s.getD x 0) → Q (.tup [.agg [.int .i64 (s.length : Nat), q], .int .i64 0]) H) : WpCall E pure base bar 11 [v] H Q := by
  rw [call11]
  have hb' := bar_ok (pure := pure) hbar
  have h7 := hs.le
  have hpos := hs.pos
  have hne : s ≠ [] := fun e => by rw [e] at hpos; simp at hpos
  simp [go_sem, WpFun, c11, hv.frz] at hb' ⊢
  generalize (if pure = true then H.length else bar) = bar' at hb' ⊢
  refine k32 hv hs (by simp; omega) (fun _ => ?_) (fun hc => absurd hno hc)
  simp [go_sem, natEq, hv.len, fillA, setCells, storeWp, astore, own_get, own_set, AV.isTup, AV.cells, AV.top.tops, AV.top, show bar' ≤ H.length + 1 by omega]
  refine k38 hv hne (by omega) ?_
  have hfc : nats s = fcells s.length fun x => s.getD x 0 := by
    rw [fcells_nats]
    congr 1
    apply List.ext_getElem?
    intro i
    rw [List.getElem?_map]
    by_cases hi : i < s.length
    · rw [List.getElem?_eq_getElem hi, List.getElem?_range hi]
      simp [getD_get hi]
    · rw [List.getElem?_eq_none (by omega), List.getElem?_eq_none (by simp; omega)]; rfl
  simp [go_sem, storeWp, astore, own_get, own_set, setCells, AV.isTup, AV.cells, AV.top.tops, AV.top, show bar' ≤ H.length + 3 by omega, hv.len]
  rw [hfc]
  have hs7 : ∀ x, s.getD x 0 < 1000 := fun x => by
    by_cases hx : x < s.length
    · have := hs.lt s[x] (List.getElem_mem hx)
      rw [getD_get hx] at this; omega
    · rw [List.getD_eq_getElem?_getD, List.getElem?_eq_none (by omega)]; decide
  obtain ⟨H4, hH4⟩ : ∃ H4, H4 = H ++ [Blk.row 0 [.int .i64 0, .nils] 0 true, .row 0 [.int .i64 (s.length : Nat), .nils] 0 true, .row 0 (fcells s.length fun x => s.getD x 0) 0 false, .row 0 [.vec (H.length + 2) 0 0 s.length 1] 0 true] := ⟨_, rfl⟩
  have hN4 : H4.length = H.length + 4 := by rw [hH4]; simp
  have hfr : ∀ vo cells, Fr H.length s.length (fun x => s.getD x 0) vo cells [] .nils H (H4 ++ [.row vo (nats cells) 0 false]) := fun vo cells => by
    rw [hH4]
    refine ⟨rfl, ?_, ?_, ⟨?_, ?_⟩, ?_, .nil, ?_⟩
    · simp [own_get, own_get0]
    · simp [own_get]
    · simp [own_get]
    · simp [own_get]
    · simp [own_get]
    · simp
  rw [← hH4]
  rw [wp_round c11_l0.eq_1]
  simp [go_sem, show (0 : Int) < (s.length : Int) by omega, hpos, show 0 < s.length by omega, aop, fillA, chunks, setCells]
  refine app_nil0 ?_
  rw [hN4]
  simp [go_sem]
  refine l11a hN4 hb' (Nat.le_refl _) h7 hpos (s.length - 1) 1 0 (by omega) (fun vo => ?_) (by omega)
  simp [go_sem]
  refine l11c (N := H.length) (n := s.length) (vo := vo) (H0 := H) (s := fun x => s.getD x 0) hb' (Nat.le_refl _) h7 (fun o cells f ms mv H5 g hg ho => ?_) (s.length - 1) s.length (List.range s.length) [] (fun x => s.getD x 0) [] .nils _ _ (by omega) (by simp) (by rw [List.append_nil]; exact hfr vo _) (Gr.zero hlan) hs7 (.inl ⟨_, _, _, rfl⟩)
  obtain ⟨hok, hsc⟩ := hg.done (by omega) hpos h7
  have l6 : aload H5 ⟨true, 2⟩ (.ptr (H.length + 1) 0 0) = some (.agg [.int .i64 (s.length : Nat), mv]) := by rw [aload_ptr g.h6]; rfl
  obtain ⟨sb1, sb2⟩ := g.hm.slot
  have hlen := g.len
  simp [go_sem, l6]
  rw [storeWp_ptr (size := 2) g.h0 rfl (by simp [AV.cells]) (by omega) (by simp) (by omega) (.inl (by omega))]
  have est : setCells [AV.int .i64 0, .nils] 0 (AV.agg [.int .i64 (s.length : Nat), mv]).cells = [.int .i64 (s.length : Nat), mv] := by simp [AV.cells, setCells]
  rw [est]
  have hm6 : Own (H.length + 5) 2 (prs ms) mv (H5.set H.length (.row 0 [.int .i64 (s.length : Nat), mv] 0 true)) := g.hm.mono fun j hj => by
    have := (g.hm.lt hj).1
    rw [List.getElem?_set_ne (by omega)]
  have g0 : (H5.set H.length (.row 0 [.int .i64 (s.length : Nat), mv] 0 true))[H.length]? = some (.row 0 [.int .i64 (s.length : Nat), mv] 0 true) := set_get g.h0
  have htk : (H5.set H.length (.row 0 [.int .i64 (s.length : Nat), mv] 0 true)).take H.length = H := by rw [List.take_set_of_le (by omega)]; exact g.tk
  generalize H5.set H.length (.row 0 [.int .i64 (s.length : Nat), mv] 0 true) = H6 at *
  have l0 : aload H6 ⟨true, 2⟩ (.ptr H.length 0 0) = some (.agg [.int .i64 (s.length : Nat), mv]) := by rw [aload_ptr g0]; rfl
  obtain ⟨H7, f1, f2, f3, f4⟩ := Own.frz (d := 4) (bar := bar') hm6 (by omega) ⟨ms.length, prs_length⟩ prs_plain (by omega)
  have htk7 : H7.take H.length = H := by
    refine Eq.trans ?_ htk
    apply List.ext_getElem?
    intro j
    rw [List.getElem?_take, List.getElem?_take]
    split
    · exact f4 j fun hc => by have := (hm6.lt hc).1; omega
    · rfl
  have hq := isP.out (l := ms)
  generalize outL 2 (prs ms) = q at *
  simp [go_sem, l0, f1, hq.top, htk7]
  have hml : ms.length ≤ 28 := by
    have h1 := hg.len
    have h2 := half_le s.length (by omega)
    omega
  exact h q ms hq hml hok hsc
end Go.Proofs.Ytngoldipfgfecaa.Code
end
section
namespace Go.Proofs.Ytngoldipfgfecaa.Code
open Go Go.Ab
end Go.Proofs.Ytngoldipfgfecaa.Code
end
section
namespace Go.Proofs.Ytngoldipfgfecaa.Code
open Go Go.Ab
/-! the scores of a contest -/
def winsIn (f : Nat → Nat → Bool) (T U : List Nat) : Nat := (T.map fun x => (U.filter (f x)).length).sum
theorem winsIn_cons {f : Nat → Nat → Bool} {u : Nat} {U : List Nat} : ∀ {T : List Nat}, winsIn f T (u :: U) = winsIn f T U + (T.filter fun x => f x u).length
  | [] => rfl
  | x :: r => by
    have ih := winsIn_cons (f := f) (u := u) (U := U) (T := r)
    unfold winsIn at ih ⊢
    rw [List.map_cons, List.sum_cons, List.map_cons, List.sum_cons, ih]
    cases hc : f x u
    · rw [List.filter_cons_of_neg (by simp [hc]), List.filter_cons_of_neg (by simp [hc])]; omega
    · rw [List.filter_cons_of_pos hc, List.filter_cons_of_pos (by simp [hc]), List.length_cons, List.length_cons]; omega
theorem wins_tour {n : Nat} {f : Nat → Nat → Bool} (h1 : ∀ x y, x < n → y < n → x ≠ y → f x y = !f y x) (h0 : ∀ x, f x x = false) : ∀ {T : List Nat}, T.Nodup → (∀ x ∈ T, x < n) → winsIn f T T = halfN T.length
  | [], _, _ => rfl
  | x :: r, hn, hT => by
    rw [List.nodup_cons] at hn
    have ih := wins_tour h1 h0 hn.2 fun y hy => hT y (List.mem_cons_of_mem _ hy)
    have hx := hT x (List.mem_cons_self ..)
    rw [winsIn_cons]
    have e : winsIn f (x :: r) r = (r.filter (f x)).length + winsIn f r r := rfl
    rw [e, ih, List.filter_cons_of_neg (by simp [h0]), List.length_cons, halfN_succ]
    have c := filter_two (T := r) (p := f x)
    have : (r.filter fun y => !f x y) = r.filter fun y => f y x := by
      apply List.filter_congr
      intro y hy
      have hne : y ≠ x := fun e => hn.1 (e ▸ hy)
      rw [h1 y x (hT y (List.mem_cons_of_mem _ hy)) hx hne]
    rw [this] at c
    omega
theorem filter_le_sub {p : Nat → Bool} {T U : List Nat} (hT : T.Nodup) (hTU : ∀ x ∈ T, x ∈ U) : (T.filter p).length ≤ (U.filter p).length :=
  sub_len (hT.filter _) fun x hx => by
    rw [List.mem_filter] at hx ⊢
    exact ⟨hTU x hx.1, hx.2⟩
theorem winsIn_le {f : Nat → Nat → Bool} {T U : List Nat} (hT : T.Nodup) (hTU : ∀ x ∈ T, x ∈ U) : winsIn f T T ≤ winsIn f T U := by
  have : ∀ (S : List Nat), winsIn f S T ≤ winsIn f S U := fun S => by
    induction S with
    | nil => exact Nat.le_refl _
    | cons x r ih =>
      have e : ∀ V, winsIn f (x :: r) V = (V.filter (f x)).length + winsIn f r V := fun V => rfl
      rw [e, e]
      have := filter_le_sub (p := f x) hT hTU
      omega
  exact this T
section
variable {n : Nat} {f : Nat → Nat → Bool} {w : Nat → Nat}
theorem often_eq (hbd : BoardW n w) (hw : ∀ x y, (w x).testBit y = f x y) : oftenS n w = (List.range n).map fun x => ((List.range n).filter (f x)).length := by
  unfold oftenS
  apply List.map_congr_left
  intro x _
  exact bits_filter hbd hw
theorem often_len : (oftenS n w).length = n := by unfold oftenS; simp
theorem often_get (hbd : BoardW n w) (hw : ∀ x y, (w x).testBit y = f x y) {x : Nat} (hx : x < n) : (oftenS n w).getD x 0 = ((List.range n).filter (f x)).length := by
  rw [often_eq hbd hw, List.getD_eq_getElem?_getD]
  simp [hx]
theorem often_ok (hbd : BoardW n w) (hw : ∀ x y, (w x).testBit y = f x y) (hpos : 1 ≤ n) : OkS (oftenS n w) := by
  have h1 : ∀ x y, x < n → y < n → x ≠ y → f x y = !f y x := fun x y hx hy hne => by rw [← hw, ← hw]; exact hbd.one x y hx hy hne
  have h0 : ∀ x, f x x = false := fun x => by rw [← hw]; exact hbd.irr x
  refine ⟨by rw [often_len]; exact hpos, by rw [often_len]; exact hbd.le, fun s hs => ?_, ?_⟩
  · rw [often_eq hbd hw, List.mem_map] at hs
    obtain ⟨x, hx, rfl⟩ := hs
    rw [often_len]
    have := sub_len (l := x :: (List.range n).filter (f x)) (m := List.range n) (by
      rw [List.nodup_cons]
      refine ⟨fun hm => ?_, List.nodup_range.filter _⟩
      have := (List.mem_filter.1 hm).2
      rw [h0] at this; cases this) fun y hy => by
      rcases List.mem_cons.1 hy with rfl | hy
      · exact hx
      · exact (List.mem_filter.1 hy).1
    rw [List.length_cons, List.length_range] at this
    omega
  · rw [often_len, often_eq hbd hw]
    have := wins_tour h1 h0 (T := List.range n) List.nodup_range fun x hx => List.mem_range.1 hx
    rw [List.length_range] at this
    exact this
theorem often_sum (hbd : BoardW n w) (hw : ∀ x y, (w x).testBit y = f x y) {T : List Nat} (hT : T.Nodup) (hTn : ∀ x ∈ T, x < n) : halfN T.length ≤ sumS (oftenS n w) T := by
  have h1 : ∀ x y, x < n → y < n → x ≠ y → f x y = !f y x := fun x y hx hy hne => by rw [← hw, ← hw]; exact hbd.one x y hx hy hne
  have h0 : ∀ x, f x x = false := fun x => by rw [← hw]; exact hbd.irr x
  rw [← wins_tour h1 h0 hT hTn]
  have e : sumS (oftenS n w) T = winsIn f T (List.range n) := by
    unfold sumS winsIn
    rw [List.map_congr_left fun x hx => often_get hbd hw (hTn x hx)]
  rw [e]
  exact winsIn_le hT fun x hx => List.mem_range.2 (hTn x hx)
end
/-! proofs against scores -/
theorem bits_mem8 {S x : Nat} (hS : S < 256) : x ∈ bitsOf S ↔ S.testBit x = true := by
  unfold bitsOf
  rw [List.mem_filter, List.mem_range]
  refine ⟨fun h => h.2, fun h => ⟨?_, h⟩⟩
  apply Decidable.byContradiction
  intro hc
  have : S < 2 ^ x := Nat.lt_of_lt_of_le (show S < 2 ^ 8 by omega) (Nat.pow_le_pow_right (by decide) (by omega))
  rw [Nat.testBit_lt_two_pow this] at h; cases h
theorem bits_nodup {S : Nat} : (bitsOf S).Nodup := List.nodup_range.filter _
theorem bits_below {S n : Nat} (hS : S < pw n) (hn : n ≤ 8) {x : Nat} (hx : x ∈ bitsOf S) : x < n := by
  have h8 : pw n ≤ 256 := Nat.pow_le_pow_right (by decide) hn
  have hb := (bits_mem8 (by omega)).1 hx
  apply Decidable.byContradiction
  intro hc
  have : S < 2 ^ x := Nat.lt_of_lt_of_le hS (Nat.pow_le_pow_right (by decide) (by omega))
  rw [Nat.testBit_lt_two_pow this] at hb; cases hb
theorem bits_ne {S : Nat} (h1 : 1 ≤ S) (hS : S < 256) : bitsOf S ≠ [] := fun e => by
  have : S = 0 := Nat.eq_of_testBit_eq fun i => by
    rw [Nat.zero_testBit]
    cases hb : S.testBit i
    · rfl
    · have := (bits_mem8 hS).2 hb
      rw [e] at this; simp at this
  omega
theorem foldA_ne {s : List Nat} : ∀ {L b : List Nat}, b ≠ [] → (∀ S ∈ L, bitsOf S ≠ []) → L.foldl (stepA s) b ≠ []
  | [], b, h, _ => h
  | S :: L, b, h, hL => by
    rw [List.foldl_cons]
    refine foldA_ne ?_ fun T hT => hL T (List.mem_cons_of_mem _ hT)
    unfold stepA
    split
    · exact hL S (List.mem_cons_self ..)
    · exact h
theorem foldA_nil {s : List Nat} : ∀ {L : List Nat}, (∀ S ∈ L, bitsOf S ≠ []) → (L.foldl (stepA s) [] = [] ↔ ∀ S ∈ L, lessW s S ≤ 0)
  | [], _ => by simp
  | S :: L, hL => by
    have ih := foldA_nil (s := s) (L := L) fun T hT => hL T (List.mem_cons_of_mem _ hT)
    have hS := hL S (List.mem_cons_self ..)
    rw [List.foldl_cons]
    by_cases hc : 0 < lessW s S
    · have e : stepA s [] S = bitsOf S := by unfold stepA; rw [if_pos ⟨hc, .inl rfl⟩]
      rw [e]
      constructor
      · intro h
        exact absurd h (foldA_ne hS fun T hT => hL T (List.mem_cons_of_mem _ hT))
      · intro h
        have := h S (List.mem_cons_self ..)
        omega
    · have e : stepA s [] S = [] := by unfold stepA; rw [if_neg fun h => hc h.1]
      rw [e, ih]
      constructor
      · intro h T hT
        rcases List.mem_cons.1 hT with rfl | hT
        · omega
        · exact h T hT
      · exact fun h T hT => h T (List.mem_cons_of_mem _ hT)
theorem bestA_nil {s : List Nat} (hs : s.length ≤ 7) : bestA s = [] ↔ ∀ S, 1 ≤ S → S < pw s.length → lessW s S ≤ 0 := by
  have h8 : pw s.length ≤ 128 := Nat.pow_le_pow_right (by decide) hs
  have h1 : 1 ≤ pw s.length := Nat.one_le_two_pow
  unfold bestA
  rw [foldA_nil fun S hS => by
    rw [List.mem_range'_1] at hS
    exact bits_ne hS.1 (by omega)]
  constructor
  · exact fun h S a b => h S (List.mem_range'_1.2 ⟨a, by omega⟩)
  · exact fun h S hS => by
      rw [List.mem_range'_1] at hS
      exact h S hS.1 (by omega)
theorem sumS_range {s : List Nat} : ((List.range s.length).map fun x => s.getD x 0) = s := by
  apply List.ext_getElem?
  intro i
  rw [List.getElem?_map]
  by_cases hi : i < s.length
  · rw [List.getElem?_eq_getElem hi, List.getElem?_range hi]
    simp [getD_get hi]
  · rw [List.getElem?_eq_none (l := s) (by omega), List.getElem?_eq_none (l := List.range s.length) (by simp; omega)]; rfl
theorem often_bestA {n : Nat} {f : Nat → Nat → Bool} {w : Nat → Nat} (hbd : BoardW n w) (hw : ∀ x y, (w x).testBit y = f x y) : bestA (oftenS n w) = [] := by
  have hn := hbd.le
  rw [bestA_nil (by rw [often_len]; exact hn)]
  intro S h1 h2
  rw [often_len] at h2
  unfold lessW
  have := often_sum hbd hw (bits_nodup (S := S)) fun x hx => bits_below h2 (by omega) hx
  omega
end Go.Proofs.Ytngoldipfgfecaa.Code
end
section
namespace Go.Proofs.Ytngoldipfgfecaa.Code
open Go Go.Ab
variable {pure : Bool} {base bar : Nat} {H : Heap} {Q : AV → Heap → Prop}
end Go.Proofs.Ytngoldipfgfecaa.Code
end
section
namespace Go.Proofs.Ytngoldipfgfecaa.Code
open Go Go.Ab
end Go.Proofs.Ytngoldipfgfecaa.Code
end
section
namespace Go.Proofs.Ytngoldipfgfecaa.Code
open Go Go.Ab
end Go.Proofs.Ytngoldipfgfecaa.Code
end
section
namespace Go.Proofs.Ytngoldipfgfecaa.Code
open Go Go.Ab
end Go.Proofs.Ytngoldipfgfecaa.Code
end
section
namespace Go.Proofs.Ytngoldipfgfecaa.Code
open Go Go.Ab
section
variable {base bar : Nat} {H : Heap}
theorem Own.one {k x : Nat} {L : List Nat} {v : AV} {K : AV → Heap → List Nat → Prop} (g : Own k 1 (nats L) v H) (hk : k ≤ H.length) (hb : bar ≤ k) (hbase : base ≤ k) (hl : L.length < 1000)
    (h : ∀ v' H' tc, Own k 1 (nats (L ++ [x])) v' H' → Kept1 v v' H H' tc → K v' H' tc) : appWp base bar 1 8 (some v) (some (.lst 1 true [.int .i64 (x : Nat)])) H K := by
  have hcs : [AV.int .i64 (x : Nat)].flatMap AV.cells = nats [x] := rfl
  have e : nats L ++ nats [x] = nats (L ++ [x]) := by simp [nats]
  refine g.app hk (by omega) ⟨_, by rw [Nat.one_mul]⟩ (by rw [hcs]; exact nats_plain) rfl ⟨1, rfl⟩ hb hbase (by
    rw [hcs, e, nats_length]; simp; omega) fun v' H' tc g' hk' => ?_
  rw [hcs, e] at g'
  exact h v' H' tc g' hk'
theorem Own.frz1 {k d : Nat} {L : List Nat} {v : AV} (g : Own k 1 (nats L) v H) : ∃ q H', Go.Ab.frz (d + 3) 0 H v = some (q, H') ∧ isL q L ∧ Own k 1 (nats L) v H' ∧ H'.length = H.length ∧ ∀ j, idOf v ≠ some j → H'[j]? = H[j]? := by
  obtain ⟨H', h1, h2, h3, h4⟩ := Own.frz (d := d) (bar := 0) g (by omega) ⟨_, by rw [Nat.one_mul]⟩ nats_plain (Nat.zero_le _)
  exact ⟨_, H', h1, isL.out, h2, h3, h4⟩
end
/-- what stands while the sets are gone through -/
structure Ld (s : List Nat) (vo : Nat) (B2 : Blk) (P : List Nat) (pv : AV) (H : Heap) : Prop where
  h1 : H[1]? = some (.row vo (nats s) s.length false)
  h2 : H[2]? = some B2
  hP : Own 3 1 (nats P) pv H
structure Ld2 (s : List Nat) (vo : Nat) (B2 : Blk) (P : List Nat) (pv : AV) (L : List Nat) (lv : AV) (H : Heap) : Prop where
  g : Ld s vo B2 P pv H
  hL : Own 3 1 (nats L) lv H
  ne : ∀ j, idOf pv = some j → idOf lv ≠ some j
section
variable {H : Heap} {s : List Nat} {vo : Nat} {B2 : Blk} {P L : List Nat} {pv lv : AV}
theorem Ld.len (g : Ld s vo B2 P pv H) : 3 ≤ H.length := by
  have := (List.getElem?_eq_some_iff.1 g.h2).1; omega
theorem Ld2.app (g : Ld2 s vo B2 P pv L lv H) {L' : List Nat} {lv' : AV} {H' : Heap} {tc : List Nat} (g' : Own 3 1 (nats L') lv' H') (hk : Kept1 lv lv' H H' tc) : Ld2 s vo B2 P pv L' lv' H' := by
  have hl := g.g.len
  have hsm : ∀ j, j < 3 → H'[j]? = H[j]? := fun j hj => hk.same j (by omega) fun hc => by have := (g.hL.lt hc).1; omega
  refine ⟨⟨by rw [hsm 1 (by omega)]; exact g.g.h1, by rw [hsm 2 (by omega)]; exact g.g.h2, g.g.hP.mono fun j hj => hk.same j (g.g.hP.lt hj).2 (g.ne j hj)⟩, g', fun j hj hc => ?_⟩
  rcases hk.id j hc with h | h
  · exact g.ne j hj h
  · have := (g.g.hP.lt hj).2; omega
/-- the second list is frozen -/
theorem Ld2.frz (g : Ld2 s vo B2 P pv L lv H) : ∃ q H', Go.Ab.frz 8 0 H lv = some (q, H') ∧ isL q L ∧ Ld2 s vo B2 P pv L lv H' := by
  obtain ⟨q, H', h1, h2, h3, h4, h5⟩ := Own.frz1 (d := 5) g.hL
  have hsm : ∀ j, j < 3 → H'[j]? = H[j]? := fun j hj => h5 j fun hc => by have := (g.hL.lt hc).1; omega
  exact ⟨q, H', h1, h2, ⟨by rw [hsm 1 (by omega)]; exact g.g.h1, by rw [hsm 2 (by omega)]; exact g.g.h2, g.g.hP.mono fun j hj => h5 j (g.ne j hj)⟩, h3, g.ne⟩
end
end Go.Proofs.Ytngoldipfgfecaa.Code
end
section
namespace Go.Proofs.Ytngoldipfgfecaa.Code
open Go Go.Ab
end Go.Proofs.Ytngoldipfgfecaa.Code
end
section
namespace Go.Proofs.Ytngoldipfgfecaa.Code
open Go Go.Ab
section
variable {n b : Nat}
theorem scores_eq {s : List Nat} {w : Nat → Nat} {f : Nat → Nat → Bool} (hs : s.length = n) (hbd : BoardW n w) (hw : ∀ x y, (w x).testBit y = f x y) (hsc : ∀ x, x < n → ((List.range n).filter (f x)).length = s.getD x 0) : oftenS n w = s := by
  rw [often_eq hbd hw, List.map_congr_left fun x hx => hsc x (List.mem_range.1 hx)]
  have := sumS_range (s := s)
  rw [hs] at this
  exact this
end
end Go.Proofs.Ytngoldipfgfecaa.Code
end
end

