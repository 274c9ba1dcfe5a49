/-
  Parts of the proofs about this chapter, joined: contracts of functions and plain laws.
-/
import Derived.Test.YtnlebofipoepfaaCall
import Derived.Test.YtnlebofipoepfaaAbO
import Derived.Test.YtnlebofipoepfaaAbArg
set_option linter.all false
section
namespace Go.Ab
open Go.RowKit Go.ChangeShapes Go.WideShapes
variable {H : Type} {enc : TypeId × Value → H} {P : Program} {W W' : World} {base : Nat} {spare : Nat → Bool} {held : Bool}
theorem flat_vr {n : Nat} {t : TypeId} {v : Value} {d : DataW H} {ps : List MemPlace} {r : Reach} {b0 : Nat}
    (hu : (∃ fs, P.underlying t = some (.struct fs)) ∨ ∃ m e, P.underlying t = some (.array m e)) (hf : flatT P n t = true)
    (hval : Value.okWide P W r b0 t v) (hd : DataW.Trod enc P W 0 spare held t v d ps) : ∃ ys, VR (ctx0 W) (.agg ys) v ∧ Sh P n t ys := by
  have hv : ∃ cs, v = .agg cs := by
    unfold Value.okWide at hval
    rcases hu with ⟨fs, hu⟩ | ⟨m, e, hu⟩
    · rw [hu] at hval
      obtain ⟨cs, h, _⟩ := hval
      exact ⟨cs, h⟩
    · rw [hu] at hval
      obtain ⟨cs, h, _⟩ := hval
      exact ⟨cs, h⟩
  obtain ⟨cs, rfl⟩ := hv
  obtain ⟨fuel, hd⟩ := hd
  obtain ⟨ys, h1, h2⟩ := flat_cel (W := W) n t hf _ _ _ hd
  have hc : (Value.agg cs).cells.toList = cs.toList := rfl
  rw [hc] at h2
  exact ⟨ys, .agg ys cs (by rw [h2.len]; simp) h2.one fun i c u hi hu => h2.vr i c u hi (by simpa using hu), h1⟩
theorem sh_nat {n : Nat} {e : TypeId} {k : IntKind} {ys : List AV} (he : P.underlying e = some (.int k)) (hk : k.min = 0) (h : Sh P (n + 1) e ys) : ∃ a : Nat, ys = [.int k a] ∧ (a : Int) ≤ k.max := by
  unfold Sh at h
  rw [he] at h
  obtain ⟨z, rfl, hw⟩ := h
  simp only [Lit.wf, Bool.and_eq_true, decide_eq_true_eq, hk] at hw
  obtain ⟨a, rfl⟩ := Int.eq_ofNat_of_zero_le hw.1
  exact ⟨a, rfl, hw.2⟩
/-- a struct of a byte and a word -/
theorem row_vr {t : TypeId} {f0 f1 : Field} {v : Value} {d : DataW H} {ps : List MemPlace} {r : Reach} {b0 : Nat}
    (ht : P.underlying t = some (.struct #[f0, f1])) (o0 : f0.offset = 0) (o1 : f1.offset = 1) (c0 : P.cellsOf f0.type = 1) (c1 : P.cellsOf f1.type = 1) (ct : P.cellsOf t = 2)
    (h0 : P.underlying f0.type = some (.int .u8)) (h1 : P.underlying f1.type = some (.int .u32))
    (hval : Value.okWide P W r b0 t v) (hd : DataW.Trod enc P W 0 spare held t v d ps) :
    ∃ p bits : Nat, p < 256 ∧ bits < 4294967296 ∧ VR (ctx0 W) (.agg [.int .u8 (p : Nat), .int .u32 (bits : Nat)]) v := by
  have hf : flatT P 2 t = true := by
    have g0 : flatT P 1 f0.type = true := by unfold flatT; rw [h0]
    have g1 : flatT P 1 f1.type = true := by unfold flatT; rw [h1]
    unfold flatT; rw [ht]
    simp [rowed, o0, o1, c0, c1, ct, g0, g1]
  obtain ⟨ys, hv, hs⟩ := flat_vr (.inl ⟨_, ht⟩) hf hval hd
  unfold Sh at hs
  rw [ht] at hs
  obtain ⟨hl, hs⟩ := hs
  rw [ct] at hl
  have s0 := hs f0 (by simp)
  have s1 := hs f1 (by simp)
  rw [o0, c0] at s0
  rw [o1, c1] at s1
  obtain ⟨p, hp, hp2⟩ := sh_nat h0 (by decide) s0
  obtain ⟨b, hb, hb2⟩ := sh_nat h1 (by decide) s1
  match ys, hl with
  | [x, y], _ =>
    simp at hp hb
    subst hp hb
    have m1 : IntKind.u8.max = 255 := by decide
    have m2 : IntKind.u32.max = 4294967295 := by decide
    exact ⟨p, b, by omega, by omega, hv⟩
end Go.Ab
end
section
namespace Go.Proofs.Ytnlebofipoepfaa.Code
open Go Go.Ab
attribute [go_sem ↓] wpop_app
variable {pure : Bool} {base bar : Nat} {H : Heap} {Q : AV → Heap → Prop}
/-- is a number from a to b -/
def within (a b n : Int) : Bool := decide (a ≤ n) && decide (n ≤ b)
theorem k61 {n a b : Int} : WpCall E pure base bar 61 [.int .i64 a, .int .i64 n, .int .i64 b] H Q ↔ Q (.bool (within a b n)) H := by
  rw [call61]
  simp [go_sem, WpFun, c61]
  unfold within
  by_cases h : a ≤ n <;> simp [h]
def tz8 (s : Nat) : Nat := ((List.range 8).find? (s.testBit ·)).getD 8
theorem tz8_tab : ∀ i, i < 256 → c88_b0[i]? = some (tz8 i).toUInt8 := by decide +kernel
theorem tz8_lt (s : Nat) : tz8 s ≤ 8 := by
  unfold tz8
  cases h : (List.range 8).find? (s.testBit ·) with
  | none => simp
  | some i => have := List.mem_of_find?_eq_some h; simp at this; simp; omega
theorem k88 {s : Nat} (hs : s < 256) : WpCall E pure base bar 88 [.int .u8 s] H Q ↔ Q (.int .i64 (tz8 s)) H := by
  rw [call88]
  have h2 := tz8_lt s
  simp [go_sem, WpFun, c88, aop, AV.asNat, tz8_tab s hs]
  rw [show ((tz8 s : Nat) : Int) % 256 = tz8 s by omega, i64_nat (by omega)]
/-- the people of a set -/
def bitsOf (s : Nat) : List Nat := (List.range 8).filter (s.testBit ·)
theorem bits_step : ∀ s, s < 256 → s ≠ 0 → bitsOf s = tz8 s :: bitsOf (band s (s - 1)) ∧ band s (s - 1) < s := by decide +kernel
theorem bits_zero : bitsOf 0 = [] := by decide
theorem bits_len (s : Nat) : (bitsOf s).length ≤ 8 := by
  unfold bitsOf
  exact Nat.le_trans (List.length_filter_le _ _) (by simp)
theorem u8_sub1 {s : Nat} (hs : s < 256) (h0 : s ≠ 0) : IntKind.u8.wrap ((s : Int) - 1) = ((s - 1 : Nat) : Int) := by
  rw [show (s : Int) - 1 = ((s - 1 : Nat) : Int) by omega, u8_nat (by omega)]
theorem l71 (H0 : Heap) (hb : bar ≤ H0.length) (hbase : base ≤ H0.length) {R : PQ} : ∀ (s : Nat), s < 256 → ∀ (done : List Nat) (v : AV) (H : Heap), Grow 1 (nats done) H0 v H → done.length + (bitsOf s).length ≤ 1000 →
    (∀ v' H', Grow 1 (nats (done ++ bitsOf s)) H0 v' H' → R (.exit 0) [(0, .int .u8 0), (3, v'), (5, .bool false)] H') →
    Wp E base bar (.loop c71_l0) [(0, .int .u8 s), (3, v)] H R := by
  intro s
  induction s using Nat.strongRecOn with
  | _ s ih =>
    intro hs done v H hg hl h
    rw [wp_round c71_l0.eq_1]
    simp [go_sem]
    by_cases h0 : s = 0
    · subst h0
      simp [go_sem]
      exact h v H (by simpa [bits_zero] using hg)
    · have e := bits_step s hs h0
      simp [go_sem, h0, k88 hs, aop, fillA, setCells, chunks, AV.noVec.noVecs, AV.noVec]
      rw [e.1] at hl
      simp at hl
      refine hg.nat hb hbase (by omega) fun v' H' tc g' => ?_
      simp [go_sem, u8_sub1 hs h0, and_u8 hs (show s - 1 < 256 by omega)]
      refine ih _ e.2 (by omega) _ _ _ g' (by simp; omega) fun v'' H'' g'' => h _ _ ?_
      rw [e.1]; simpa using g''
theorem k71 {s : Nat} (hs : s < 256) (hb : bar ≤ H.length) (h : Q (outL 1 (nats (bitsOf s))) H) : WpCall E pure base bar 71 [.int .u8 s] H Q := by
  rw [call71]
  have hb := bar_ok (pure := pure) hb
  simp [go_sem, WpFun, c71] at hb ⊢
  refine l71 H hb (Nat.le_refl _) s hs [] _ _ .nil (by have := bits_len s; simp; omega) fun v' H' g => ?_
  simp [go_sem]
  refine g.out hb (Nat.le_refl _) ?_
  simpa using h
theorem k65 {s x : Nat} (hs : s < 256) : WpCall E pure base bar 65 [.int .u8 s, .int .i64 x] H Q ↔ Q (.bool (s.testBit x)) H := by
  rw [call65]
  simp [go_sem, WpFun, c65, shr_u8, and_u8_one, shr_lt hs, shr_bit s hs]
  cases s.testBit x <;> simp
theorem upd_lt {w : Nat → Nat} {i x : Nat} (hw : ∀ j, w j < 256) (hx : x < 256) : ∀ j, upd w i x j < 256 := fun j => by unfold upd; split <;> simp [*]
theorem i64_suc {i : Nat} (h : i < 1000000) : IntKind.i64.wrap ((i : Int) + 1) = ((i + 1 : Nat) : Int) := by
  rw [show (i : Int) + 1 = ((i + 1 : Nat) : Int) by omega, i64_nat (by omega)]
/-- each two of a set quarrel -/
theorem shl_i64 {n : Nat} (hn : n < 62) : abin .shl (.int .i64 1) (.int .i64 (n : Int)) = some (.int .i64 ((pw n : Nat) : Int)) := by
  have h2 : (2 : Nat) ^ n < 9223372036854775808 := Nat.lt_of_lt_of_le (Nat.pow_lt_pow_right (by decide) hn) (by decide)
  simp only [abin]
  rw [if_neg (by omega), Int.toNat_natCast, show min n IntKind.i64.bits = n from Nat.min_eq_left (by simp [IntKind.bits]; omega)]
  rw [show (1 : Int) * 2 ^ n = ((2 ^ n : Nat) : Int) by simp, i64_nat h2]; rfl
theorem natEq {a b : Nat} : ((a : Int) = (b : Int)) ↔ a = b := by omega
/-- with how many others each one quarrels -/
theorem l22 {a b : AV} {x y : List Nat} (ha : isL a x) (hb : isL b y) (hx : x.length < 100000) (hxy : x.length = y.length) {R : PQ} : ∀ (k i : Nat), i + k = x.length →
    (x.drop i ≠ y.drop i → R .ret [(4, .bool false)] H) →
    (x.drop i = y.drop i → R (.exit 0) [(0, a), (1, b), (5, .int .i64 (x.length : Nat)), (14, .bool false)] H) →
    Wp E base bar (.loop c22_l0) [(0, a), (1, b), (5, .int .i64 (i : Nat))] H R := by
  intro k
  induction k with
  | zero =>
    intro i hi h1 h2
    obtain rfl : i = x.length := by omega
    rw [wp_round c22_l0.eq_1]
    simp [go_sem, ha.len]
    exact h2 (by rw [List.drop_length, hxy, List.drop_length])
  | succ k ih =>
    intro i hi h1 h2
    have hlt : i < x.length := by omega
    have hlt2 : i < y.length := by omega
    rw [wp_round c22_l0.eq_1]
    rw [List.drop_eq_getElem_cons hlt, List.drop_eq_getElem_cons hlt2, List.cons.injEq] at h2
    rw [List.drop_eq_getElem_cons hlt, List.drop_eq_getElem_cons hlt2, ne_eq, List.cons.injEq] at h1
    simp [go_sem, hlt, ha.len, ha.ix hlt, hb.ix hlt2]
    by_cases hc : x[i] = y[i]
    · simp only [hc, true_and] at h1 h2
      simp [go_sem, show ((x[i] : Nat) : Int) = (y[i] : Nat) by omega, i64_suc (show i < 1000000 by omega)]
      exact ih (i + 1) (by omega) h1 h2
    · simp [go_sem, show ¬ ((x[i] : Nat) : Int) = (y[i] : Nat) by omega]
      exact h1 (fun he => hc he.1)
theorem k22 {a b : AV} {x y : List Nat} (ha : isL a x) (hb : isL b y) (hx : x.length < 100000) (hy : y.length < 100000) (h : Q (.bool (decide (x = y))) H) : WpCall E pure base bar 22 [a, b] H Q := by
  rw [call22]
  simp [go_sem, WpFun, c22, ha.frz, hb.frz, ha.len, hb.len]
  by_cases hl : x.length = y.length
  · simp [go_sem, natEq, hl]
    refine l22 ha hb hx hl x.length 0 (by omega) ?_ ?_
    · intro he
      rw [show decide (x = y) = false by simpa using he] at h
      simp [go_sem]
      exact h
    · intro he
      rw [show decide (x = y) = true by simpa using he] at h
      simp [go_sem]
      exact h
  · rw [show decide (x = y) = false by simp; intro hc; exact hl (by rw [hc])] at h
    simp [go_sem, show ¬ ((x.length : Nat) : Int) = (y.length : Nat) by omega]
    exact h
theorem bits_mem {s x : Nat} : x ∈ bitsOf s ↔ x < 8 ∧ s.testBit x = true := by simp [bitsOf]
theorem findSome_congr {α β : Type} {f g : α → Option β} : ∀ {l : List α}, (∀ x ∈ l, f x = g x) → l.findSome? f = l.findSome? g
  | [], _ => rfl
  | x :: r, h => by
    rw [List.findSome?_cons, List.findSome?_cons, h x (List.mem_cons_self ..), findSome_congr fun y hy => h y (List.mem_cons_of_mem _ hy)]
theorem filter_range_cut {p : Nat → Bool} {m : Nat} : ∀ (d : Nat), (∀ c, m ≤ c → c < m + d → p c = false) → (List.range (m + d)).filter p = (List.range m).filter p
  | 0, _ => rfl
  | d + 1, h => by
    rw [← Nat.add_assoc, List.range_succ, List.filter_append, filter_range_cut d fun c h1 h2 => h c h1 (by omega)]
    have : [m + d].filter p = [] := by simp [h (m + d) (by omega) (by omega)]
    rw [this, List.append_nil]
theorem testBit_all {m i : Nat} : (pw m - 1).testBit i = decide (i < m) := by unfold pw; exact Nat.testBit_two_pow_sub_one ..
theorem bits_cut : ∀ s, s < 256 → ∀ b, b < 8 → (bitsOf (clr s (pw b))).length + (if s.testBit b = true then 1 else 0) = (bitsOf s).length := by decide +kernel
theorem bits_put : ∀ s, s < 256 → ∀ b, b < 8 → s.testBit b = false → (bitsOf (bor s (pw b))).length = (bitsOf s).length + 1 := by decide +kernel
theorem sub_len : ∀ {l m : List Nat}, l.Nodup → (∀ x ∈ l, x ∈ m) → l.length ≤ m.length
  | [], _, _, _ => by simp
  | x :: r, m, hn, h => by
    rw [List.nodup_cons] at hn
    have hx := h x (List.mem_cons_self ..)
    have h2 : ∀ y ∈ r, y ∈ m.erase x := fun y hy => by
      have hne : y ≠ x := fun hc => hn.1 (hc ▸ hy)
      exact (List.mem_erase_of_ne hne).2 (h y (List.mem_cons_of_mem _ hy))
    have := sub_len hn.2 h2
    rw [List.length_erase_of_mem hx] at this
    have := List.length_pos_of_mem hx
    rw [List.length_cons]; omega
theorem eqWp_flat2 {neg : Bool} {k1 k2 : IntKind} {a b c d : Int} {K : AV → Heap → List Nat → Prop} :
    eqWp neg (.flat [false, false]) (some (.agg [.int k1 a, .int k2 b])) (some (.agg [.int k1 c, .int k2 d])) H K = K (.bool (if neg then !(a == c && b == d) else (a == c && b == d))) H [] := by
  cases h1 : (a == c) <;> cases h2 : (b == d) <;> simp [eqWp, aeq, eqCells, eqCell, h1, h2]
/-- do two quarrel in a list -/
theorem isP.cut {q : AV} {l : List ZZ} (hq : isP q l) {i : Nat} (hi : i < l.length) : ∃ q', aslice H (.slc 2) q none (some (.int .i64 (i : Int))) none = some q' ∧ isP q' (l.take i) := by
  rcases hq with ⟨rfl, rfl⟩ | ⟨ex, rfl⟩
  · simp at hi
  · refine ⟨.lst 2 (ex && i == l.length) (prA (l.take i)), ?_, .inr ⟨_, rfl⟩⟩
    have hl : (prA l).length = l.length := by simp [prA]
    simp [aslice, optBound, bound1, AV.asNat, hl, Nat.le_of_lt hi]
    simp [prA, List.map_take]
theorem shr_u32 {a b : Nat} (hb : b < 32) : abin .shr (.int .u32 (a : Int)) (.int .i64 (b : Int)) = some (.int .u32 ((a / 2 ^ b : Nat) : Int)) := by
  simp only [abin]
  rw [if_neg (by omega)]
  simp only [Int.toNat_natCast, show IntKind.u32.bits = 32 from rfl]
  congr 2
  rw [Nat.min_eq_left (by omega), show (2 : Int) ^ b = ((2 ^ b : Nat) : Int) by simp, Int.fdiv_eq_ediv_of_nonneg _ (Int.natCast_nonneg _)]
  exact (Int.natCast_ediv _ _).symm
theorem and_u32_one {a : Nat} (ha : a < 4294967296) : abin .and (.int .u32 a) (.int .u32 1) = some (.int .u32 ((a % 2 : Nat) : Int)) := by
  have e : (BitVec.ofInt 32 (a : Int) &&& BitVec.ofInt 32 ((1 : Nat) : Int)).toNat = a % 2 := by
    rw [BitVec.toNat_and, ofInt_toNat (w := 32) ha, ofInt_toNat (w := 32) (by omega), Nat.and_one_is_mod]
  simp only [abin, binInt, if_true]
  rw [show IntKind.u32.bits = 32 from rfl]
  have e' : (BitVec.ofInt 32 (a : Int) &&& BitVec.ofInt 32 (1 : Int)).toNat = a % 2 := e
  rw [e', Go.IntWalk.u32_in _ (by omega)]
def shrN (a b : Nat) : Nat := a / 2 ^ b
theorem shrN_bit {a b : Nat} : shrN a b % 2 = (a.testBit b).toNat := (Nat.toNat_testBit ..).symm
theorem shrN_le {a b : Nat} : shrN a b ≤ a := Nat.div_le_self _ _
def tri : Nat → Nat
  | 0 => 0
  | b + 1 => tri b + b
theorem tri_le : ∀ b, b ≤ 8 → tri b ≤ 28 := by decide
theorem lt_pw {n s : Nat} (h : ∀ i, s.testBit i = true → i < n) : s < pw n := by
  unfold pw
  apply Nat.lt_pow_two_of_testBit
  intro i hi
  cases hc : s.testBit i
  · rfl
  · have := h i hc; omega
theorem bit_lt {n s i : Nat} (h : s < pw n) (hb : s.testBit i = true) : i < n := by
  apply Decidable.byContradiction
  intro hc
  rw [Nat.testBit_lt_two_pow (Nat.lt_of_lt_of_le h (Nat.pow_le_pow_right (by decide) (Nat.not_lt.1 hc) : 2 ^ n ≤ 2 ^ i))] at hb
  cases hb
end Go.Proofs.Ytnlebofipoepfaa.Code
end
section
namespace Go.Proofs.Ytnlebofipoepfaa.Code
open Go Go.Ab
variable {pure : Bool} {base bar : Nat} {H : Heap} {Q : AV → Heap → Prop}
section
variable {K : AV → Heap → List Nat → Prop}
/-- a row of a number and seven sets -/
def bcells (n : Nat) (w : Nat → Nat) : List AV := .int .i64 (n : Int) :: (List.range 7).map fun a => .int .u8 ((w a : Nat) : Int)
theorem bcells_length {n : Nat} {w : Nat → Nat} : (bcells n w).length = 8 := by simp [bcells]
theorem bcells_n {n : Nat} {w : Nat → Nat} : (bcells n w)[0]? = some (.int .i64 (n : Int)) := rfl
theorem bcells_get {n i : Nat} {w : Nat → Nat} (hi : i < 7) : (bcells n w)[1 + i]? = some (.int .u8 ((w i : Nat) : Int)) := by
  rw [Nat.add_comm]; simp [bcells, hi]
theorem bcells_set {n i x : Nat} {w : Nat → Nat} (hi : i < 7) : setCells (bcells n w) (1 + i) [.int .u8 (x : Int)] = bcells n (upd w i x) := by
  simp only [setCells]
  apply List.ext_getElem?
  intro j
  rw [List.getElem?_set]
  rcases j with _ | j
  · rw [if_neg (by omega)]; rfl
  · by_cases hj : 1 + i = j + 1
    · obtain rfl : i = j := by omega
      rw [if_pos (by omega)]
      simp [bcells, upd, hi]; omega
    · rw [if_neg hj]
      by_cases h8 : j < 7
      · simp [bcells, upd, h8, show ¬ j = i by omega]
      · simp [bcells, h8]
theorem bcells_plain {n : Nat} {w : Nat → Nat} : ∀ c ∈ bcells n w, Plain c := fun c hc => by
  simp only [bcells, List.mem_cons, List.mem_map] at hc
  rcases hc with rfl | ⟨a, _, rfl⟩ <;> exact Plain.int
theorem bcells_tops {n : Nat} {w : Nat → Nat} : AV.top.tops (bcells n w) = 0 := tops_zero fun x hx => by
  simp only [bcells, List.mem_cons, List.mem_map] at hx
  rcases hx with rfl | ⟨a, _, rfl⟩ <;> rfl
theorem storeB {base id ver n i x : Nat} {ex : Bool} {w : Nat → Nat} (hid : H[id]? = some (.row ver (bcells n w) 0 ex)) (hi : i < 7) (hb : bar ≤ id) :
    storeWp base bar 1 (.ptr id ver (1 + i)) (.int .u8 (x : Int)) H K = K (.tup []) (H.set id (.row ver (bcells n (upd w i x)) 0 ex)) [id] := by
  rw [storeWp_ptr (size := 1) hid rfl rfl (by omega) (by rw [bcells_length]; omega) hb (.inr (by simp [AV.cells, tops_cons, tops_nil, top_int]))]
  simp only [AV.cells, bcells_set hi]
theorem loadB {id ver n i s : Nat} {ex : Bool} {w : Nat → Nat} {fz : Nat} (hid : H[id]? = some (.row ver (bcells n w) fz ex)) (hi : i < 7) :
    aload H ⟨false, s⟩ (.ptr id ver (1 + i)) = some (.int .u8 ((w i : Nat) : Int)) := by
  rw [aload_ptr hid, part_one, bcells_get hi]
theorem loadBN {id ver n s : Nat} {ex : Bool} {w : Nat → Nat} {fz : Nat} (hid : H[id]? = some (.row ver (bcells n w) fz ex)) :
    aload H ⟨false, s⟩ (.ptr id ver 0) = some (.int .i64 (n : Int)) := by
  rw [aload_ptr hid, part_one, bcells_n]
end
/-! who beat whom, as 49 cells -/
def gcells (f : Nat → Nat → Bool) : List AV := (List.range 49).map fun i => .bool (f (i / 7) (i % 7))
def upd2 (f : Nat → Nat → Bool) (a b : Nat) (x : Bool) : Nat → Nat → Bool := fun i j => if i = a ∧ j = b then x else f i j
theorem gcells_length {f : Nat → Nat → Bool} : (gcells f).length = 49 := by simp [gcells]
theorem gcells_get {f : Nat → Nat → Bool} {a b : Nat} (ha : a < 7) (hb : b < 7) : (gcells f)[a * 7 + b]? = some (.bool (f a b)) := by
  have h1 : a * 7 + b < 49 := by omega
  have h2 : (a * 7 + b) / 7 = a := by omega
  have h3 : (a * 7 + b) % 7 = b := by omega
  simp only [gcells, List.getElem?_map, List.getElem?_range h1, Option.map_some, h2, h3]
theorem gcells_set {f : Nat → Nat → Bool} {a b : Nat} {x : Bool} (ha : a < 7) (hb : b < 7) : setCells (gcells f) (a * 7 + b) [.bool x] = gcells (upd2 f a b x) := by
  simp only [setCells]
  apply List.ext_getElem?
  intro j
  rw [List.getElem?_set]
  by_cases hj : a * 7 + b = j
  · subst hj
    rw [if_pos rfl, if_pos (by rw [gcells_length]; omega), gcells_get ha hb]
    simp [upd2]
  · rw [if_neg hj]
    by_cases h8 : j < 49
    · simp only [gcells, List.getElem?_map, List.getElem?_range h8, Option.map_some, upd2]
      rw [if_neg (by omega)]
    · simp [gcells, h8]
theorem gcells_plain {f : Nat → Nat → Bool} : ∀ c ∈ gcells f, Plain c := fun c hc => by
  simp only [gcells, List.mem_map] at hc
  obtain ⟨a, _, rfl⟩ := hc
  exact Plain.bool
@[go_sem] theorem gcells_tops {f : Nat → Nat → Bool} : AV.top.tops (gcells f) = 0 := tops_zero fun x hx => by
  simp only [gcells, List.mem_map] at hx
  obtain ⟨a, _, rfl⟩ := hx; rfl
@[go_sem] theorem gcells_noVec {f : Nat → Nat → Bool} : AV.noVec.noVecs (gcells f) = true := by
  unfold gcells
  generalize List.range 49 = l
  induction l with
  | nil => rfl
  | cons x r ih => simpa [AV.noVec.noVecs, AV.noVec] using ih
theorem frz_g {f : Nat → Nat → Bool} {d : Nat} : frz (d + 3) bar H (.agg (gcells f)) = some (.agg (gcells f), H) := by
  rw [frz_agg, plains gcells_plain]
theorem loadG {id ver fz a b s : Nat} {ex : Bool} {f : Nat → Nat → Bool} (hid : H[id]? = some (.row ver (gcells f) fz ex)) (ha : a < 7) (hb : b < 7) :
    aload H ⟨false, s⟩ (.ptr id ver (a * 7 + b)) = some (.bool (f a b)) := by
  rw [aload_ptr hid, part_one, gcells_get ha hb]
theorem loadGG {id ver fz : Nat} {ex : Bool} {f : Nat → Nat → Bool} (hid : H[id]? = some (.row ver (gcells f) fz ex)) :
    aload H ⟨true, 49⟩ (.ptr id ver 0) = some (.agg (gcells f)) := by
  rw [aload_ptr hid, part_agg, if_pos (by rw [gcells_length]; omega), List.drop_zero, List.take_of_length_le (by rw [gcells_length]; omega)]
theorem storeG {K : AV → Heap → List Nat → Prop} {id ver a b : Nat} {ex x : Bool} {f : Nat → Nat → Bool} (hid : H[id]? = some (.row ver (gcells f) 0 ex)) (ha : a < 7) (hb : b < 7) (hbar : bar ≤ id) :
    storeWp base bar 1 (.ptr id ver (a * 7 + b)) (.bool x) H K = K (.tup []) (H.set id (.row ver (gcells (upd2 f a b x)) 0 ex)) [id] := by
  rw [storeWp_ptr (size := 1) hid rfl rfl (by omega) (by rw [gcells_length]; omega) hbar (.inr (by simp [AV.cells, tops_cons, tops_nil, top_bool]))]
  simp only [AV.cells, gcells_set ha hb]
theorem gcells_over {f g : Nat → Nat → Bool} : setCells (gcells f) 0 (gcells g) = gcells g := by
  have : ∀ (news l r : List AV), news.length = r.length → setCells (l ++ r) l.length news = l ++ news := by
    intro news
    induction news with
    | nil => intro l r h; obtain rfl : r = [] := List.length_eq_zero_iff.1 h.symm; simp [setCells]
    | cons x n ih =>
      intro l r h
      cases r with
      | nil => simp at h
      | cons y r =>
        have := ih (l ++ [x]) r (by simpa using h)
        simp only [setCells]
        rw [show (l ++ y :: r).set l.length x = l ++ x :: r by simp [List.set_append]]
        simpa using this
  exact this (gcells g) [] (gcells f) (by rw [gcells_length, gcells_length])
theorem storeGG {K : AV → Heap → List Nat → Prop} {id ver : Nat} {ex : Bool} {f g : Nat → Nat → Bool} (hid : H[id]? = some (.row ver (gcells f) 0 ex)) (hbar : bar ≤ id) :
    storeWp base bar 49 (.ptr id ver 0) (.agg (gcells g)) H K = K (.tup []) (H.set id (.row ver (gcells g) 0 ex)) [id] := by
  rw [storeWp_ptr (size := 49) hid rfl (by simp [AV.cells, gcells_length]) (by omega) (by rw [gcells_length]; omega) hbar (.inr (by simp [AV.cells, gcells_tops]))]
  simp only [AV.cells, gcells_over]
/-! who is met: seven cells -/
def mcells (f : Nat → Bool) : List AV := (List.range 7).map fun i => .bool (f i)
def updB (f : Nat → Bool) (a : Nat) (x : Bool) : Nat → Bool := fun i => if i = a then x else f i
theorem mcells_length {f : Nat → Bool} : (mcells f).length = 7 := by simp [mcells]
theorem mcells_get {f : Nat → Bool} {a : Nat} (ha : a < 7) : (mcells f)[a]? = some (.bool (f a)) := by simp [mcells, ha]
theorem mcells_set {f : Nat → Bool} {a : Nat} {x : Bool} (ha : a < 7) : setCells (mcells f) a [.bool x] = mcells (updB f a x) := by
  simp only [setCells]
  apply List.ext_getElem?
  intro j
  rw [List.getElem?_set]
  by_cases hj : a = j
  · subst hj
    rw [if_pos rfl, if_pos (by rw [mcells_length]; omega), mcells_get ha]
    simp [updB]
  · rw [if_neg hj]
    by_cases h8 : j < 7
    · simp [mcells, h8, updB, show ¬ j = a by omega]
    · simp [mcells, h8]
theorem mcells_plain {f : Nat → Bool} : ∀ c ∈ mcells f, Plain c := fun c hc => by
  simp only [mcells, List.mem_map] at hc
  obtain ⟨a, _, rfl⟩ := hc
  exact Plain.bool
@[go_sem] theorem mcells_tops {f : Nat → Bool} : AV.top.tops (mcells f) = 0 := tops_zero fun x hx => by
  simp only [mcells, List.mem_map] at hx
  obtain ⟨a, _, rfl⟩ := hx; rfl
@[go_sem] theorem mcells_noVec {f : Nat → Bool} : AV.noVec.noVecs (mcells f) = true := by
  unfold mcells
  generalize List.range 7 = l
  induction l with
  | nil => rfl
  | cons x r ih => simpa [AV.noVec.noVecs, AV.noVec] using ih
theorem frz_m {f : Nat → Bool} {d : Nat} : frz (d + 3) bar H (.agg (mcells f)) = some (.agg (mcells f), H) := by
  rw [frz_agg, plains mcells_plain]
theorem loadM {id ver fz a s : Nat} {ex : Bool} {f : Nat → Bool} (hid : H[id]? = some (.row ver (mcells f) fz ex)) (ha : a < 7) :
    aload H ⟨false, s⟩ (.ptr id ver a) = some (.bool (f a)) := by
  rw [aload_ptr hid, part_one, mcells_get ha]
theorem loadMM {id ver fz : Nat} {ex : Bool} {f : Nat → Bool} (hid : H[id]? = some (.row ver (mcells f) fz ex)) :
    aload H ⟨true, 7⟩ (.ptr id ver 0) = some (.agg (mcells f)) := by
  rw [aload_ptr hid, part_agg, if_pos (by rw [mcells_length]; omega), List.drop_zero, List.take_of_length_le (by rw [mcells_length]; omega)]
theorem storeM {K : AV → Heap → List Nat → Prop} {id ver a : Nat} {ex x : Bool} {f : Nat → Bool} (hid : H[id]? = some (.row ver (mcells f) 0 ex)) (ha : a < 7) (hbar : bar ≤ id) :
    storeWp base bar 1 (.ptr id ver a) (.bool x) H K = K (.tup []) (H.set id (.row ver (mcells (updB f a x)) 0 ex)) [id] := by
  rw [storeWp_ptr (size := 1) hid rfl rfl (by omega) (by rw [mcells_length]; omega) hbar (.inr (by simp [AV.cells, tops_cons, tops_nil, top_bool]))]
  simp only [AV.cells, mcells_set ha]
theorem mcells_over {f g : Nat → Bool} : setCells (mcells f) 0 (mcells g) = mcells g := rfl
theorem storeMM {K : AV → Heap → List Nat → Prop} {id ver : Nat} {ex : Bool} {f g : Nat → Bool} (hid : H[id]? = some (.row ver (mcells f) 0 ex)) (hbar : bar ≤ id) :
    storeWp base bar 7 (.ptr id ver 0) (.agg (mcells g)) H K = K (.tup []) (H.set id (.row ver (mcells g) 0 ex)) [id] := by
  rw [storeWp_ptr (size := 7) hid rfl (by simp [AV.cells, mcells_length]) (by omega) (by rw [mcells_length]; omega) hbar (.inr (by simp [AV.cells, mcells_tops]))]
  simp only [AV.cells, mcells_over]
@[go_sem] theorem mz : AV.agg [.bool false, .bool false, .bool false, .bool false, .bool false, .bool false, .bool false] = .agg (mcells fun _ => false) := rfl
@[go_sem] theorem gz : AV.agg [.bool false, .bool false, .bool false, .bool false, .bool false, .bool false, .bool false, .bool false, .bool false, .bool false, .bool false, .bool false, .bool false, .bool false, .bool false, .bool false, .bool false, .bool false, .bool false, .bool false, .bool false, .bool false, .bool false, .bool false, .bool false, .bool false, .bool false, .bool false, .bool false, .bool false, .bool false, .bool false, .bool false, .bool false, .bool false, .bool false, .bool false, .bool false, .bool false, .bool false, .bool false, .bool false, .bool false, .bool false, .bool false, .bool false, .bool false, .bool false, .bool false] = .agg (gcells fun _ _ => false) := rfl
end Go.Proofs.Ytnlebofipoepfaa.Code
end
section
namespace Go.Proofs.Ytnlebofipoepfaa.Code
open Go Go.Ab
variable {pure : Bool} {base bar : Nat} {H : Heap} {Q : AV → Heap → Prop}
/-- have two met -/
def qin (l : List ZZ) (a b : Int) : Bool := l.any fun p => (p.1 == a && p.2 == b) || (p.1 == b && p.2 == a)
def chkF (n : Int) : List ZZ → List ZZ → Int
  | _, [] => 0
  | b, p :: r => if p.1 < 0 ∨ p.2 < 0 ∨ n ≤ p.1 ∨ n ≤ p.2 then 2 else if p.1 = p.2 then 13 else if qin b p.1 p.2 = true then 6 else chkF n (b ++ [p]) r
def halfN (n : Nat) : Nat := n * (n - 1) / 2
/-- the error of a contest -/
def checkS (n : Int) (l : List ZZ) : Int := if within 1 7 n = true then (if chkF n [] l = 0 then (if l.length < halfN n.toNat then 21 else 0) else chkF n [] l) else 1
theorem l23a {n : Int} {q q' : AV} {b : List ZZ} {p1 p2 : Int} (hq : isP q' b) (hqt : q.top = 0) (hb : b.length < 1000) {len i : Nat} (hbar : bar ≤ H.length) {R : PQ} : ∀ (k j : Nat), j + k = b.length →
    (qin (b.drop j) p1 p2 = true → ∀ H', H'.take H.length = H → R .ret [(2, .int .i64 6)] H') →
    (qin (b.drop j) p1 p2 = false → R (.exit 3) [(1, .ptr H.length 0 0), (12, q), (13, .int .i64 (len : Nat)), (14, .int .i64 (i : Nat)), (4, .ptr (H.length + 1) 0 0), (45, q'), (46, .int .i64 (b.length : Nat)), (47, .int .i64 (b.length : Nat)), (48, .bool false)] (H ++ [.row 0 [.int .i64 n, q] 0 true, .row 0 [.int .i64 p1, .int .i64 p2] 0 true])) →
    Wp E base bar (.loop c23_l0) [(1, .ptr H.length 0 0), (12, q), (13, .int .i64 (len : Nat)), (14, .int .i64 (i : Nat)), (4, .ptr (H.length + 1) 0 0), (45, q'), (46, .int .i64 (b.length : Nat)), (47, .int .i64 (j : Nat))] (H ++ [.row 0 [.int .i64 n, q] 0 true, .row 0 [.int .i64 p1, .int .i64 p2] 0 true]) R := by
  intro k
  induction k with
  | zero =>
    intro j hj h1 h2
    obtain rfl : j = b.length := by omega
    rw [wp_round c23_l0.eq_1]
    simp [go_sem]
    exact h2 (by simp [qin])
  | succ k ih =>
    intro j hj h1 h2
    have hlt : j < b.length := by omega
    obtain ⟨⟨a, c⟩, hp⟩ : ∃ p, b[j] = p := ⟨_, rfl⟩
    have hst : qin (b.drop j) p1 p2 = ((a == p1 && c == p2 || a == p2 && c == p1) || qin (b.drop (j + 1)) p1 p2) := by
      rw [List.drop_eq_getElem_cons hlt, hp]; simp [qin]
    rw [hst] at h1 h2
    rw [wp_round c23_l0.eq_1]
    simp [go_sem, hlt, hq.ix hlt, hp, zc, storeWp, astore, own_get, own_set, setCells, show bar ≤ H.length + 2 by omega, aload, Ab.part, eqWp_flat2]
    by_cases c1 : a = p1 ∧ c = p2
    · obtain ⟨rfl, rfl⟩ := c1
      simp [go_sem]
      exact h1 (by simp) _ (by simp)
    · have e1 : (a == p1 && c == p2) = false := by simpa using fun h => by simpa using fun h2 => c1 ⟨h, h2⟩
      by_cases c2 : a = p2 ∧ c = p1
      · obtain ⟨rfl, rfl⟩ := c2
        simp [go_sem, e1, own_get, aload, Ab.part, fillA, setCells, eqWp_flat2]
        exact h1 (by simp) _ (by simp)
      · have e2 : (a == p2 && c == p1) = false := by simpa using fun h => by simpa using fun h2 => c2 ⟨h, h2⟩
        simp only [e1, e2, Bool.false_or] at h1 h2
        simp [go_sem, e1, e2, own_get, aload, Ab.part, fillA, setCells, eqWp_flat2, i64_suc (show j < 1000000 by omega)]
        rw [if_pos (fun h h2 => c1 ⟨h, h2⟩), if_neg c2]
        exact ⟨by rw [hqt, hq.top]; omega, ih (j + 1) (by omega) h1 h2⟩
theorem l23 {n : Int} {q : AV} {l : List ZZ} (hq : isP q l) (hl : l.length < 1000) (hbar : bar ≤ H.length) {R : PQ} : ∀ (k i : Nat), i + k = l.length →
    (∀ e H', chkF n (l.take i) (l.drop i) = e → e ≠ 0 → H'.take H.length = H → R .ret [(2, .int .i64 e)] H') →
    (chkF n (l.take i) (l.drop i) = 0 → R (.exit 0) [(1, .ptr H.length 0 0), (12, q), (13, .int .i64 (l.length : Nat)), (14, .int .i64 (l.length : Nat)), (15, .bool false)] (H ++ [.row 0 [.int .i64 n, q] 0 true])) →
    Wp E base bar (.loop c23_l1) [(1, .ptr H.length 0 0), (12, q), (13, .int .i64 (l.length : Nat)), (14, .int .i64 (i : Nat))] (H ++ [.row 0 [.int .i64 n, q] 0 true]) R := by
  intro k
  induction k with
  | zero =>
    intro i hi h1 h2
    obtain rfl : i = l.length := by omega
    rw [wp_round c23_l1.eq_1]
    simp [go_sem]
    exact h2 (by rw [List.drop_length]; rfl)
  | succ k ih =>
    intro i hi h1 h2
    have hlt : i < l.length := by omega
    rw [wp_round c23_l1.eq_1]
    rw [List.drop_eq_getElem_cons hlt] at h1 h2
    obtain ⟨⟨a, b⟩, hp⟩ : ∃ p, l[i] = p := ⟨_, rfl⟩
    rw [hp] at h1 h2
    simp only [chkF] at h1 h2
    obtain ⟨q', hq1, hq2⟩ := isP.cut (H := H ++ [Blk.row 0 [.int .i64 n, q] 0 true, .row 0 [.int .i64 a, .int .i64 b] 0 true]) hq hlt
    have ht : ∀ L : Heap, (H ++ L).take H.length = H := fun L => by simp
    simp [go_sem, hlt, hq.ix hlt, hp, zc, storeWp, astore, own_get, own_set, setCells, show bar ≤ H.length + 1 by omega, aload, Ab.part, aop]
    by_cases h0 : a < 0 ∨ b < 0 ∨ n ≤ a ∨ n ≤ b
    · have g1 := h1 2 (H ++ [Blk.row 0 [.int .i64 n, q] 0 true, .row 0 [.int .i64 a, .int .i64 b] 0 true]) (by rw [if_pos h0]) (by decide) (ht _)
      by_cases h3 : 0 ≤ (if b < a then b else a)
      · have h4 : n ≤ (if a < b then b else a) := by split at h3 <;> split <;> omega
        simp [h3, h4, go_sem, own_get, own_get0, aload, Ab.part, aop]
        exact g1
      · simp [h3, go_sem]
        exact g1
    · rw [if_neg h0] at h1 h2
      have h3 : 0 ≤ (if b < a then b else a) := by split <;> omega
      have h4 : ¬ n ≤ (if a < b then b else a) := by split <;> omega
      by_cases hab : a = b
      · have g1 := h1 13 (H ++ [Blk.row 0 [.int .i64 n, q] 0 true, .row 0 [.int .i64 a, .int .i64 b] 0 true]) (by rw [if_pos hab]) (by decide) (ht _)
        simp [h3, h4, go_sem, own_get, own_get0, aload, Ab.part, aop, hab]
        subst hab
        rw [if_pos (show 0 ≤ a by omega), if_neg (show ¬ n ≤ a by omega)]
        exact g1
      · rw [if_neg hab] at h1 h2
        simp [h3, h4, go_sem, own_get, own_get0, aload, Ab.part, aop, hab, Opd.evo, hq1, hq2.len]
        rw [show ((min i l.length : Nat) : Int) = ((l.take i).length : Nat) by simp]
        refine l23a hq2 hq.top (by simp; omega) hbar (l.take i).length 0 (by omega) (fun hc H' hH => ?_) (fun hc => ?_)
        · rw [List.drop_zero] at hc
          rw [if_pos hc] at h1
          simp [go_sem]
          exact h1 6 H' rfl (by decide) hH
        · rw [List.drop_zero] at hc
          rw [if_neg (by simp [hc])] at h1 h2
          have hs : l.take i ++ [(a, b)] = l.take (i + 1) := by rw [List.take_succ_eq_append_getElem hlt, hp]
          rw [hs] at h1 h2
          simp [go_sem, hq.top, i64_suc (show i < 1000000 by omega)]
          exact ih (i + 1) (by omega) h1 h2
def prN (n : Nat) : Nat := n * (n - 1)
theorem k23 {n : Int} {q : AV} {l : List ZZ} (hq : isP q l) (hl : l.length < 1000) (hbar : bar ≤ H.length) (h : Q (.int .i64 (checkS n l)) H) : WpCall E pure base bar 23 [.agg [.int .i64 n, q]] H Q := by
  rw [call23]
  have hb' := bar_ok (pure := pure) hbar
  have ln : aload (H ++ [Blk.row 0 [.int .i64 n, q] 0 true]) ⟨false, 1⟩ (.ptr H.length 0 0) = some (.int .i64 n) := by simp [aload, own_get0, Ab.part]
  have lq : aload (H ++ [Blk.row 0 [.int .i64 n, q] 0 true]) ⟨false, 1⟩ (.ptr H.length 0 1) = some q := by simp [aload, own_get0, Ab.part]
  simp [go_sem, WpFun, c23, hq.frz, ln, k61] at hb' ⊢
  generalize (if pure = true then H.length else bar) = bar' at hb' ⊢
  unfold checkS at h
  cases hr : within 1 7 n
  · rw [hr, if_neg (by decide)] at h
    simp [go_sem]
    exact h
  · rw [hr, if_pos rfl] at h
    have hr' := hr
    simp [within] at hr'
    simp [go_sem, lq, hq.len]
    refine l23 hq hl hb' l.length 0 (by omega) (fun e H' he hne ht => ?_) (fun he => ?_)
    · simp only [List.take_zero, List.drop_zero] at he
      rw [he, if_neg hne] at h
      simp [go_sem, ht]
      exact h
    · simp only [List.take_zero, List.drop_zero] at he
      rw [he, if_pos rfl] at h
      obtain ⟨n, rfl⟩ := Int.eq_ofNat_of_zero_le (show 0 ≤ n by omega)
      rw [Int.toNat_natCast] at h
      have e1 : IntKind.i64.wrap ((n : Int) - 1) = ((n - 1 : Nat) : Int) := by
        rw [show (n : Int) - 1 = ((n - 1 : Nat) : Int) by omega, i64_nat (by omega)]
      have hpr : prN n ≤ 42 := by
        unfold prN
        have h7 : n ≤ 7 := by omega
        exact Nat.mul_le_mul h7 (show n - 1 ≤ 6 by omega)
      have e2 : IntKind.i64.wrap ((n : Int) * ((n - 1 : Nat) : Int)) = ((prN n : Nat) : Int) := by
        rw [show (n : Int) * ((n - 1 : Nat) : Int) = ((prN n : Nat) : Int) by unfold prN; exact (Int.natCast_mul ..).symm, i64_nat (by omega)]
      have e3 : abin .quo (.int .i64 ((prN n : Nat) : Int)) (.int .i64 2) = some (.int .i64 ((halfN n : Nat) : Int)) := by
        rw [abin_quo (by decide), Go.IntWalk.i64_quo _ _ ⟨by omega, by omega, by omega⟩]
        rfl
      generalize hnn : n - 1 = m at *
      simp [go_sem, lq, ln, hq.len, e1, e2, e3]
      by_cases hlen : l.length < halfN n
      · rw [if_pos hlen] at h
        simp [go_sem, hlen]
        exact h
      · rw [if_neg hlen] at h
        simp [go_sem, hlen]
        exact h
end Go.Proofs.Ytnlebofipoepfaa.Code
end
section
namespace Go.Proofs.Ytnlebofipoepfaa.Code
open Go Go.Ab
variable {pure : Bool} {base bar : Nat} {H : Heap} {Q : AV → Heap → Prop}
/-- a board: whom each one beat -/
structure BoardW (n : Nat) (w : Nat → Nat) : Prop where
  le : n ≤ 7
  lt : ∀ x, w x < 256
  dom : ∀ x y, (w x).testBit y = true → x < n ∧ y < n
  irr : ∀ x, (w x).testBit x = false
  one : ∀ x y, x < n → y < n → x ≠ y → (w x).testBit y = !(w y).testBit x
/-! 58: some and all whom these beat -/
def fartS (w : Nat → Nat) (s : Nat) : Nat := (bitsOf s).foldl (fun o x => bor o (w x)) s
theorem foldl_bor {w : Nat → Nat} {y : Nat} : ∀ {l : List Nat} {o : Nat}, (l.foldl (fun o x => bor o (w x)) o).testBit y = true ↔ o.testBit y = true ∨ ∃ x ∈ l, (w x).testBit y = true
  | [], o => by simp
  | x :: r, o => by
    rw [List.foldl_cons, foldl_bor, testBit_bor, Bool.or_eq_true]
    constructor
    · rintro ((h | h) | ⟨z, hz, h⟩)
      · exact .inl h
      · exact .inr ⟨x, List.mem_cons_self .., h⟩
      · exact .inr ⟨z, List.mem_cons_of_mem _ hz, h⟩
    · rintro (h | ⟨z, hz, h⟩)
      · exact .inl (.inl h)
      · rcases List.mem_cons.1 hz with rfl | hz
        · exact .inl (.inr h)
        · exact .inr ⟨z, hz, h⟩
theorem fart_bit {n s y : Nat} {w : Nat → Nat} (hs : s < 128) : (fartS w s).testBit y = true ↔ s.testBit y = true ∨ ∃ x, s.testBit x = true ∧ (w x).testBit y = true := by
  unfold fartS
  rw [foldl_bor]
  constructor
  · rintro (h | ⟨x, hx, h⟩)
    · exact .inl h
    · exact .inr ⟨x, (bits_mem.1 hx).2, h⟩
  · rintro (h | ⟨x, hx, h⟩)
    · exact .inl h
    · exact .inr ⟨x, bits_mem.2 ⟨by have := bit_lt (n := 7) hs hx; omega, hx⟩, h⟩
theorem fart_lt {n s : Nat} {w : Nat → Nat} (hb : BoardW n w) (hs : s < 128) : fartS w s < 128 := lt_pw (n := 7) fun i hi => by
  rcases (fart_bit (n := n) hs).1 hi with h | ⟨x, _, h⟩
  · exact bit_lt (n := 7) hs h
  · have := (hb.dom x i h).2; have := hb.le; omega
/-! 64: all to whom chains lead -/
inductive Rch (w : Nat → Nat) (x : Nat) : Nat → Prop
  | refl : Rch w x x
  | step {y z : Nat} : Rch w x y → (w y).testBit z = true → Rch w x z
theorem Rch.trans {w : Nat → Nat} {x y z : Nat} (h : Rch w x y) (k : Rch w y z) : Rch w x z := by
  induction k with
  | refl => exact h
  | step _ h2 ih => exact .step ih h2
theorem more_bits : ∀ s, s < 128 → ∀ t, t < 128 → band s t = s → s ≠ t → (bitsOf s).length < (bitsOf t).length := by decide +kernel
theorem sub_band {s t : Nat} (h : ∀ y, s.testBit y = true → t.testBit y = true) : band s t = s := by
  apply Nat.eq_of_testBit_eq
  intro i
  rw [testBit_band]
  cases hs : s.testBit i
  · rfl
  · rw [h i hs]; rfl
/-! 59: all -/
theorem k59 {id ver n : Nat} {ex : Bool} {w : Nat → Nat} {fz : Nat} (hid : H[id]? = some (.row ver (bcells n w) fz ex)) (hn : n ≤ 7) : WpCall E pure base bar 59 [.ptr id ver 0] H Q ↔ Q (.int .u8 ((pw n - 1 : Nat) : Int)) H := by
  have hp : pw n ≤ 128 := Nat.pow_le_pow_right (by decide) hn
  have h1 : 1 ≤ pw n := Nat.one_le_two_pow
  have e : IntKind.u8.wrap (((pw n : Nat) : Int) - 1) = ((pw n - 1 : Nat) : Int) := by
    rw [show ((pw n : Nat) : Int) - 1 = ((pw n - 1 : Nat) : Int) by omega, u8_nat (by omega)]
  generalize hm : pw n - 1 = m at *
  rw [call59]
  simp [go_sem, WpFun, c59, loadBN hid, shl_u8 (show n < 8 by omega), e]
end Go.Proofs.Ytnlebofipoepfaa.Code
end
section
namespace Go.Proofs.Ytnlebofipoepfaa.Code
open Go Go.Ab
variable {pure : Bool} {base bar : Nat} {H : Heap} {Q : AV → Heap → Prop}
/-! 44: the contest of games by numbers -/
/-- the meetings so far, and who beat whom -/
structure MadeTo (n bits a b : Nat) (l : List ZZ) (f : Nat → Nat → Bool) : Prop where
  chk : chkF n [] l = 0
  len : l.length = tri a + b
  beat : ∀ x y, f x y = true ↔ ((x : Int), (y : Int)) ∈ l
  won : ∀ x y, y < x → (x < a ∨ x = a ∧ y < b) → f x y = !bits.testBit (tri x + y) ∧ f y x = bits.testBit (tri x + y)
  out : ∀ x y, y < x → ¬ (x < a ∨ x = a ∧ y < b) → f x y = false ∧ f y x = false
  irr : ∀ x, f x x = false
  nat : ∀ p ∈ l, ∃ x y : Nat, p = ((x : Int), (y : Int))
theorem chkF_snoc {n : Int} {p : ZZ} : ∀ {l b : List ZZ}, chkF n b l = 0 → 0 ≤ p.1 → 0 ≤ p.2 → p.1 < n → p.2 < n → p.1 ≠ p.2 → qin (b ++ l) p.1 p.2 = false → chkF n b (l ++ [p]) = 0
  | [], b, _, h1, h2, h3, h4, h5, h6 => by
    simp only [List.append_nil] at h6
    simp only [List.nil_append, chkF]
    rw [if_neg (by omega), if_neg h5, if_neg (by simp [h6])]
  | o :: r, b, h, h1, h2, h3, h4, h5, h6 => by
    rw [List.cons_append]
    simp only [chkF] at h ⊢
    split at h
    · cases h
    rename_i g1
    split at h
    · cases h
    rename_i g2
    split at h
    · cases h
    rename_i g3
    rw [if_neg g1, if_neg g2, if_neg g3]
    exact chkF_snoc h h1 h2 h3 h4 h5 (by simpa using h6)
theorem qin_mem {l : List ZZ} {a b : Int} : qin l a b = true ↔ (a, b) ∈ l ∨ (b, a) ∈ l := by
  simp only [qin, List.any_eq_true, Bool.or_eq_true, Bool.and_eq_true, beq_iff_eq]
  constructor
  · rintro ⟨⟨x, y⟩, hp, (⟨h1, h2⟩ | ⟨h1, h2⟩)⟩
    · simp only at h1 h2; subst h1 h2; exact .inl hp
    · simp only at h1 h2; subst h1 h2; exact .inr hp
  · rintro (h | h)
    · exact ⟨_, h, .inl ⟨rfl, rfl⟩⟩
    · exact ⟨_, h, .inr ⟨rfl, rfl⟩⟩
theorem MadeTo.zero {n bits : Nat} : MadeTo n bits 0 0 [] (fun _ _ => false) := ⟨rfl, rfl, by simp, fun x y _ h => by omega, fun _ _ _ _ => ⟨rfl, rfl⟩, fun _ => rfl, by simp⟩
theorem MadeTo.put {n bits a b x y : Nat} {l : List ZZ} {f : Nat → Nat → Bool} (h : MadeTo n bits a b l f) (hab : b < a) (han : a < n)
    (hxy : (bits.testBit (tri a + b) = true ∧ x = b ∧ y = a) ∨ (bits.testBit (tri a + b) = false ∧ x = a ∧ y = b)) : MadeTo n bits a (b + 1) (l ++ [((x : Int), (y : Int))]) (upd2 f x y true) := by
  have ho := h.out a b hab (by omega)
  have hno : ((a : Int), (b : Int)) ∉ l ∧ ((b : Int), (a : Int)) ∉ l := ⟨fun hc => (by rw [(h.beat a b).2 hc] at ho; cases ho.1), fun hc => (by rw [(h.beat b a).2 hc] at ho; cases ho.2)⟩
  refine ⟨chkF_snoc h.chk (by omega) (by omega) (by simp only; omega) (by simp only; omega) (by simp only; omega) ?_, by simp [h.len]; omega, fun u v => ?_, fun u v huv hc => ?_, fun u v huv hc => ?_, fun u => ?_, fun p hp => ?_⟩
  · cases hq : qin ([] ++ l) (x : Int) (y : Int)
    · rfl
    · rw [List.nil_append, qin_mem] at hq
      rcases hxy with ⟨_, rfl, rfl⟩ | ⟨_, rfl, rfl⟩
      · rcases hq with hq | hq
        · exact absurd hq hno.2
        · exact absurd hq hno.1
      · rcases hq with hq | hq
        · exact absurd hq hno.1
        · exact absurd hq hno.2
  · unfold upd2
    rw [List.mem_append, List.mem_singleton, Prod.mk.injEq]
    split
    · rename_i he; obtain ⟨rfl, rfl⟩ := he; simp
    · rename_i he
      rw [h.beat]
      constructor
      · exact .inl
      · rintro (hm | ⟨h1, h2⟩)
        · exact hm
        · exact absurd ⟨by omega, by omega⟩ he
  · unfold upd2
    by_cases he : u = a ∧ v = b
    · obtain ⟨rfl, rfl⟩ := he
      rcases hxy with ⟨hb, rfl, rfl⟩ | ⟨hb, rfl, rfl⟩
      · rw [if_neg (by omega), if_pos ⟨rfl, rfl⟩, hb, ho.1]; exact ⟨rfl, rfl⟩
      · rw [if_pos ⟨rfl, rfl⟩, if_neg (by omega), hb, ho.2]; exact ⟨rfl, rfl⟩
    · rw [if_neg (by rcases hxy with ⟨_, rfl, rfl⟩ | ⟨_, rfl, rfl⟩ <;> omega), if_neg (by rcases hxy with ⟨_, rfl, rfl⟩ | ⟨_, rfl, rfl⟩ <;> omega)]
      exact h.won u v huv (by omega)
  · unfold upd2
    rw [if_neg (by rcases hxy with ⟨_, rfl, rfl⟩ | ⟨_, rfl, rfl⟩ <;> omega), if_neg (by rcases hxy with ⟨_, rfl, rfl⟩ | ⟨_, rfl, rfl⟩ <;> omega)]
    exact h.out u v huv (by omega)
  · unfold upd2
    rw [if_neg (by rcases hxy with ⟨_, rfl, rfl⟩ | ⟨_, rfl, rfl⟩ <;> omega)]
    exact h.irr u
  · rcases List.mem_append.1 hp with hp | hp
    · exact h.nat p hp
    · rw [List.mem_singleton] at hp; exact ⟨x, y, hp⟩
theorem MadeTo.next {n bits a : Nat} {l : List ZZ} {f : Nat → Nat → Bool} (h : MadeTo n bits a a l f) : MadeTo n bits (a + 1) 0 l f :=
  ⟨h.chk, by rw [h.len]; simp [tri], h.beat, fun x y hxy hc => h.won x y hxy (by omega), fun x y hxy hc => h.out x y hxy (by omega), h.irr, h.nat⟩
/-- the contest of games, and who beat whom -/
structure MadeC (n bits : Nat) (l : List ZZ) (f : Nat → Nat → Bool) : Prop where
  le : n ≤ 7
  pos : 1 ≤ n
  chk : chkF n [] l = 0
  len : l.length = halfN n
  beat : ∀ x y, f x y = true ↔ ((x : Int), (y : Int)) ∈ l
  won : ∀ x y, y < x → x < n → f x y = !bits.testBit (tri x + y) ∧ f y x = bits.testBit (tri x + y)
  dom : ∀ x y, f x y = true → x < n ∧ y < n
  irr : ∀ x, f x x = false
  nat : ∀ p ∈ l, ∃ x y : Nat, p = ((x : Int), (y : Int))
theorem tri_half : ∀ n, n ≤ 7 → tri n = halfN n := by decide
theorem MadeTo.done {n bits : Nat} {l : List ZZ} {f : Nat → Nat → Bool} (h : MadeTo n bits n 0 l f) (h1 : 1 ≤ n) (h7 : n ≤ 7) : MadeC n bits l f :=
  ⟨h7, h1, h.chk, by rw [h.len, ← tri_half n h7]; rfl, h.beat, fun x y hxy hx => h.won x y hxy (by omega), fun x y hb => by
    rcases Nat.lt_trichotomy x y with hlt | heq | hlt
    · have hy : y < n := by
        apply Decidable.byContradiction
        intro hc
        rw [(h.out y x hlt (by omega)).2] at hb; cases hb
      omega
    · subst heq; rw [h.irr] at hb; cases hb
    · have hx : x < n := by
        apply Decidable.byContradiction
        intro hc
        rw [(h.out x y hlt (by omega)).1] at hb; cases hb
      omega, h.irr, h.nat⟩
theorem MadeC.one {n bits : Nat} {l : List ZZ} {f : Nat → Nat → Bool} (h : MadeC n bits l f) {x y : Nat} (hx : x < n) (hy : y < n) (hne : x ≠ y) : f x y = !f y x := by
  rcases Nat.lt_or_gt_of_ne hne with hlt | hlt
  · obtain ⟨h1, h2⟩ := h.won y x hlt hy
    rw [h1, h2]; simp
  · obtain ⟨h1, h2⟩ := h.won x y hlt hx
    rw [h1, h2]
theorem MadeC.check {n bits : Nat} {l : List ZZ} {f : Nat → Nat → Bool} (h : MadeC n bits l f) : checkS (n : Int) l = 0 := by
  have := h.le; have := h.pos
  unfold checkS
  rw [if_pos (by simp [within]; omega), if_pos h.chk, Int.toNat_natCast, if_neg (by rw [h.len]; omega)]
end Go.Proofs.Ytnlebofipoepfaa.Code
end
section
namespace Go.Proofs.Ytnlebofipoepfaa.Code
open Go Go.Ab
variable {pure : Bool} {base bar : Nat} {H : Heap} {Q : AV → Heap → Prop}
theorem grow_slot {cells : List AV} {H0 : Heap} {v : AV} (g : Grow 2 cells H0 v H) : v.isTup = false ∧ v.cells = [v] := by
  rcases g with ⟨_, rfl, _⟩ | ⟨_, _, _, _, rfl, _⟩ <;> exact ⟨rfl, rfl⟩
/-- five blocks: the row that came in, two results, the contest, who beat whom -/
def HM (H : Heap) (r : List AV) (n : Nat) (v : AV) (f : Nat → Nat → Bool) : Heap :=
  H ++ [.row 0 r 0 true, .row 0 [.int .i64 0, .nils] 0 true, .row 0 (gcells fun _ _ => false) 0 true, .row 0 [.int .i64 (n : Int), v] 0 true, .row 0 (gcells f) 0 true]
theorem HM_len {r : List AV} {n : Nat} {v : AV} {f : Nat → Nat → Bool} : (HM H r n v f).length = H.length + 5 := by simp [HM]
theorem HM_r {r : List AV} {n : Nat} {v : AV} {f : Nat → Nat → Bool} : (HM H r n v f)[H.length]? = some (.row 0 r 0 true) := by simp [HM, own_get0]
theorem HM_1 {r : List AV} {n : Nat} {v : AV} {f : Nat → Nat → Bool} : (HM H r n v f)[H.length + 1]? = some (.row 0 [.int .i64 0, .nils] 0 true) := by simp [HM, own_get]
theorem HM_h {r : List AV} {n : Nat} {v : AV} {f : Nat → Nat → Bool} : (HM H r n v f)[H.length + 3]? = some (.row 0 [.int .i64 (n : Int), v] 0 true) := by simp [HM, own_get]
theorem HM_f {r : List AV} {n : Nat} {v : AV} {f : Nat → Nat → Bool} : (HM H r n v f)[H.length + 4]? = some (.row 0 (gcells f) 0 true) := by simp [HM, own_get]
theorem HM_seth {r : List AV} {n : Nat} {v v' : AV} {f : Nat → Nat → Bool} : (HM H r n v f).set (H.length + 3) (.row 0 [.int .i64 (n : Int), v'] 0 true) = HM H r n v' f := by simp [HM, own_set]
theorem HM_setf {r : List AV} {n : Nat} {v : AV} {f f' : Nat → Nat → Bool} : (HM H r n v f).set (H.length + 4) (.row 0 (gcells f') 0 true) = HM H r n v f' := by simp [HM, own_set]
theorem l44a {n bits a : Nat} {p : AV} {H0 : Heap} (hbits : bits < 4294967296) (hn : n ≤ 7) (ha : a < n) (hbar : bar ≤ H0.length) {R : PQ} :
    ∀ (k b : Nat), b + k = a → ∀ (l : List ZZ) (f : Nat → Nat → Bool) (v : AV) (Hc : Heap), MadeTo n bits a b l f → Grow 2 (prs l) (HM H0 [p, .int .u32 (bits : Nat)] n v f) v Hc →
    (∀ l' f' v' Hc', MadeTo n bits a a l' f' → Grow 2 (prs l') (HM H0 [p, .int .u32 (bits : Nat)] n v' f') v' Hc' →
      R (.exit 2) [(2, .ptr H0.length 0 0), (4, .ptr (H0.length + 1) 0 0), (5, .ptr (H0.length + 2) 0 0), (6, .ptr (H0.length + 3) 0 0), (7, .ptr (H0.length + 4) 0 0), (8, .int .i64 ((tri a + a : Nat) : Int)), (21, .int .i64 (n : Nat)), (22, .int .i64 (a : Nat)), (9, .int .i64 (a : Nat)), (25, .int .i64 (a : Nat)), (26, .int .i64 (a : Nat)), (27, .bool false)] Hc') →
    Wp E H0.length bar (.loop c44_l0) [(2, .ptr H0.length 0 0), (4, .ptr (H0.length + 1) 0 0), (5, .ptr (H0.length + 2) 0 0), (6, .ptr (H0.length + 3) 0 0), (7, .ptr (H0.length + 4) 0 0), (8, .int .i64 ((tri a + b : Nat) : Int)), (21, .int .i64 (n : Nat)), (22, .int .i64 (a : Nat)), (9, .int .i64 (a : Nat)), (25, .int .i64 (a : Nat)), (26, .int .i64 (b : Nat))] Hc R := by
  intro k
  induction k with
  | zero =>
    intro b hb l f v Hc hm g h
    obtain rfl : b = a := by omega
    rw [wp_round c44_l0.eq_1]
    simp [go_sem]
    exact_mod_cast h l f v Hc hm g
  | succ k ih =>
    intro b hb l f v Hc hm g h
    have hlt : b < a := by omega
    have ht : tri a + b < 28 := by have := tri_le (a + 1) (by omega); simp only [tri] at this; omega
    have hll := hm.len
    have lb : aload Hc ⟨false, 1⟩ (.ptr H0.length 0 1) = some (.int .u32 (bits : Nat)) := by rw [aload_ptr (g.get HM_r)]; rfl
    have lv : aload Hc ⟨false, 1⟩ (.ptr (H0.length + 3) 0 1) = some v := by rw [aload_ptr (g.get HM_h)]; rfl
    have hgl := g.len
    rw [HM_len] at hgl
    have e1 : abin .shr (.int .u32 (bits : Int)) (.int .i64 ((tri a : Int) + (b : Int))) = some (.int .u32 ((shrN bits (tri a + b) : Nat) : Int)) := by
      have := shr_u32 (a := bits) (b := tri a + b) (by omega)
      rwa [Int.natCast_add] at this
    have e2 := and_u32_one (a := shrN bits (tri a + b)) (Nat.lt_of_le_of_lt shrN_le hbits)
    rw [shrN_bit] at e2
    have e4 : IntKind.i64.wrap ((tri a : Int) + (b : Int) + 1) = (tri a : Int) + ((b : Int) + 1) := by
      have := i64_suc (i := tri a + b) (by omega)
      rw [Int.natCast_add] at this
      rw [this]; omega
    rw [wp_round c44_l0.eq_1]
    have key : ∀ x y : Nat, x < 7 → y < 7 → ((bits.testBit (tri a + b) = true ∧ x = b ∧ y = a) ∨ (bits.testBit (tri a + b) = false ∧ x = a ∧ y = b)) → ∀ v' H', Grow 2 (prs (l ++ [((x : Int), (y : Int))])) (HM H0 [p, .int .u32 (bits : Nat)] n v f) v' H' →
        (H'.set (H0.length + 3) (.row 0 [.int .i64 (n : Int), v'] 0 true))[H0.length + 4]? = some (.row 0 (gcells f) 0 true) ∧
        Wp E H0.length bar (.loop c44_l0) [(2, .ptr H0.length 0 0), (4, .ptr (H0.length + 1) 0 0), (5, .ptr (H0.length + 2) 0 0), (6, .ptr (H0.length + 3) 0 0), (7, .ptr (H0.length + 4) 0 0), (8, .int .i64 ((tri a : Int) + ((b : Int) + 1))), (21, .int .i64 (n : Nat)), (22, .int .i64 (a : Nat)), (9, .int .i64 (a : Nat)), (25, .int .i64 (a : Nat)), (26, .int .i64 ((b : Int) + 1))]
          ((H'.set (H0.length + 3) (.row 0 [.int .i64 (n : Int), v'] 0 true)).set (H0.length + 4) (.row 0 (gcells (upd2 f x y true)) 0 true)) R := fun x y hx hy hxy v' H' g' => by
      have g2 := g'.set (i := H0.length + 3) (b := .row 0 [.int .i64 (n : Int), v'] 0 true) (by rw [HM_len]; omega)
      rw [HM_seth] at g2
      have g3 := g2.set (i := H0.length + 4) (b := .row 0 (gcells (upd2 f x y true)) 0 true) (by rw [HM_len]; omega)
      rw [HM_setf] at g3
      refine ⟨g2.get HM_f, ?_⟩
      have := ih (b + 1) (by omega) _ _ v' _ (hm.put hlt ha hxy) g3 h
      exact_mod_cast this
    cases hc : bits.testBit (tri a + b)
    · rw [hc] at e2
      simp [go_sem, hlt, lb, e1, e2, lv, aop, fillA, setCells, chunks]
      refine g.pair (p := ((a : Int), (b : Int))) (by rw [HM_len]; omega) (by rw [HM_len]; omega) (by omega) fun v' H' tc g' => ?_
      obtain ⟨s1, s2⟩ := grow_slot g'
      obtain ⟨k1, k2⟩ := key a b (by omega) (by omega) (.inr ⟨hc, rfl, rfl⟩) v' H' g'
      simp [go_sem]
      rw [storeWp_ptr (size := 1) (g'.get HM_h) s1 (by rw [s2]; rfl) (by omega) (by simp) (by omega) (.inl (by omega))]
      simp [go_sem, s2, show a < 7 by omega, show b < 7 by omega]
      rw [storeG k1 (by omega) (by omega) (by omega)]
      simp [go_sem, e4, i64_suc (show b < 1000000 by omega)]
      exact k2
    · rw [hc] at e2
      simp [go_sem, hlt, lb, e1, e2, lv, aop, fillA, setCells, chunks]
      refine g.pair (p := ((b : Int), (a : Int))) (by rw [HM_len]; omega) (by rw [HM_len]; omega) (by omega) fun v' H' tc g' => ?_
      obtain ⟨s1, s2⟩ := grow_slot g'
      obtain ⟨k1, k2⟩ := key b a (by omega) (by omega) (.inl ⟨hc, rfl, rfl⟩) v' H' g'
      simp [go_sem]
      rw [storeWp_ptr (size := 1) (g'.get HM_h) s1 (by rw [s2]; rfl) (by omega) (by simp) (by omega) (.inl (by omega))]
      simp [go_sem, s2, show a < 7 by omega, show b < 7 by omega]
      rw [storeG k1 (by omega) (by omega) (by omega)]
      simp [go_sem, e4, i64_suc (show b < 1000000 by omega)]
      exact k2
theorem l44 {n bits : Nat} {p : AV} {H0 : Heap} (hbits : bits < 4294967296) (hn : n ≤ 7) (hbar : bar ≤ H0.length) {R : PQ} :
    ∀ (k a : Nat), a + k = n → ∀ (l : List ZZ) (f : Nat → Nat → Bool) (v : AV) (Hc : Heap), MadeTo n bits a 0 l f → Grow 2 (prs l) (HM H0 [p, .int .u32 (bits : Nat)] n v f) v Hc →
    (∀ l' f' v' Hc', MadeTo n bits n 0 l' f' → Grow 2 (prs l') (HM H0 [p, .int .u32 (bits : Nat)] n v' f') v' Hc' →
      R (.exit 0) [(2, .ptr H0.length 0 0), (4, .ptr (H0.length + 1) 0 0), (5, .ptr (H0.length + 2) 0 0), (6, .ptr (H0.length + 3) 0 0), (7, .ptr (H0.length + 4) 0 0), (8, .int .i64 ((tri n : Nat) : Int)), (21, .int .i64 (n : Nat)), (22, .int .i64 (n : Nat)), (23, .bool false)] Hc') →
    Wp E H0.length bar (.loop c44_l1) [(2, .ptr H0.length 0 0), (4, .ptr (H0.length + 1) 0 0), (5, .ptr (H0.length + 2) 0 0), (6, .ptr (H0.length + 3) 0 0), (7, .ptr (H0.length + 4) 0 0), (8, .int .i64 ((tri a : Nat) : Int)), (21, .int .i64 (n : Nat)), (22, .int .i64 (a : Nat))] Hc R := by
  intro k
  induction k with
  | zero =>
    intro a ha l f v Hc hm g h
    obtain rfl : a = n := by omega
    rw [wp_round c44_l1.eq_1]
    simp [go_sem]
    exact h l f v Hc hm g
  | succ k ih =>
    intro a ha l f v Hc hm g h
    have hlt : a < n := by omega
    rw [wp_round c44_l1.eq_1]
    simp [go_sem, hlt]
    refine l44a hbits hn hlt hbar a 0 (by omega) l f v Hc hm g fun l' f' v' Hc' hm' g' => ?_
    have := ih (a + 1) (by omega) l' f' v' Hc' hm'.next g' h
    simp [go_sem, i64_suc (show a < 1000000 by omega)]
    simpa [tri] using this
theorem k44 {p bits most n : Nat} (hp : p < 256) (hbits : bits < 4294967296) (h1 : 1 ≤ most) (h7 : most ≤ 7) (hbar : bar ≤ H.length) (hn : n = 1 + p % most)
    (h : ∀ q l f, isP q l → MadeC n bits l f → Q (.tup [.agg [.int .i64 (n : Nat), q], .agg (gcells f)]) H) :
    WpCall E pure base bar 44 [.agg [.int .u8 (p : Nat), .int .u32 (bits : Nat)], .int .i64 (most : Nat)] H Q := by
  rw [call44]
  have hb' := bar_ok (pure := pure) hbar
  have hm : (p : Int).tmod (most : Int) = (p : Int) % (most : Int) := Go.IntWalk.rem_in _ _ (by omega)
  have hmod : p % most < most := Nat.mod_lt _ (by omega)
  have hw : IntKind.i64.wrap (1 + (p : Int) % (most : Int)) = (n : Int) := by
    rw [show (1 : Int) + (p : Int) % (most : Int) = (n : Int) by rw [hn]; simp, i64_nat (by omega)]
  simp [go_sem, WpFun, c44] at hb' ⊢
  generalize (if pure = true then H.length else bar) = bar' at hb' ⊢
  simp [go_sem, aload, own_get0, own_get, Ab.part, i64_nat (show p < 9223372036854775808 by omega), abin_rem (show (most : Int) ≠ 0 by omega), hm, hw, storeWp, astore, own_set, setCells, show bar' ≤ H.length + 3 by omega]
  refine l44 hbits (show n ≤ 7 by omega) hb' n 0 (by omega) [] _ .nils _ .zero .nil fun l f v Hc hmade g => ?_
  obtain ⟨s1, s2⟩ := grow_slot g
  simp [go_sem, aload_ptr (g.get HM_h), loadGG (g.get HM_f)]
  have hm1 := hmade.done (by omega) (by omega)
  rw [storeWp_ptr (size := 2) (g.get HM_1) rfl rfl (by omega) (by simp) (by omega) (.inl (by omega))]
  have g2 := g.set (i := H.length + 1) (b := .row 0 [.int .i64 (n : Int), v] 0 true) (by rw [HM_len]; omega)
  have e2 : ((HM H [.int .u8 (p : Int), .int .u32 (bits : Int)] n v f).set (H.length + 1) (.row 0 [.int .i64 (n : Int), v] 0 true))[H.length + 2]? = some (.row 0 (gcells (fun _ _ => false)) 0 true) := by simp [HM, own_set, own_get]
  simp [go_sem]
  rw [storeGG (g2.get e2) (by omega)]
  have g3 := g2.set (i := H.length + 2) (b := .row 0 (gcells f) 0 true) (by simp [HM_len])
  have e3 : (((HM H [.int .u8 (p : Int), .int .u32 (bits : Int)] n v f).set (H.length + 1) (.row 0 [.int .i64 (n : Int), v] 0 true)).set (H.length + 2) (.row 0 (gcells f) 0 true))[H.length + 1]? = some (.row 0 [.int .i64 (n : Int), v] 0 true) := by simp [HM, own_set, own_get]
  have e4 : (((HM H [.int .u8 (p : Int), .int .u32 (bits : Int)] n v f).set (H.length + 1) (.row 0 [.int .i64 (n : Int), v] 0 true)).set (H.length + 2) (.row 0 (gcells f) 0 true))[H.length + 2]? = some (.row 0 (gcells f) 0 true) := by simp [HM, own_set, own_get]
  have hl3 : (((HM H [.int .u8 (p : Int), .int .u32 (bits : Int)] n v f).set (H.length + 1) (.row 0 [.int .i64 (n : Int), v] 0 true)).set (H.length + 2) (.row 0 (gcells f) 0 true)).length = H.length + 5 := by simp [HM_len]
  obtain ⟨H2, f1, f2, f3, f4⟩ := g3.frz (d := 4) (bar := bar') (by decide) ⟨_, prs_length⟩ prs_plain (by rw [hl3]; omega)
  have e5 : H2.take H.length = H := by
    have := congrArg (List.take H.length) f4
    rw [List.take_take, hl3, Nat.min_eq_left (by omega)] at this
    rw [this]; simp [HM, own_set]
  rw [show 4 + 3 = 7 from rfl] at f1
  simp [go_sem, aload_ptr (g3.get e3), loadGG (g3.get e4), f1]
  rw [plains (d := 5) gcells_plain]
  simp [go_sem, isP.out.top, e5]
  exact h _ l f isP.out hm1
end Go.Proofs.Ytnlebofipoepfaa.Code
end
section
namespace Go.Proofs.Ytnlebofipoepfaa.Code
open Go Go.Ab
variable {pure : Bool} {base bar : Nat} {H : Heap} {Q : AV → Heap → Prop}
/-! 56: the board of a contest, or its error -/
def winW (w : Nat → Nat) (p : ZZ) : Nat → Nat := upd w p.1.toNat (bor (w p.1.toNat) (pw p.2.toNat))
def boardF (l : List ZZ) (w : Nat → Nat) : Nat → Nat := l.foldl winW w
theorem chkF_valid {n : Int} : ∀ {l b : List ZZ}, chkF n b l = 0 → ∀ p ∈ l, 0 ≤ p.1 ∧ 0 ≤ p.2 ∧ p.1 < n ∧ p.2 < n ∧ p.1 ≠ p.2
  | [], _, _, p, hp => by simp at hp
  | o :: r, b, h, p, hp => by
    simp only [chkF] at h
    split at h
    · cases h
    rename_i g1
    split at h
    · cases h
    rename_i g2
    split at h
    · cases h
    rcases List.mem_cons.1 hp with rfl | hp
    · exact ⟨by omega, by omega, by omega, by omega, g2⟩
    · exact chkF_valid h p hp
theorem winW_lt {w : Nat → Nat} {p : ZZ} (hw : ∀ x, w x < 256) (h2 : p.2.toNat < 8) : ∀ x, winW w p x < 256 := upd_lt hw (bor_lt (hw _) (pw_lt h2))
theorem winW_bit {w : Nat → Nat} {a b x y : Nat} : (winW w ((a : Int), (b : Int)) x).testBit y = ((w x).testBit y || (decide (x = a) && decide (y = b))) := by
  unfold winW upd
  simp only [Int.toNat_natCast]
  split
  · rename_i h; subst h
    rw [testBit_bor, testBit_pw]; simp [eq_comm]
  · rename_i h; simp [h]
theorem boardF_bit : ∀ {l : List ZZ} {w : Nat → Nat} {x y : Nat}, (∀ p ∈ l, 0 ≤ p.1 ∧ 0 ≤ p.2) → ((boardF l w x).testBit y = true ↔ (w x).testBit y = true ∨ ((x : Int), (y : Int)) ∈ l)
  | [], w, x, y, _ => by simp [boardF]
  | (a, b) :: r, w, x, y, h => by
    obtain ⟨h1, h2⟩ := h (a, b) (List.mem_cons_self ..)
    obtain ⟨a, rfl⟩ := Int.eq_ofNat_of_zero_le h1
    obtain ⟨b, rfl⟩ := Int.eq_ofNat_of_zero_le h2
    have e : boardF (((a : Int), (b : Int)) :: r) w = boardF r (winW w ((a : Int), (b : Int))) := rfl
    rw [e, boardF_bit fun p hp => h p (List.mem_cons_of_mem _ hp), winW_bit, List.mem_cons, Prod.mk.injEq]
    simp only [Bool.or_eq_true, Bool.and_eq_true, decide_eq_true_eq]
    constructor
    · rintro ((h | ⟨h1, h2⟩) | h)
      · exact .inl h
      · exact .inr (.inl ⟨by omega, by omega⟩)
      · exact .inr (.inr h)
    · rintro (h | ⟨h1, h2⟩ | h)
      · exact .inl (.inl h)
      · exact .inl (.inr ⟨by omega, by omega⟩)
      · exact .inr h
theorem leave1_nil {e : Int} : leave 1 base bar [.nilp, .int .i64 e] H = some (.tup [.nilp, .int .i64 e], H.take base) := by
  have h2 : frzAll bar H [.nilp, .int .i64 e] = some ([.nilp, .int .i64 e], H) := rfl
  simp only [leave, h2]
  simp [firstOwn, AV.top.tops, AV.top, tupled]
theorem leave1_ptr {id ver n fz : Nat} {ex : Bool} {w : Nat → Nat} {e : Int} (hid : H[id]? = some (.row ver (bcells n w) fz ex)) (hb : base ≤ id) :
    leave 1 base bar [.ptr id ver 0, .int .i64 e] H = some (.tup [.ptr base ver 0, .int .i64 e], H.take base ++ [.row ver (bcells n w) fz ex]) := by
  have h1 : frzAll bar H (bcells n w) = some (bcells n w, H) := by
    simp only [frzAll, frz.frzs]
    exact plains (d := 6) bcells_plain
  have h2 : frzAll bar H [.ptr id ver 0, .int .i64 e] = some ([.ptr id ver 0, .int .i64 e], H) := rfl
  simp only [leave, h2]
  simp [firstOwn, hb, hid, h1, bcells_tops, movable, AV.top, moveP, tupled]
theorem l56 {n : Nat} {q : AV} {l : List ZZ} (hq : isP q l) (hl : l.length < 1000) (hv : ∀ p ∈ l, 0 ≤ p.1 ∧ 0 ≤ p.2 ∧ p.1 < 7 ∧ p.2 < 7) (hbar : bar ≤ H.length) {R : PQ} :
    ∀ (k i : Nat) (w : Nat → Nat), i + k = l.length → (∀ x, w x < 256) →
    (R (.exit 0) [(5, .ptr (H.length + 1) 0 0), (18, q), (19, .int .i64 (l.length : Nat)), (20, .int .i64 (l.length : Nat)), (21, .bool false)] (H ++ [.row 0 [.int .i64 (n : Nat), q] 0 true, .row 0 (bcells n (boardF (l.drop i) w)) 0 true])) →
    Wp E H.length bar (.loop c56_l0) [(5, .ptr (H.length + 1) 0 0), (18, q), (19, .int .i64 (l.length : Nat)), (20, .int .i64 (i : Nat))] (H ++ [.row 0 [.int .i64 (n : Nat), q] 0 true, .row 0 (bcells n w) 0 true]) R := by
  intro k
  induction k with
  | zero =>
    intro i w hi hw h
    obtain rfl : i = l.length := by omega
    rw [List.drop_length] at h
    rw [wp_round c56_l0.eq_1]
    simp [go_sem]
    exact h
  | succ k ih =>
    intro i w hi hw h
    have hlt : i < l.length := by omega
    rw [List.drop_eq_getElem_cons hlt] at h
    obtain ⟨⟨a, b⟩, hp⟩ : ∃ p, l[i] = p := ⟨_, rfl⟩
    rw [hp] at h
    obtain ⟨h1, h2, h3, h4⟩ := hv (a, b) (by rw [← hp]; exact List.getElem_mem hlt)
    simp only at h1 h2 h3 h4
    obtain ⟨a, rfl⟩ := Int.eq_ofNat_of_zero_le h1
    obtain ⟨b, rfl⟩ := Int.eq_ofNat_of_zero_le h2
    have ha : a < 7 := by omega
    have hb : b < 8 := by omega
    have e : boardF (((a : Int), (b : Int)) :: l.drop (i + 1)) w = boardF (l.drop (i + 1)) (upd w a (bor (w a) (pw b))) := rfl
    rw [e] at h
    have hid : ∀ L : Heap, (H ++ (.row 0 [.int .i64 (n : Nat), q] 0 true :: .row 0 (bcells n w) 0 true :: L))[H.length + 1]? = some (.row 0 (bcells n w) 0 true) := fun L => by simp [own_get]
    have next := ih (i + 1) _ (by omega) (upd_lt (i := a) hw (bor_lt (hw a) (pw_lt hb))) h
    rw [wp_round c56_l0.eq_1]
    have ld : ∀ L : Heap, aload (H ++ (.row 0 [.int .i64 (n : Nat), q] 0 true :: .row 0 (bcells n w) 0 true :: L)) ⟨false, 1⟩ (.ptr (H.length + 1) 0 (1 + a)) = some (.int .u8 ((w a : Nat) : Int)) := fun L => loadB (hid L) ha
    have st : ∀ (L : Heap) (K : AV → Heap → List Nat → Prop) (bs : Nat), storeWp bs bar 1 (.ptr (H.length + 1) 0 (1 + a)) (.int .u8 ((bor (w a) (pw b) : Nat) : Int)) (H ++ (.row 0 [.int .i64 (n : Nat), q] 0 true :: .row 0 (bcells n w) 0 true :: L)) K
        = K (.tup []) (H ++ (.row 0 [.int .i64 (n : Nat), q] 0 true :: .row 0 (bcells n (upd w a (bor (w a) (pw b)))) 0 true :: L)) [H.length + 1] := fun L K bs => by
      rw [storeB (hid L) ha (by omega), own_set]; rfl
    have l2 : ∀ (X Y : Blk), aload (H ++ [X, Y, .row 0 [.int .i64 (a : Int), .int .i64 (b : Int)] 0 true]) ⟨false, 1⟩ (.ptr (H.length + 2) 0 0) = some (.int .i64 (a : Nat)) := fun X Y => by simp [aload, own_get, Ab.part]
    have l3 : ∀ (X Y : Blk), aload (H ++ [X, Y, .row 0 [.int .i64 (a : Int), .int .i64 (b : Int)] 0 true]) ⟨false, 1⟩ (.ptr (H.length + 2) 0 1) = some (.int .i64 (b : Nat)) := fun X Y => by simp [aload, own_get, Ab.part]
    have s2 : ∀ (X Y : Blk) (K : AV → Heap → List Nat → Prop) (bs : Nat), storeWp bs bar 2 (.ptr (H.length + 2) 0 0) (.agg [.int .i64 (a : Int), .int .i64 (b : Int)]) (H ++ [X, Y, .row 0 [.int .i64 0, .int .i64 0] 0 true]) K
        = K (.tup []) (H ++ [X, Y, .row 0 [.int .i64 (a : Int), .int .i64 (b : Int)] 0 true]) [H.length + 2] := fun X Y K bs => by
      simp [storeWp, astore, own_get, own_set, setCells, show bar ≤ H.length + 2 by omega, AV.isTup, AV.cells, AV.top.tops, AV.top]
    have lf : aload (H ++ [Blk.row 0 [.int .i64 (n : Nat), q] 0 true, .row 0 (bcells n w) 0 true]) ⟨true, 2⟩ (.fp (.agg [.int .i64 (a : Int), .int .i64 (b : Int)])) = some (.agg [.int .i64 (a : Int), .int .i64 (b : Int)]) := by simp [aload]
    simp [go_sem, hlt, hq.ix hlt, hp, zc, lf]
    rw [s2]
    simp [go_sem, l2, l3, ha, ld, shl_u8 hb, or_u8 (hw a) (pw_lt hb)]
    rw [st]
    simp [go_sem, hq.top, i64_suc (show i < 1000000 by omega)]
    exact next
theorem k56 {n : Int} {q : AV} {l : List ZZ} (hq : isP q l) (hl : l.length < 1000) (hbar : bar ≤ H.length)
    (h1 : checkS n l ≠ 0 → Q (.tup [.nilp, .int .i64 (checkS n l)]) H)
    (h2 : ∀ m : Nat, n = m → 1 ≤ m → m ≤ 7 → checkS n l = 0 → Q (.tup [.ptr H.length 0 0, .int .i64 0]) (H ++ [.row 0 (bcells m (boardF l fun _ => 0)) 0 true])) :
    WpCall E false base bar 56 [.agg [.int .i64 n, q]] H Q := by
  rw [call56]
  have lh : aload (H ++ [Blk.row 0 [.int .i64 n, q] 0 true]) ⟨true, 2⟩ (.ptr H.length 0 0) = some (.agg [.int .i64 n, q]) := by simp [aload, own_get0, Ab.part]
  have ln : aload (H ++ [Blk.row 0 [.int .i64 n, q] 0 true]) ⟨false, 1⟩ (.ptr H.length 0 0) = some (.int .i64 n) := by simp [aload, own_get0, Ab.part]
  simp [go_sem, WpFun, c56, hq.frz, lh]
  refine k23 hq hl (by simp; omega) ?_
  by_cases hc : checkS n l = 0
  · rw [hc]
    have hr : within 1 7 n = true := by
      unfold checkS at hc
      split at hc
      · assumption
      · cases hc
    have hchk : chkF n [] l = 0 := by
      unfold checkS at hc
      rw [if_pos hr] at hc
      split at hc
      · assumption
      · exact hc
    simp [within] at hr
    obtain ⟨n, rfl⟩ := Int.eq_ofNat_of_zero_le (show 0 ≤ n by omega)
    have hv := chkF_valid hchk
    have e0 : [AV.int .i64 (n : Int), .int .u8 0, .int .u8 0, .int .u8 0, .int .u8 0, .int .u8 0, .int .u8 0, .int .u8 0] = bcells n (fun _ => 0) := rfl
    have lq : ∀ L : Heap, aload (H ++ (Blk.row 0 [.int .i64 (n : Int), q] 0 true :: L)) ⟨false, 1⟩ (.ptr H.length 0 1) = some q := fun L => by simp [aload, own_get0, Ab.part]
    simp [go_sem, ln, fillA, setCells, lq, hq.len]
    rw [e0]
    refine l56 hq hl (fun p hp => by have := hv p hp; omega) hbar l.length 0 (fun _ => 0) (by omega) (fun _ => by decide) ?_
    rw [List.drop_zero]
    simp [go_sem]
    rw [leave1_ptr (id := H.length + 1) (n := n) (w := boardF l fun _ => 0) (fz := 0) (ex := true) (by simp [own_get]) (by omega)]
    simp [go_sem]
    exact h2 n rfl (by omega) (by omega) hc
  · simp [go_sem, hc, leave1_nil]
    exact h1 hc
theorem MadeC.board {n bits : Nat} {l : List ZZ} {f : Nat → Nat → Bool} (h : MadeC n bits l f) : BoardW n (boardF l fun _ => 0) ∧ ∀ x y, (boardF l (fun _ => 0) x).testBit y = f x y := by
  have hv := chkF_valid h.chk
  have hb : ∀ x y, (boardF l (fun _ => 0) x).testBit y = f x y := fun x y => by
    rw [Bool.eq_iff_iff, boardF_bit fun p hp => by have := hv p hp; exact ⟨this.1, this.2.1⟩, h.beat]
    simp
  have hlt : ∀ (r : List ZZ) (w : Nat → Nat), (∀ x, w x < 256) → (∀ p ∈ r, p.2.toNat < 8) → ∀ x, boardF r w x < 256 := by
    intro r
    induction r with
    | nil => intro w hw _; exact hw
    | cons p r ih =>
      intro w hw hp
      exact ih (winW w p) (winW_lt hw (hp p (List.mem_cons_self ..))) fun q hq => hp q (List.mem_cons_of_mem _ hq)
  have h7 := h.le
  exact ⟨⟨h.le, hlt l _ (fun _ => by decide) fun p hp => by have := hv p hp; omega, fun x y hxy => h.dom x y (by rw [← hb]; exact hxy), fun x => by rw [hb]; exact h.irr x, fun x y hx hy hne => by rw [hb, hb]; exact h.one hx hy hne⟩, hb⟩
end Go.Proofs.Ytnlebofipoepfaa.Code
end
section
namespace Go.Proofs.Ytnlebofipoepfaa.Code
open Go Go.Ab
variable {pure : Bool} {base bar : Nat} {H : Heap} {Q : AV → Heap → Prop}
theorem flatMap_len {α : Type} {f : Nat → List α} {m : Nat} : ∀ (l : List Nat), (∀ x ∈ l, (f x).length ≤ m) → (l.flatMap f).length ≤ l.length * m
  | [], _ => by simp
  | x :: r, h => by
    have h1 := h x (List.mem_cons_self ..)
    have h2 := flatMap_len r fun y hy => h y (List.mem_cons_of_mem _ hy)
    simp only [List.flatMap_cons, List.length_append, List.length_cons, Nat.succ_mul]; omega
/-! to whom chains lead -/
theorem exists_reach {n x : Nat} {w : Nat → Nat} (hbd : BoardW n w) (hx : x < 7) : ∃ t, t < 128 ∧ ∀ y, t.testBit y = true ↔ Rch w x y := by
  have key : ∀ (k s : Nat), (bitsOf s).length + k = 8 → s < 128 → (∀ y, s.testBit y = true → Rch w x y) → s.testBit x = true → ∃ t, t < 128 ∧ ∀ y, t.testBit y = true ↔ Rch w x y := by
    intro k
    induction k using Nat.strongRecOn with
    | _ k ih =>
      intro s hk hs hr hx
      have hfl := fart_lt hbd hs
      by_cases he : fartS w s = s
      · exact ⟨s, hs, fun y => ⟨hr y, fun hy => by
          induction hy with
          | refl => exact hx
          | step _ h2 ih2 =>
            rw [← he]
            exact (fart_bit (n := n) hs).2 (.inr ⟨_, ih2, h2⟩)⟩⟩
      · have hlen := more_bits s hs _ hfl (sub_band fun y hy => (fart_bit (n := n) hs).2 (.inl hy)) (Ne.symm he)
        have hl8 := bits_len (fartS w s)
        exact ih (8 - (bitsOf (fartS w s)).length) (by omega) (fartS w s) (by omega) hfl (fun y hy => by
          rcases (fart_bit (n := n) hs).1 hy with h | ⟨z, hz, h⟩
          · exact hr y h
          · exact .step (hr z hz) h) ((fart_bit (n := n) hs).2 (.inl hx))
  have hp : pw x < 128 := Nat.pow_lt_pow_right (by decide) hx
  have hl := bits_len (pw x)
  refine key (8 - (bitsOf (pw x)).length) (pw x) (by omega) hp (fun y hy => ?_) (by simp [testBit_pw])
  rw [testBit_pw] at hy
  obtain rfl : x = y := by simpa using hy
  exact .refl
theorem Rch.lt {n : Nat} {w : Nat → Nat} (hbd : BoardW n w) {x y : Nat} (hx : x < n) (h : Rch w x y) : y < n := by
  induction h with
  | refl => exact hx
  | step _ h2 _ => exact (hbd.dom _ _ h2).2
end Go.Proofs.Ytnlebofipoepfaa.Code
end
section
namespace Go.Proofs.Ytnlebofipoepfaa.Code
open Go Go.Ab
variable {pure : Bool} {base bar : Nat} {H : Heap} {Q : AV → Heap → Prop}
end Go.Proofs.Ytnlebofipoepfaa.Code
end
section
namespace Go.Proofs.Ytnlebofipoepfaa.Code
open Go Go.Ab
variable {pure : Bool} {base bar : Nat} {H : Heap} {Q : AV → Heap → Prop}
/-! 45: to whom chains lead, with at most so many steps -/
def nextR (f : Nat → Nat → Bool) (n : Nat) (met : Nat → Bool) (a : Nat) : Nat → Bool := fun j => met j || (decide (j < n) && (List.range a).any fun x => met x && f x j)
def nextP (f : Nat → Nat → Bool) (n : Nat) (met : Nat → Bool) (a b : Nat) : Nat → Bool := fun j => nextR f n met a j || (decide (j < b) && (met a && f a j))
def reachR (f : Nat → Nat → Bool) (n x : Nat) : Nat → Nat → Bool
  | 0 => fun j => decide (j = x)
  | k + 1 => nextR f n (reachR f n x k) n
theorem nextP_zero {f : Nat → Nat → Bool} {n a : Nat} {met : Nat → Bool} : nextP f n met a 0 = nextR f n met a := by
  funext j; simp [nextP]
theorem nextP_step {f : Nat → Nat → Bool} {n a b : Nat} {met : Nat → Bool} : updB (nextP f n met a b) b (nextP f n met a b b || (met a && f a b)) = nextP f n met a (b + 1) := by
  funext j
  unfold updB
  split
  · rename_i h; subst h
    unfold nextP
    have e1 : decide (j < j) = false := by simp
    have e2 : decide (j < j + 1) = true := by simp
    rw [e1, e2]; simp
  · rename_i h
    unfold nextP
    have : decide (j < b + 1) = decide (j < b) := decide_eq_decide.2 (by omega)
    rw [this]
theorem nextP_all {f : Nat → Nat → Bool} {n a : Nat} {met : Nat → Bool} : nextP f n met a n = nextR f n met (a + 1) := by
  funext j
  unfold nextP nextR
  rw [List.range_succ, List.any_append]
  cases decide (j < n) <;> simp [Bool.or_assoc]
theorem nextR_zero {f : Nat → Nat → Bool} {n : Nat} {met : Nat → Bool} : nextR f n met 0 = met := by
  funext j; simp [nextR]
section
variable {n i4 i8 i9 i10 steps s : Nat} {f : Nat → Nat → Bool} {met : Nat → Bool} {cs : List AV}
theorem l45a (h4 : H[i4]? = some (.row 0 (gcells f) 0 true)) (h9 : H[i9]? = some (.row 0 (mcells met) 0 true)) (h10 : H[i10]? = some (.row 0 cs 0 true)) (n4 : i4 ≠ i10) (n9 : i9 ≠ i10) (hn : n ≤ 7) {a : Nat} (ha : a < n) (hbar : bar ≤ i10) {R : PQ} :
    ∀ (k b : Nat), b + k = n →
    R (.exit 4) [(1, .int .i64 (n : Nat)), (4, .ptr i4 0 0), (8, .ptr i8 0 0), (9, .ptr i9 0 0), (15, .int .i64 (steps : Nat)), (16, .int .i64 (s : Nat)), (10, .ptr i10 0 0), (19, .int .i64 (n : Nat)), (20, .int .i64 (a : Nat)), (11, .int .i64 (a : Nat)), (23, .int .i64 (n : Nat)), (24, .int .i64 (n : Nat)), (25, .bool false)] (H.set i10 (.row 0 (mcells (nextP f n met a n)) 0 true)) →
    Wp E base bar (.loop c45_l0) [(1, .int .i64 (n : Nat)), (4, .ptr i4 0 0), (8, .ptr i8 0 0), (9, .ptr i9 0 0), (15, .int .i64 (steps : Nat)), (16, .int .i64 (s : Nat)), (10, .ptr i10 0 0), (19, .int .i64 (n : Nat)), (20, .int .i64 (a : Nat)), (11, .int .i64 (a : Nat)), (23, .int .i64 (n : Nat)), (24, .int .i64 (b : Nat))] (H.set i10 (.row 0 (mcells (nextP f n met a b)) 0 true)) R := by
  intro k
  induction k with
  | zero =>
    intro b hb h
    obtain rfl : b = n := by omega
    rw [wp_round c45_l0.eq_1]
    simp [go_sem]
    exact h
  | succ k ih =>
    intro b hb h
    have hlt : b < n := by omega
    have g4 : ∀ m, (H.set i10 (.row 0 (mcells m) 0 true))[i4]? = some (.row 0 (gcells f) 0 true) := fun m => by rw [List.getElem?_set_ne (Ne.symm n4)]; exact h4
    have g9 : ∀ m, (H.set i10 (.row 0 (mcells m) 0 true))[i9]? = some (.row 0 (mcells met) 0 true) := fun m => by rw [List.getElem?_set_ne (Ne.symm n9)]; exact h9
    have g10 : ∀ m, (H.set i10 (.row 0 (mcells m) 0 true))[i10]? = some (.row 0 (mcells m) 0 true) := fun m => set_get h10
    have next := ih (b + 1) (by omega) h
    rw [← nextP_step] at next
    have m1 := loadM (s := 1) (g10 (nextP f n met a b)) (show b < 7 by omega)
    have m2 := loadM (s := 1) (g9 (nextP f n met a b)) (show a < 7 by omega)
    have m3 := loadG (s := 1) (g4 (nextP f n met a b)) (show a < 7 by omega) (show b < 7 by omega)
    rw [wp_round c45_l0.eq_1]
    have hb7 : b < 7 := by omega
    have ha7 : a < 7 := by omega
    have hz := i64_suc (show b < 1000000 by omega)
    cases e1 : nextP f n met a b b
    · rw [e1] at m1 next
      cases e2 : met a
      · rw [e2] at m2 next
        simp [go_sem, hlt, hb7, ha7, m1, m2]
        rw [storeM (g10 _) hb7 hbar]
        simp [go_sem, hz] at next ⊢
        exact next
      · rw [e2] at m2 next
        simp [go_sem, hlt, hb7, ha7, m1, m2, m3]
        rw [storeM (g10 _) hb7 hbar]
        simp [go_sem, hz] at next ⊢
        exact next
    · rw [e1] at m1 next
      simp [go_sem, hlt, hb7, ha7, m1]
      rw [storeM (g10 _) hb7 hbar]
      simp [go_sem, hz] at next ⊢
      exact next
theorem l45b (h4 : H[i4]? = some (.row 0 (gcells f) 0 true)) (h9 : H[i9]? = some (.row 0 (mcells met) 0 true)) (h10 : H[i10]? = some (.row 0 cs 0 true)) (n4 : i4 ≠ i10) (n9 : i9 ≠ i10) (hn : n ≤ 7) (hbar : bar ≤ i10) {R : PQ} :
    ∀ (k a : Nat), a + k = n →
    R (.exit 2) [(1, .int .i64 (n : Nat)), (4, .ptr i4 0 0), (8, .ptr i8 0 0), (9, .ptr i9 0 0), (15, .int .i64 (steps : Nat)), (16, .int .i64 (s : Nat)), (10, .ptr i10 0 0), (19, .int .i64 (n : Nat)), (20, .int .i64 (n : Nat)), (21, .bool false)] (H.set i10 (.row 0 (mcells (nextR f n met n)) 0 true)) →
    Wp E base bar (.loop c45_l1) [(1, .int .i64 (n : Nat)), (4, .ptr i4 0 0), (8, .ptr i8 0 0), (9, .ptr i9 0 0), (15, .int .i64 (steps : Nat)), (16, .int .i64 (s : Nat)), (10, .ptr i10 0 0), (19, .int .i64 (n : Nat)), (20, .int .i64 (a : Nat))] (H.set i10 (.row 0 (mcells (nextR f n met a)) 0 true)) R := by
  intro k
  induction k with
  | zero =>
    intro a ha h
    obtain rfl : a = n := by omega
    rw [wp_round c45_l1.eq_1]
    simp [go_sem]
    exact h
  | succ k ih =>
    intro a ha h
    have hlt : a < n := by omega
    rw [wp_round c45_l1.eq_1]
    simp [go_sem, hlt]
    rw [← nextP_zero]
    refine l45a h4 h9 h10 n4 n9 hn hlt hbar n 0 (by omega) ?_
    rw [nextP_all]
    simp [go_sem, i64_suc (show a < 1000000 by omega)]
    exact ih (a + 1) (by omega) h
end
theorem l45 {n x steps : Nat} {f : Nat → Nat → Bool} (hn : n ≤ 7) (hst : steps < 1000) (hbar : bar ≤ H.length) {R : PQ} :
    ∀ (k s : Nat), s + k = steps →
    R (.exit 0) [(1, .int .i64 (n : Nat)), (4, .ptr H.length 0 0), (8, .ptr (H.length + 1) 0 0), (9, .ptr (H.length + 2) 0 0), (15, .int .i64 (steps : Nat)), (16, .int .i64 (steps : Nat)), (17, .bool false)] (H ++ [.row 0 (gcells f) 0 true, .row 0 (mcells fun _ => false) 0 true, .row 0 (mcells (reachR f n x steps)) 0 true]) →
    Wp E base bar (.loop c45_l2) [(1, .int .i64 (n : Nat)), (4, .ptr H.length 0 0), (8, .ptr (H.length + 1) 0 0), (9, .ptr (H.length + 2) 0 0), (15, .int .i64 (steps : Nat)), (16, .int .i64 (s : Nat))] (H ++ [.row 0 (gcells f) 0 true, .row 0 (mcells fun _ => false) 0 true, .row 0 (mcells (reachR f n x s)) 0 true]) R := by
  intro k
  induction k with
  | zero =>
    intro s hs h
    obtain rfl : s = steps := by omega
    rw [wp_round c45_l2.eq_1]
    simp [go_sem]
    exact h
  | succ k ih =>
    intro s hs h
    have hlt : s < steps := by omega
    have next := ih (s + 1) (by omega) h
    have g2 : ∀ L : Heap, (H ++ (.row 0 (gcells f) 0 true :: .row 0 (mcells fun _ => false) 0 true :: .row 0 (mcells (reachR f n x s)) 0 true :: L))[H.length + 2]? = some (.row 0 (mcells (reachR f n x s)) 0 true) := fun L => by simp [own_get]
    have g3 : ∀ (m : Nat → Bool), (H ++ [.row 0 (gcells f) 0 true, .row 0 (mcells fun _ => false) 0 true, .row 0 (mcells (reachR f n x s)) 0 true, .row 0 (mcells m) 0 true])[H.length + 3]? = some (.row 0 (mcells m) 0 true) := fun m => by simp [own_get]
    rw [wp_round c45_l2.eq_1]
    simp [go_sem, hlt, loadMM (g2 [])]
    rw [storeMM (g3 _) (by omega)]
    simp [go_sem, own_set]
    have e : H ++ [Blk.row 0 (gcells f) 0 true, .row 0 (mcells fun _ => false) 0 true, .row 0 (mcells (reachR f n x s)) 0 true, .row 0 (mcells (reachR f n x s)) 0 true]
        = (H ++ [Blk.row 0 (gcells f) 0 true, .row 0 (mcells fun _ => false) 0 true, .row 0 (mcells (reachR f n x s)) 0 true, .row 0 (mcells (reachR f n x s)) 0 true]).set (H.length + 3) (.row 0 (mcells (nextR f n (reachR f n x s) 0)) 0 true) := by rw [own_set, nextR_zero]; rfl
    rw [e]
    refine l45b (H := H ++ [Blk.row 0 (gcells f) 0 true, .row 0 (mcells fun _ => false) 0 true, .row 0 (mcells (reachR f n x s)) 0 true, .row 0 (mcells (reachR f n x s)) 0 true]) (f := f) (met := reachR f n x s) (cs := mcells (reachR f n x s)) (i4 := H.length) (i9 := H.length + 2) (i10 := H.length + 3) (by simp [own_get0]) (g2 _) (g3 _) (by omega) (by omega) hn (by omega) n 0 (by omega) ?_
    rw [own_set]
    simp [go_sem]
    have g3' := g3 (nextR f n (reachR f n x s) n)
    simp [go_sem, loadMM g3']
    rw [storeMM (g2 _) (by omega)]
    simp [go_sem, own_set, i64_suc (show s < 1000000 by omega)]
    exact next
theorem k45 {n x steps : Nat} {f : Nat → Nat → Bool} (hn : n ≤ 7) (hx : x < 7) (hst : steps < 1000) (hbar : bar ≤ H.length) (h : Q (.agg (mcells (reachR f n x steps))) H) :
    WpCall E pure base bar 45 [.agg (gcells f), .int .i64 (n : Nat), .int .i64 (x : Nat), .int .i64 (steps : Nat)] H Q := by
  rw [call45]
  have hb' := bar_ok (pure := pure) hbar
  simp [go_sem, WpFun, c45, frz_g] at hb' ⊢
  generalize (if pure = true then H.length else bar) = bar' at hb' ⊢
  have g2 : (H ++ [Blk.row 0 (gcells f) 0 true, .row 0 (mcells fun _ => false) 0 true, .row 0 (mcells fun _ => false) 0 true])[H.length + 2]? = some (.row 0 (mcells fun _ => false) 0 true) := by simp [own_get]
  simp [go_sem, hx]
  rw [storeM g2 hx (by omega)]
  have e0 : updB (fun _ => false) x true = reachR f n x 0 := by funext j; simp [updB, reachR]
  simp [go_sem, own_set, e0]
  refine l45 hn hst hb' steps 0 (by omega) ?_
  have g2' : (H ++ [Blk.row 0 (gcells f) 0 true, .row 0 (mcells fun _ => false) 0 true, .row 0 (mcells (reachR f n x steps)) 0 true])[H.length + 2]? = some (.row 0 (mcells (reachR f n x steps)) 0 true) := by simp [own_get]
  have g1' : (H ++ [Blk.row 0 (gcells f) 0 true, .row 0 (mcells fun _ => false) 0 true, .row 0 (mcells (reachR f n x steps)) 0 true])[H.length + 1]? = some (.row 0 (mcells fun _ => false) 0 true) := by simp [own_get]
  simp [go_sem, loadMM g2']
  rw [storeMM g1' (by omega)]
  have g1'' : (H ++ [Blk.row 0 (gcells f) 0 true, .row 0 (mcells (reachR f n x steps)) 0 true, .row 0 (mcells (reachR f n x steps)) 0 true])[H.length + 1]? = some (.row 0 (mcells (reachR f n x steps)) 0 true) := by simp [own_get]
  simp [go_sem, own_set, loadMM g1'']
  rw [plains (d := 5) mcells_plain]
  simp [go_sem]
  exact h
/-! what it says -/
theorem nextR_iff {f : Nat → Nat → Bool} {n j : Nat} {met : Nat → Bool} : nextR f n met n j = true ↔ met j = true ∨ j < n ∧ ∃ x, x < n ∧ met x = true ∧ f x j = true := by
  unfold nextR
  simp [List.any_eq_true, Bool.or_eq_true, Bool.and_eq_true]
section
variable {n x : Nat} {f : Nat → Nat → Bool} {w : Nat → Nat}
theorem reachR_mono {k j : Nat} (h : reachR f n x k j = true) : reachR f n x (k + 1) j = true := nextR_iff.2 (.inl h)
theorem reachR_sound (hw : ∀ x y, (w x).testBit y = f x y) : ∀ {k j : Nat}, reachR f n x k j = true → Rch w x j
  | 0, j, h => by
    simp [reachR] at h
    subst h; exact .refl
  | k + 1, j, h => by
    rcases nextR_iff.1 h with h | ⟨_, y, _, h1, h2⟩
    · exact reachR_sound hw h
    · exact .step (reachR_sound hw h1) (by rw [hw]; exact h2)
def closedR (f : Nat → Nat → Bool) (n x k : Nat) : Prop := ∀ a b, a < n → b < n → reachR f n x k a = true → f a b = true → reachR f n x k b = true
theorem closed_or (hx : x < n) : ∀ k, closedR f n x k ∨ k + 1 ≤ ((List.range n).filter (reachR f n x k)).length
  | 0 => .inr (List.length_pos_of_mem (a := x) (List.mem_filter.2 ⟨List.mem_range.2 hx, by simp [reachR]⟩))
  | k + 1 => by
    by_cases hc : closedR f n x k
    · left
      intro a b ha hb hr hf
      rcases nextR_iff.1 hr with hr | ⟨_, y, hy, h1, h2⟩
      · exact reachR_mono (hc a b ha hb hr hf)
      · exact reachR_mono (hc a b ha hb (hc y a hy ha h1 h2) hf)
    · right
      have hcount := (closed_or hx k).resolve_left hc
      have hex : ∃ b, b < n ∧ reachR f n x (k + 1) b = true ∧ reachR f n x k b = false := by
        apply Decidable.byContradiction
        intro hno
        refine hc fun a b ha hb hr hf => ?_
        cases hrb : reachR f n x k b
        · exact absurd ⟨b, hb, nextR_iff.2 (.inr ⟨hb, a, ha, hr, hf⟩), hrb⟩ hno
        · rfl
      obtain ⟨b, b1, b2, b3⟩ := hex
      have := sub_len (l := b :: (List.range n).filter (reachR f n x k)) (m := (List.range n).filter (reachR f n x (k + 1))) (by
        rw [List.nodup_cons]
        exact ⟨fun hm => (by rw [(List.mem_filter.1 hm).2] at b3; cases b3), List.nodup_range.filter _⟩) fun y hy => by
          rcases List.mem_cons.1 hy with rfl | hy
          · exact List.mem_filter.2 ⟨List.mem_range.2 b1, b2⟩
          · obtain ⟨h1, h2⟩ := List.mem_filter.1 hy
            exact List.mem_filter.2 ⟨h1, reachR_mono h2⟩
      rw [List.length_cons] at this
      omega
theorem reach_start : ∀ {k : Nat}, reachR f n x k x = true
  | 0 => by simp [reachR]
  | k + 1 => reachR_mono reach_start
theorem reach_all (hx : x < n) (hbd : BoardW n w) (hw : ∀ x y, (w x).testBit y = f x y) {j : Nat} : reachR f n x n j = true ↔ Rch w x j := by
  have hc : closedR f n x n := by
    rcases closed_or (f := f) hx n with h | h
    · exact h
    · have := List.length_filter_le (reachR f n x n) (List.range n)
      rw [List.length_range] at this
      omega
  refine ⟨reachR_sound hw, fun h => ?_⟩
  induction h with
  | refl => exact reach_start
  | step h1 h2 ih =>
    have hd := hbd.dom _ _ h2
    exact hc _ _ hd.1 hd.2 ih (by rw [← hw]; exact h2)
end
end Go.Proofs.Ytnlebofipoepfaa.Code
end
section
namespace Go.Proofs.Ytnlebofipoepfaa.Code
open Go Go.Ab
variable {base bar : Nat} {H : Heap}
def Fill (F f : Nat → Nat) (P : List Nat) : Prop := ∀ x ∈ P, f x = F x
theorem Fill.put {F f : Nat → Nat} {P : List Nat} {x i : Nat} (h : Fill F f P) (hx : F x = i) : Fill F (upd f x i) (P ++ [x]) := fun y hy => by
  unfold upd
  split
  · rename_i he; subst he; exact hx.symm
  · rename_i hne
    rcases List.mem_append.1 hy with hy | hy
    · exact h y hy
    · simp only [List.mem_singleton] at hy; exact absurd hy hne
end Go.Proofs.Ytnlebofipoepfaa.Code
end
section
namespace Go.Proofs.Ytnlebofipoepfaa.Code
open Go Go.Ab
variable {base bar : Nat} {H : Heap}
end Go.Proofs.Ytnlebofipoepfaa.Code
end
section
namespace Go.Proofs.Ytnlebofipoepfaa.Code
open Go Go.Ab
variable {pure : Bool} {base bar : Nat} {H : Heap} {Q : AV → Heap → Prop}
end Go.Proofs.Ytnlebofipoepfaa.Code
end
section
namespace Go.Proofs.Ytnlebofipoepfaa.Code
open Go Go.Ab
variable {pure : Bool} {base bar : Nat} {H : Heap} {Q : AV → Heap → Prop}
theorem eqWp_bool {neg a b : Bool} {K : AV → Heap → List Nat → Prop} : eqWp neg .bool (some (.bool a)) (some (.bool b)) H K = K (.bool (if neg then a != b else a == b)) H [] := by
  cases neg <;> cases a <;> cases b <;> rfl
/-! 55: has a list a number -/
theorem l85 {v : AV} {l : List Nat} {x : Nat} (hv : isL v l) (hl : l.length < 1000) {R : PQ} : ∀ (k i : Nat), i + k = l.length →
    (x ∈ l.drop i → ∀ j : Nat, R .ret [(4, .int .i64 (j : Nat))] H) →
    (x ∉ l.drop i → R (.exit 0) [(0, v), (1, .int .i64 (x : Nat)), (7, .int .i64 (l.length : Nat)), (8, .int .i64 (l.length : Nat)), (9, .bool false)] H) →
    Wp E base bar (.loop c85_l0) [(0, v), (1, .int .i64 (x : Nat)), (7, .int .i64 (l.length : Nat)), (8, .int .i64 (i : Nat))] H R := by
  intro k
  induction k with
  | zero =>
    intro i hi h1 h2
    obtain rfl : i = l.length := by omega
    rw [wp_round c85_l0.eq_1]
    simp [go_sem]
    exact h2 (by simp)
  | succ k ih =>
    intro i hi h1 h2
    have hlt : i < l.length := by omega
    rw [List.drop_eq_getElem_cons hlt, List.mem_cons] at h1 h2
    rw [wp_round c85_l0.eq_1]
    by_cases hx : x = l[i]
    · have := h1 (.inl hx) i
      simp [go_sem, hlt, hv.ix hlt, natEq, ← hx]
      exact this
    · have next := ih (i + 1) (by omega) (fun hm => h1 (.inr hm)) (fun hm => h2 (by rintro (h | h); exact hx h; exact hm h))
      simp [go_sem, hlt, hv.ix hlt, natEq, hx, i64_suc (show i < 1000000 by omega)]
      exact next
theorem k55 {v : AV} {l : List Nat} {x : Nat} (hv : isL v l) (hl : l.length < 1000) (h : Q (.bool (decide (x ∈ l))) H) : WpCall E pure base bar 55 [v, .int .i64 (x : Nat)] H Q := by
  rw [call55]
  simp [go_sem, WpFun, c55, hv.frz]
  rw [call85]
  simp [go_sem, WpFun, c85, hv.frz, hv.len]
  refine l85 (x := x) hv hl l.length 0 (by omega) (fun hm j => ?_) (fun hm => ?_)
  · rw [List.drop_zero] at hm
    rw [decide_eq_true hm] at h
    simp [go_sem]
    exact h
  · rw [List.drop_zero] at hm
    rw [decide_eq_false hm] at h
    simp [go_sem]
    exact h
/-! 54: are the first all met -/
def bools (l : List Bool) : List AV := l.map .bool
theorem l93 {ex : Bool} {l : List Bool} (hl : l.length < 1000) {R : PQ} : ∀ (k i : Nat), i + k = l.length →
    (false ∈ l.drop i → ∀ j : Nat, R .ret [(4, .int .i64 (j : Nat))] H) →
    (false ∉ l.drop i → R (.exit 0) [(0, .lst 1 ex (bools l)), (1, .bool false), (7, .int .i64 (l.length : Nat)), (8, .int .i64 (l.length : Nat)), (9, .bool false)] H) →
    Wp E base bar (.loop c93_l0) [(0, .lst 1 ex (bools l)), (1, .bool false), (7, .int .i64 (l.length : Nat)), (8, .int .i64 (i : Nat))] H R := by
  intro k
  induction k with
  | zero =>
    intro i hi h1 h2
    obtain rfl : i = l.length := by omega
    rw [wp_round c93_l0.eq_1]
    simp [go_sem]
    exact h2 (by simp)
  | succ k ih =>
    intro i hi h1 h2
    have hlt : i < l.length := by omega
    have hget : (bools l)[i]? = some (.bool l[i]) := by simp [bools, List.getElem?_eq_getElem hlt]
    have hld : ∀ b : Bool, aload H ⟨false, 1⟩ (.fp (.bool b)) = some (.bool b) := fun b => rfl
    rw [List.drop_eq_getElem_cons hlt, List.mem_cons] at h1 h2
    rw [wp_round c93_l0.eq_1]
    cases hx : l[i]
    · have := h1 (.inl hx.symm) i
      simp [go_sem, hlt, hget, hx, valWp_some, hld, eqWp_bool]
      exact this
    · have next := ih (i + 1) (by omega) (fun hm => h1 (.inr hm)) (fun hm => h2 (by rintro (h | h); rw [hx] at h; cases h; exact hm h))
      simp [go_sem, hlt, hget, hx, valWp_some, hld, eqWp_bool, i64_suc (show i < 1000000 by omega)]
      exact next
theorem k84 {ex : Bool} {l : List Bool} (hl : l.length < 1000) (h : Q (.bool (decide (false ∈ l))) H) : WpCall E pure base bar 84 [.lst 1 ex (bools l), .bool false] H Q := by
  rw [call84]
  have hbl : (bools l).length = l.length := by simp [bools]
  simp [go_sem, WpFun, c84]
  rw [call93]
  simp [go_sem, WpFun, c93, hbl]
  refine l93 hl l.length 0 (by omega) (fun hm j => ?_) (fun hm => ?_)
  · rw [List.drop_zero] at hm
    rw [decide_eq_true hm] at h
    simp [go_sem]
    exact h
  · rw [List.drop_zero] at hm
    rw [decide_eq_false hm] at h
    simp [go_sem]
    exact h
theorem sliceM {id ver fz : Nat} {m : Nat → Bool} (hid : H[id]? = some (.row ver (mcells m) fz true)) {n : Nat} (hn : n ≤ 7) :
    aslice H (.arr 7 1) (.ptr id ver 0) none (some (.int .i64 (n : Int))) none = some (.vec id ver 0 n 1) := by
  simp [aslice, hid, mcells_length, optBound, bound1, AV.asNat, hn]
theorem frz_first {pure : Bool} {base bar : Nat} {fn : FuncId} {c : AFun} {args args' : List AV} {H H' : Heap} {Q : AV → Heap → Prop}
    (hc : ∀ {args : List AV} {H : Heap}, WpCall E pure base bar fn args H Q ↔ frzWp E pure base bar c Q (frzAll bar H args)) (h1 : frzAll bar H args = some (args', H')) (h2 : frzAll bar H' args' = some (args', H')) (h : WpCall E pure base bar fn args' H' Q) : WpCall E pure base bar fn args H Q := by
  rw [hc, h1]; rw [hc, h2] at h; exact h
theorem k54 {n : Nat} {m : Nat → Bool} (hn : n ≤ 7) (hbar : bar ≤ H.length) (h : Q (.bool ((List.range n).all m)) H) : WpCall E pure base bar 54 [.agg (mcells m), .int .i64 (n : Nat)] H Q := by
  rw [call54]
  have hb' := bar_ok (pure := pure) hbar
  have hid : (H ++ [Blk.row 0 (mcells m) 0 true])[H.length]? = some (.row 0 (mcells m) 0 true) := by simp [own_get0]
  have hcut : (mcells m).take n = bools ((List.range n).map m) := by
    unfold mcells bools
    rw [List.map_map, ← List.map_take, List.take_range, Nat.min_eq_left hn]
    rfl
  simp [go_sem, WpFun, c54, frz_m, aop, Opd.evo, sliceM hid hn] at hb' ⊢
  generalize (if pure = true then H.length else bar) = bar' at hb' ⊢
  have fz := frz_vec (d := 7) (bar := bar') (H := H ++ [Blk.row 0 (mcells m) 0 true]) (id := H.length) (ver := 0) (off := 0) (len := n) (sz := 1) (cs := mcells m) (fz := 0) (ex := true) (xs := bools ((List.range n).map m))
      (H' := (H ++ [Blk.row 0 (mcells m) 0 true]).set H.length (.row 0 (mcells m) (max 0 (0 + n * 1)) true)) hid (by rw [mcells_length]; omega) hb' (by
        rw [List.drop_zero, Nat.mul_one, hcut, plains (d := 5) (fun c hc => by
          simp only [bools, List.mem_map] at hc
          obtain ⟨a, _, rfl⟩ := hc
          exact Plain.bool)])
  have hch : chunks 1 n (bools ((List.range n).map m)) = bools ((List.range n).map m) := by
    have := chunks_one (l := bools ((List.range n).map m))
    have e : (bools ((List.range n).map m)).length = n := by simp [bools]
    rw [e] at this; exact this
  rw [hch] at fz
  refine frz_first call84 (args' := [.lst 1 false (bools ((List.range n).map m)), .bool false]) (by simp [go_sem, fz]; rfl) (by simp [go_sem]) ?_
  refine k84 (by simp; omega) ?_
  have e : decide (false ∈ (List.range n).map m) = !(List.range n).all m := by
    rw [Bool.eq_iff_iff]
    simp
  rw [e]
  simp [go_sem, own_set0]
  exact h
/-! a list that is still owned -/
def Wv (l : List Nat) (v : AV) (H : Heap) : Prop := (l = [] ∧ v = .nils) ∨ ∃ id ver fz, l ≠ [] ∧ v = .vec id ver 0 l.length 1 ∧ H[id]? = some (.row ver (nats l) fz false)
theorem Wv.len {l : List Nat} {v : AV} (h : Wv l v H) {K : AV → Heap → List Nat → Prop} : lenWp (some v) H K = K (.int .i64 (l.length : Int)) H [] := by
  rcases h with ⟨rfl, rfl⟩ | ⟨id, ver, fz, h1, rfl, h2⟩ <;> rfl
theorem Wv.frz {l : List Nat} {v : AV} (h : Wv l v H) : ∃ v' H', frz 8 0 H v = some (v', H') ∧ isL v' l ∧ Wv l v H' := by
  rcases h with ⟨rfl, rfl⟩ | ⟨id, ver, fz, h1, rfl, h2⟩
  · exact ⟨.nils, H, rfl, .nil, .inl ⟨rfl, rfl⟩⟩
  · have e := frz_vec (d := 7) (bar := 0) (H := H) (id := id) (ver := ver) (off := 0) (len := l.length) (sz := 1) (cs := nats l) (fz := fz) (ex := false) (xs := nats l)
      (H' := H.set id (.row ver (nats l) (max fz (0 + l.length * 1)) false)) h2 (by rw [nats_length]; omega) (Nat.zero_le _) (by
        rw [List.drop_zero, List.take_of_length_le (by rw [nats_length]; omega), plains nats_plain])
    have hch : chunks 1 l.length (nats l) = nats l := by
      have := chunks_one (l := nats l)
      rw [nats_length] at this; exact this
    rw [hch] at e
    exact ⟨_, _, e, .lst (ex := false), .inr ⟨id, ver, max fz (0 + l.length * 1), h1, rfl, set_get h2⟩⟩
theorem Wv.ix {l : List Nat} {v : AV} (h : Wv l v H) {i : Nat} (hi : i < l.length) : ∃ p, (∀ K : AV → Heap → List Nat → Prop, ixaSWp 1 (some v) (some (.int .i64 (i : Int))) H K = K p H []) ∧ aload H ⟨false, 1⟩ p = some (.int .i64 ((l[i] : Nat) : Int)) := by
  rcases h with ⟨rfl, rfl⟩ | ⟨id, ver, fz, h1, rfl, h2⟩
  · simp at hi
  · refine ⟨.ptr id ver i, fun K => ?_, ?_⟩
    · simp [ixaSWp_vec, hi]
    · rw [aload_ptr h2, part_one, nats_get hi]
end Go.Proofs.Ytnlebofipoepfaa.Code
end
section
namespace Go.Proofs.Ytnlebofipoepfaa.Code
open Go Go.Ab
/-! who reaches all in two steps -/
end Go.Proofs.Ytnlebofipoepfaa.Code
end
section
namespace Go.Proofs.Ytnlebofipoepfaa.Code
open Go Go.Ab
variable {base bar : Nat} {H : Heap}
end Go.Proofs.Ytnlebofipoepfaa.Code
end
section
namespace Go.Proofs.Ytnlebofipoepfaa.Code
open Go Go.Ab
end Go.Proofs.Ytnlebofipoepfaa.Code
end
section
namespace Go.Proofs.Ytnlebofipoepfaa.Code
open Go Go.Ab
variable {pure : Bool} {base bar : Nat} {H : Heap} {Q : AV → Heap → Prop}
/-! 66: who beat whom, asked of a board -/
theorem k66 {id ver n x y fz : Nat} {ex : Bool} {w : Nat → Nat} (hid : H[id]? = some (.row ver (bcells n w) fz ex)) (hw : ∀ x, w x < 256) (hx : x < 7) :
    WpCall E pure base bar 66 [.ptr id ver 0, .int .i64 (x : Nat), .int .i64 (y : Nat)] H Q ↔ Q (.bool ((w x).testBit y)) H := by
  rw [call66]
  simp [go_sem, WpFun, c66, loadB hid hx, k65 (hw x), hx]
/-! steps at the front -/
theorem reachR_le {f : Nat → Nat → Bool} {n x j : Nat} : ∀ {m k : Nat}, reachR f n x k j = true → k ≤ m → reachR f n x m j = true
  | 0, k, h, hk => by obtain rfl : k = 0 := by omega
                      exact h
  | m + 1, k, h, hk => by
    by_cases e : k = m + 1
    · subst e; exact h
    · exact reachR_mono (reachR_le (m := m) h (by omega))
theorem reach_front {f : Nat → Nat → Bool} {n z : Nat} (hd : ∀ x y, f x y = true → x < n ∧ y < n) (hz : z < n) : ∀ {k y : Nat}, reachR f n z (k + 1) y = true ↔ reachR f n z k y = true ∨ ∃ u, u < n ∧ f z u = true ∧ reachR f n u k y = true
  | 0, y => by
    show nextR f n (reachR f n z 0) n y = true ↔ _
    rw [nextR_iff]
    simp only [reachR, decide_eq_true_eq]
    constructor
    · rintro (h | ⟨h1, x, h2, rfl, h3⟩)
      · exact .inl h
      · exact .inr ⟨y, h1, h3, rfl⟩
    · rintro (h | ⟨u, h1, h2, rfl⟩)
      · exact .inl h
      · exact .inr ⟨h1, z, hz, rfl, h2⟩
  | k + 1, y => by
    show nextR f n (reachR f n z (k + 1)) n y = true ↔ _
    rw [nextR_iff]
    constructor
    · rintro (h | ⟨h1, x, h2, h3, h4⟩)
      · exact .inl h
      · rcases (reach_front hd hz).1 h3 with h | ⟨u, u1, u2, u3⟩
        · exact .inl (nextR_iff.2 (.inr ⟨h1, x, h2, h, h4⟩))
        · exact .inr ⟨u, u1, u2, nextR_iff.2 (.inr ⟨h1, x, h2, u3, h4⟩)⟩
    · rintro (h | ⟨u, u1, u2, u3⟩)
      · exact .inl h
      · rcases nextR_iff.1 u3 with h | ⟨h1, x, h2, h3, h4⟩
        · exact .inl ((reach_front hd hz).2 (.inr ⟨u, u1, u2, h⟩))
        · exact .inr ⟨h1, x, h2, (reach_front hd hz).2 (.inr ⟨u, u1, u2, h3⟩), h4⟩
/-- so many steps, and no fewer -/
def isLv (f : Nat → Nat → Bool) (n y z d : Nat) : Prop := reachR f n z d y = true ∧ ∀ j, j < d → reachR f n z j y = false
theorem isLv.le {f : Nat → Nat → Bool} {n y z a b : Nat} (h1 : isLv f n y z a) (h2 : reachR f n z b y = true) : a ≤ b := by
  apply Nat.le_of_not_lt
  intro h
  rw [h1.2 b h] at h2; cases h2
/-- one that is beaten and from whom chains lead in one step less -/
theorem isLv.pred {f : Nat → Nat → Bool} {n y z d u : Nat} (hd : ∀ x y, f x y = true → x < n ∧ y < n) (hz : z < n) (h : isLv f n y z (d + 1)) (hf : f z u = true) (hu : reachR f n u d y = true) : isLv f n y u d :=
  ⟨hu, fun j hj => by
    cases hr : reachR f n u j y
    · rfl
    · have := (reach_front hd hz).2 (.inr ⟨u, (hd _ _ hf).2, hf, hr⟩)
      rw [h.2 (j + 1) (by omega)] at this; cases this⟩
theorem isLv.next {f : Nat → Nat → Bool} {n y z d : Nat} (hd : ∀ x y, f x y = true → x < n ∧ y < n) (hz : z < n) (h : isLv f n y z (d + 1)) : ∃ u, u < n ∧ f z u = true ∧ isLv f n y u d := by
  rcases (reach_front hd hz).1 h.1 with h1 | ⟨u, u1, u2, u3⟩
  · rw [h.2 d (by omega)] at h1; cases h1
  · exact ⟨u, u1, u2, h.pred hd hz u2 u3⟩
/-- those from whom at most k steps lead to y, with their numbers of steps -/
structure Known (f : Nat → Nat → Bool) (n y k s : Nat) (lv : Nat → Nat) : Prop where
  lt : s < 128
  bit : ∀ z, s.testBit z = true ↔ z < n ∧ reachR f n z k y = true
  lev : ∀ z, s.testBit z = true → isLv f n y z (lv z)
def newB (s : Nat) (w : Nat → Nat) (b z : Nat) : Bool := decide (z < b) && (!s.testBit z && !decide (band (w z) s = 0))
theorem band_meet {a s : Nat} : band a s ≠ 0 ↔ ∃ u, a.testBit u = true ∧ s.testBit u = true := by
  constructor
  · intro h
    obtain ⟨u, hu⟩ := Nat.exists_testBit_of_ne_zero h
    rw [testBit_band, Bool.and_eq_true] at hu
    exact ⟨u, hu⟩
  · rintro ⟨u, h1, h2⟩ hc
    have := congrArg (fun m => m.testBit u) hc
    simp only [testBit_band, h1, h2, Nat.zero_testBit] at this; cases this
section
variable {f : Nat → Nat → Bool} {w : Nat → Nat} {n y : Nat}
theorem Known.next {k s nx : Nat} {lv lv' : Nat → Nat} (hd : ∀ x y, f x y = true → x < n ∧ y < n) (hw : ∀ x y, (w x).testBit y = f x y) (h : Known f n y k s lv) (hn : nx < 128)
    (hb : ∀ z, nx.testBit z = (s.testBit z || newB s w n z)) (hl : ∀ z, lv' z = if newB s w n z = true then k + 1 else lv z) : Known f n y (k + 1) nx lv' := by
  have key : ∀ z, newB s w n z = true ↔ z < n ∧ reachR f n z k y = false ∧ ∃ u, u < n ∧ f z u = true ∧ reachR f n u k y = true := fun z => by
    unfold newB
    rw [Bool.and_eq_true, Bool.and_eq_true, decide_eq_true_eq, Bool.not_eq_true', Bool.not_eq_true', decide_eq_false_iff_not]
    constructor
    · rintro ⟨h1, h2, h3⟩
      obtain ⟨u, u1, u2⟩ := band_meet.1 h3
      obtain ⟨u3, u4⟩ := (h.bit u).1 u2
      refine ⟨h1, ?_, u, u3, by rw [← hw]; exact u1, u4⟩
      cases hr : reachR f n z k y
      · rfl
      · rw [(h.bit z).2 ⟨h1, hr⟩] at h2; cases h2
    · rintro ⟨h1, h2, u, u1, u2, u3⟩
      refine ⟨h1, ?_, band_meet.2 ⟨u, by rw [hw]; exact u2, (h.bit u).2 ⟨u1, u3⟩⟩⟩
      cases hs : s.testBit z
      · rfl
      · rw [((h.bit z).1 hs).2] at h2; cases h2
  have hbit : ∀ z, nx.testBit z = true ↔ z < n ∧ reachR f n z (k + 1) y = true := fun z => by
    rw [hb, Bool.or_eq_true, h.bit, key]
    constructor
    · rintro (⟨h1, h2⟩ | ⟨h1, h2, h3⟩)
      · exact ⟨h1, reachR_mono h2⟩
      · exact ⟨h1, (reach_front hd h1).2 (.inr h3)⟩
    · rintro ⟨h1, h2⟩
      cases hr : reachR f n z k y
      · rcases (reach_front hd h1).1 h2 with h3 | h3
        · rw [hr] at h3; cases h3
        · exact .inr ⟨h1, rfl, h3⟩
      · exact .inl ⟨h1, rfl⟩
  refine ⟨hn, hbit, fun z hz => ?_⟩
  rw [hl]
  split
  · rename_i hk
    obtain ⟨k1, k2, _⟩ := (key z).1 hk
    refine ⟨((hbit z).1 hz).2, fun j hj => ?_⟩
    cases hr : reachR f n z j y
    · rfl
    · rw [reachR_le hr (by omega)] at k2; cases k2
  · rename_i hk
    refine h.lev z ?_
    rw [hb] at hz
    cases hs : s.testBit z
    · rw [hs, Bool.false_or] at hz; exact absurd hz hk
    · rfl
theorem Known.zero {lv : Nat → Nat} (hy : y < n) (hn : n ≤ 7) (hl : lv y = 0) : Known f n y 0 (pw y) lv := by
  refine ⟨Nat.pow_lt_pow_right (n := 7) (a := 2) (by decide) (by omega), fun z => ?_, fun z hz => ?_⟩
  · rw [testBit_pw]
    simp only [reachR, decide_eq_true_eq]
    omega
  · rw [testBit_pw, decide_eq_true_eq] at hz
    subst hz
    rw [hl]
    exact ⟨by simp [reachR], fun j hj => by omega⟩
end
/-! 25: a shortest chain -/
/-- what is known of a chain's beginning -/
structure ChainP (f : Nat → Nat → Bool) (n y x d : Nat) (L : List Nat) : Prop where
  ne : 0 < L.length
  first : L.getD 0 0 = x
  lv : ∀ i, i < L.length → i ≤ d ∧ isLv f n y (L.getD i 0) (d - i) ∧ L.getD i 0 < n
  beat : ∀ i, 0 < i → i < L.length → f (L.getD (i - 1) 0) (L.getD i 0) = true
  least : ∀ i, 0 < i → i < L.length → ∀ z, z < L.getD i 0 → f (L.getD (i - 1) 0) z = true → reachR f n z (d - i) y = false
theorem ChainP.one {f : Nat → Nat → Bool} {n y x d : Nat} (hx : x < n) (h : isLv f n y x d) : ChainP f n y x d [x] := by
  refine ⟨by simp, rfl, fun i hi => ?_, fun i h0 hi => by simp at hi; omega, fun i h0 hi => by simp at hi; omega⟩
  simp at hi; subst hi
  exact ⟨Nat.zero_le _, h, hx⟩
/-! a list under construction that began with a literal -/
def Gro (l : List Nat) (H0 : Heap) (v : AV) (H : Heap) : Prop := (l ≠ [] ∧ v = .lst 1 true (nats l) ∧ H = H0) ∨ Grow 1 (nats l) H0 v H
theorem nats_flat : ∀ (b : List Nat), (nats b).flatMap AV.cells = nats b := fun b => by
  induction b with
  | nil => rfl
  | cons x r ih => simp only [nats, List.map_cons, List.flatMap_cons, AV.cells] at ih ⊢; rw [ih]; rfl
theorem Gro.nat {bytes : Nat} {l : List Nat} {H0 : Heap} {v : AV} {ex : Bool} {x : Nat} {K : AV → Heap → List Nat → Prop} (g : Gro l H0 v H) (hb : bar ≤ H0.length) (hbase : base ≤ H0.length)
    (hlen : (l.length + 1) * bytes ≤ 140737488355328)
    (h : ∀ v' H' tc, Gro (l ++ [x]) H0 v' H' → K v' H' tc) : appWp base bar 1 bytes (some v) (some (.lst 1 ex [.int .i64 (x : Int)])) H K := by
  rcases g with ⟨hne, rfl, rfl⟩ | g
  · have hp : ∀ c ∈ [AV.int .i64 (x : Int)], Plain c := fun c hc => by simp at hc; subst hc; exact Plain.int
    have e : [AV.int .i64 (x : Int)].flatMap AV.cells = [AV.int .i64 (x : Int)] := rfl
    simp only [appWp, asrc_lst, frzAll, frz.frzs, e]
    rw [plains (d := 6) hp]
    simp only [AV.noVec.noVecs, AV.noVec, Bool.and_true, if_true]
    rw [if_neg (by simp)]
    simp only [aappend]
    rw [if_neg (by simp), if_neg (by simp)]
    have hl2 : ((nats l).length + [AV.int .i64 (x : Int)].length / 1) * bytes ≤ 140737488355328 := by simpa [nats_length] using hlen
    rw [if_pos ⟨trivial, hl2⟩]
    simp only
    refine h _ _ _ (.inr (.inr ⟨0, 0, by simp [nats_eq_nil], Nat.zero_le _, ?_, ?_⟩))
    · simp [nats_length]
    · rw [nats_flat, nats_append, nats_one]
  · exact g.nat hb hbase hlen fun v' H' tc g' => h v' H' tc (.inr g')
theorem Gro.frz {l : List Nat} {H0 : Heap} {v : AV} (g : Gro l H0 v H) (hb : bar ≤ H0.length) : ∃ q H', frz 8 bar H v = some (q, H') ∧ isL q l ∧ H'.take H0.length = H0 := by
  rcases g with ⟨hne, rfl, rfl⟩ | g
  · refine ⟨_, _, ?_, isL.lst (ex := true), List.take_length⟩
    exact (isL.lst (ex := true) (l := l)).frz
  · obtain ⟨H', h1, h2, h3, h4⟩ := g.frz (d := 5) (bar := bar) (by omega) (Nat.one_dvd _) nats_plain hb
    exact ⟨_, H', h1, isL.out, h4⟩
theorem Gro.get {l : List Nat} {H0 : Heap} {v : AV} (g : Gro l H0 v H) {i : Nat} {b : Blk} (h : H0[i]? = some b) : H[i]? = some b := by
  rcases g with ⟨_, _, rfl⟩ | g
  · exact h
  · exact g.get h
theorem Gro.len {l : List Nat} {H0 : Heap} {v : AV} (g : Gro l H0 v H) : H0.length ≤ H.length := by
  rcases g with ⟨_, _, rfl⟩ | g
  · exact Nat.le_refl _
  · exact g.len
end Go.Proofs.Ytnlebofipoepfaa.Code
end
section
namespace Go.Proofs.Ytnlebofipoepfaa.Code
open Go Go.Ab
variable {pure : Bool} {base bar : Nat} {H : Heap} {Q : AV → Heap → Prop}
end Go.Proofs.Ytnlebofipoepfaa.Code
end
section
namespace Go.Proofs.Ytnlebofipoepfaa.Code
open Go Go.Ab
variable {pure : Bool} {base bar : Nat} {H : Heap} {Q : AV → Heap → Prop}
end Go.Proofs.Ytnlebofipoepfaa.Code
end
section
namespace Go.Proofs.Ytnlebofipoepfaa.Code
open Go Go.Ab
variable {base bar : Nat} {H : Heap}
end Go.Proofs.Ytnlebofipoepfaa.Code
end
section
namespace Go.Proofs.Ytnlebofipoepfaa.Code
open Go Go.Ab
variable {pure : Bool} {base bar : Nat} {H : Heap} {Q : AV → Heap → Prop}
/-! a contest without an error, in general -/
structure OkC (n : Nat) (l : List ZZ) : Prop where
  le : n ≤ 7
  pos : 1 ≤ n
  check : checkS (n : Int) l = 0
theorem MadeC.ok {n bits : Nat} {l : List ZZ} {f : Nat → Nat → Bool} (h : MadeC n bits l f) : OkC n l := ⟨h.le, h.pos, h.check⟩
theorem OkC.chk {n : Nat} {l : List ZZ} (h : OkC n l) : chkF (n : Int) [] l = 0 := by
  have hc := h.check
  unfold checkS at hc
  split at hc
  · split at hc
    · assumption
    · exact hc
  · cases hc
theorem OkC.len {n : Nat} {l : List ZZ} (h : OkC n l) : halfN n ≤ l.length := by
  have hc := h.check
  unfold checkS at hc
  have hk := h.chk
  split at hc
  · split at hc
    · cases hc
    · rename_i g; simpa using g
  · cases hc
def codeP (p : ZZ) : Nat := tri (max p.1.toNat p.2.toNat) + min p.1.toNat p.2.toNat
theorem tri_mono {a b : Nat} (h : a ≤ b) : tri a ≤ tri b := by
  induction b with
  | zero => obtain rfl : a = 0 := by omega
            exact Nat.le_refl _
  | succ b ih =>
    by_cases e : a = b + 1
    · subst e; exact Nat.le_refl _
    · have := ih (by omega)
      simp only [tri]; omega
theorem tri_inj {a b c d : Nat} (hb : b < a) (hd : d < c) (h : tri a + b = tri c + d) : a = c ∧ b = d := by
  rcases Nat.lt_trichotomy a c with hl | hl | hl
  · have := tri_mono (show a + 1 ≤ c by omega)
    simp only [tri] at this; omega
  · subst hl; exact ⟨rfl, by omega⟩
  · have := tri_mono (show c + 1 ≤ a by omega)
    simp only [tri] at this; omega
theorem chkF_new {n : Int} : ∀ {l b : List ZZ}, chkF n b l = 0 → ∀ p ∈ l, qin b p.1 p.2 = false
  | [], _, _, p, hp => by simp at hp
  | o :: r, b, h, p, hp => by
    simp only [chkF] at h
    split at h
    · cases h
    split at h
    · cases h
    split at h
    · cases h
    rename_i g
    rcases List.mem_cons.1 hp with rfl | hp
    · simpa using g
    · have := chkF_new h p hp
      rw [qin, List.any_append, Bool.or_eq_false_iff] at this
      exact this.1
theorem chkF_codes {n : Int} : ∀ {l b : List ZZ}, chkF n b l = 0 → (l.map codeP).Nodup
  | [], _, _ => List.nodup_nil
  | o :: r, b, h => by
    have hv := chkF_valid h o (List.mem_cons_self ..)
    have hvr := fun p hp => chkF_valid h p (List.mem_cons_of_mem _ hp)
    simp only [chkF] at h
    split at h
    · cases h
    split at h
    · cases h
    split at h
    · cases h
    rw [List.map_cons, List.nodup_cons]
    refine ⟨fun hm => ?_, chkF_codes h⟩
    obtain ⟨p, hp, he⟩ := List.mem_map.1 hm
    have hn := chkF_new h p hp
    have hvp := hvr p hp
    rw [qin, List.any_append, Bool.or_eq_false_iff] at hn
    have h2 := hn.2
    simp only [List.any_cons, List.any_nil, Bool.or_false, Bool.or_eq_false_iff, Bool.and_eq_false_iff, beq_eq_false_iff_ne] at h2
    unfold codeP at he
    have := tri_inj (by omega) (by omega) he
    omega
theorem codeP_lt {n : Nat} {p : ZZ} (h : 0 ≤ p.1 ∧ 0 ≤ p.2 ∧ p.1 < (n : Int) ∧ p.2 < (n : Int) ∧ p.1 ≠ p.2) : codeP p < tri n := by
  unfold codeP
  have := tri_mono (show max p.1.toNat p.2.toNat + 1 ≤ n by omega)
  simp only [tri] at this
  omega
/-- no two met twice, and there are enough meetings: so all have met -/
theorem met_all {n : Nat} {l : List ZZ} (hc : chkF (n : Int) [] l = 0) (hl : tri n ≤ l.length) {x y : Nat} (hx : x < n) (hyx : y < x) : ((x : Int), (y : Int)) ∈ l ∨ ((y : Int), (x : Int)) ∈ l := by
  apply Decidable.byContradiction
  intro hno
  rw [not_or] at hno
  have hv := chkF_valid hc
  have hnd := chkF_codes hc
  have hnc : tri x + y ∉ l.map codeP := fun hm => by
    obtain ⟨⟨a, b⟩, hp, he⟩ := List.mem_map.1 hm
    have h1 := hv _ hp
    simp only at h1
    obtain ⟨a, rfl⟩ := Int.eq_ofNat_of_zero_le h1.1
    obtain ⟨b, rfl⟩ := Int.eq_ofNat_of_zero_le h1.2.1
    unfold codeP at he
    simp only [Int.toNat_natCast] at he
    obtain ⟨e1, e2⟩ := tri_inj (by omega) hyx he
    by_cases hab : a ≤ b
    · obtain rfl : b = x := by omega
      obtain rfl : a = y := by omega
      exact hno.2 hp
    · obtain rfl : a = x := by omega
      obtain rfl : b = y := by omega
      exact hno.1 hp
  have hxy : tri x + y < tri n := by
    have := tri_mono (show x + 1 ≤ n by omega)
    simp only [tri] at this; omega
  have := sub_len (l := (tri x + y) :: l.map codeP) (m := List.range (tri n)) (List.nodup_cons.2 ⟨hnc, hnd⟩) fun c hcm => by
    rcases List.mem_cons.1 hcm with rfl | hcm
    · exact List.mem_range.2 hxy
    · obtain ⟨p, hp, rfl⟩ := List.mem_map.1 hcm
      exact List.mem_range.2 (codeP_lt (hv p hp))
  rw [List.length_cons, List.length_map, List.length_range] at this
  omega
theorem not_both {n : Int} : ∀ {l b : List ZZ}, chkF n b l = 0 → ∀ x y, (x, y) ∈ l → (y, x) ∈ l → False
  | [], _, _, x, y, h, _ => by simp at h
  | o :: r, b, h, x, y, h1, h2 => by
    have hv := chkF_valid h
    have hne := (hv _ h1).2.2.2.2
    simp only at hne
    simp only [chkF] at h
    split at h
    · cases h
    split at h
    · cases h
    split at h
    · cases h
    rcases List.mem_cons.1 h1 with rfl | g1
    · rcases List.mem_cons.1 h2 with h2 | h2
      · cases h2; exact hne rfl
      · have hn := chkF_new h _ h2
        rw [qin, List.any_append, Bool.or_eq_false_iff] at hn
        have h3 := hn.2
        simp [List.any_cons] at h3
    · rcases List.mem_cons.1 h2 with h2 | g2
      · subst h2
        have hn := chkF_new h _ g1
        rw [qin, List.any_append, Bool.or_eq_false_iff] at hn
        have h3 := hn.2
        simp [List.any_cons] at h3
      · exact not_both h x y g1 g2
theorem boardF_lt : ∀ (r : List ZZ) (w : Nat → Nat), (∀ x, w x < 256) → (∀ p ∈ r, p.2.toNat < 8) → ∀ x, boardF r w x < 256
  | [], w, hw, _ => hw
  | p :: r, w, hw, hp => boardF_lt r (winW w p) (winW_lt hw (hp p (List.mem_cons_self ..))) fun q hq => hp q (List.mem_cons_of_mem _ hq)
/-- whom each one beat -/
def bitL (l : List ZZ) (x y : Nat) : Bool := l.any fun p => p.1 == (x : Int) && p.2 == (y : Int)
theorem bitL_iff {l : List ZZ} {x y : Nat} : bitL l x y = true ↔ ((x : Int), (y : Int)) ∈ l := by
  unfold bitL
  rw [List.any_eq_true]
  constructor
  · rintro ⟨⟨a, b⟩, h1, h2⟩
    simp at h2
    obtain ⟨rfl, rfl⟩ := h2; exact h1
  · exact fun h => ⟨_, h, by simp⟩
theorem OkC.board {n : Nat} {l : List ZZ} (h : OkC n l) : BoardW n (boardF l fun _ => 0) ∧ ∀ x y, (boardF l (fun _ => 0) x).testBit y = bitL l x y := by
  have hv := chkF_valid h.chk
  have hle := h.le
  have hl := h.len
  have ht := tri_half n hle
  have hb : ∀ x y, (boardF l (fun _ => 0) x).testBit y = true ↔ ((x : Int), (y : Int)) ∈ l := fun x y => by
    rw [boardF_bit fun p hp => by have := hv p hp; exact ⟨this.1, this.2.1⟩]
    simp
  have hdom : ∀ x y : Nat, ((x : Int), (y : Int)) ∈ l → x < n ∧ y < n ∧ x ≠ y := fun x y hm => by
    have := hv _ hm
    simp only at this; omega
  refine ⟨⟨hle, boardF_lt l _ (fun _ => by decide) fun p hp => by have := hv p hp; omega, fun x y hxy => ?_, fun x => ?_, fun x y hx hy hne => ?_⟩, fun x y => by rw [Bool.eq_iff_iff, hb, bitL_iff]⟩
  · have := hdom x y ((hb x y).1 hxy); exact ⟨this.1, this.2.1⟩
  · cases hx : (boardF l (fun _ => 0) x).testBit x
    · rfl
    · exact absurd rfl (hdom x x ((hb x x).1 hx)).2.2
  · have hall : ((x : Int), (y : Int)) ∈ l ∨ ((y : Int), (x : Int)) ∈ l := by
      rcases Nat.lt_or_ge y x with hlt | hge
      · exact met_all h.chk (by omega) hx hlt
      · exact (met_all h.chk (by omega) hy (show x < y by omega)).symm
    cases h1 : (boardF l (fun _ => 0) x).testBit y
    · cases h2 : (boardF l (fun _ => 0) y).testBit x
      · exfalso
        rcases hall with hm | hm
        · rw [(hb x y).2 hm] at h1; cases h1
        · rw [(hb y x).2 hm] at h2; cases h2
      · rfl
    · cases h2 : (boardF l (fun _ => 0) y).testBit x
      · rfl
      · exact (not_both h.chk _ _ ((hb x y).1 h1) ((hb y x).1 h2)).elim
end Go.Proofs.Ytnlebofipoepfaa.Code
end
section
namespace Go.Proofs.Ytnlebofipoepfaa.Code
open Go Go.Ab
variable {pure : Bool} {base bar : Nat} {H : Heap} {Q : AV → Heap → Prop}
/-! a function's own copy of a contest -/
def HI (H : Heap) (n : Int) (q : AV) : Heap := H ++ [.row 0 [.int .i64 n, q] 0 true]
theorem HI_len {n : Int} {q : AV} : (HI H n q).length = H.length + 1 := by simp [HI]
theorem HI_get {n : Int} {q : AV} : (HI H n q)[H.length]? = some (.row 0 [.int .i64 n, q] 0 true) := by simp [HI, own_get0]
theorem HI_h {n : Int} {q : AV} : aload (HI H n q) ⟨true, 2⟩ (.ptr H.length 0 0) = some (.agg [.int .i64 n, q]) := by rw [aload_ptr HI_get]; rfl
end Go.Proofs.Ytnlebofipoepfaa.Code
end
section
namespace Go.Proofs.Ytnlebofipoepfaa.Code
open Go Go.Ab
variable {pure : Bool} {base bar : Nat} {H : Heap} {Q : AV → Heap → Prop}
end Go.Proofs.Ytnlebofipoepfaa.Code
end
section
namespace Go.Proofs.Ytnlebofipoepfaa.Code
open Go Go.Ab
variable {pure : Bool} {base bar : Nat} {H : Heap} {Q : AV → Heap → Prop}
/-! 86: all chains of so many steps more -/
def lastN (s : List Nat) : Nat := s.getD (s.length - 1) 0
/-- what a call found, and its own copy of the contest, are as they were -/
def Pre (H : Heap) (n : Int) (q : AV) (Hc : Heap) : Prop := H.length + 1 ≤ Hc.length ∧ ∀ j, j < H.length + 1 → Hc[j]? = (HI H n q)[j]?
theorem Pre.refl {n : Int} {q : AV} : Pre H n q (HI H n q) := ⟨by rw [HI_len]; omega, fun _ _ => rfl⟩
theorem Pre.get {n : Int} {q : AV} {Hc : Heap} (h : Pre H n q Hc) : Hc[H.length]? = some (.row 0 [.int .i64 n, q] 0 true) := by
  rw [h.2 _ (by omega), HI_get]
theorem Pre.n {n : Int} {q : AV} {Hc : Heap} (h : Pre H n q Hc) {s : Nat} : aload Hc ⟨false, s⟩ (.ptr H.length 0 0) = some (.int .i64 n) := by rw [aload_ptr h.get]; rfl
theorem Pre.q {n : Int} {q : AV} {Hc : Heap} (h : Pre H n q Hc) {s : Nat} : aload Hc ⟨false, s⟩ (.ptr H.length 0 1) = some q := by rw [aload_ptr h.get]; rfl
theorem Pre.h {n : Int} {q : AV} {Hc : Heap} (h : Pre H n q Hc) : aload Hc ⟨true, 2⟩ (.ptr H.length 0 0) = some (.agg [.int .i64 n, q]) := by rw [aload_ptr h.get]; rfl
theorem Pre.take {n : Int} {q : AV} {Hc : Heap} (h : Pre H n q Hc) : Hc.take H.length = H := by
  apply List.ext_getElem?
  intro j
  rw [List.getElem?_take]
  by_cases hj : j < H.length
  · rw [if_pos hj, h.2 j (by omega)]
    simp [HI, List.getElem?_append_left hj]
  · rw [if_neg hj, List.getElem?_eq_none (by omega)]
theorem Pre.next {n : Int} {q : AV} {Hc Hd : Heap} (h : Pre H n q Hc) (hl : Hc.length ≤ Hd.length) (hs : ∀ j, j < H.length + 1 → Hd[j]? = Hc[j]?) : Pre H n q Hd :=
  ⟨by have := h.1; omega, fun j hj => (hs j hj).trans (h.2 j hj)⟩
theorem lastN_get {s : List Nat} (h : s ≠ []) : s.length - 1 < s.length ∧ ∀ hi : s.length - 1 < s.length, s[s.length - 1] = lastN s := by
  have := List.length_pos_iff.2 h
  refine ⟨by omega, fun hi => ?_⟩
  unfold lastN
  rw [List.getD_eq_getElem?_getD, List.getElem?_eq_getElem hi]; rfl
end Go.Proofs.Ytnlebofipoepfaa.Code
end
section
namespace Go.Proofs.Ytnlebofipoepfaa.Code
open Go Go.Ab
variable {pure : Bool} {base bar : Nat} {H : Heap} {Q : AV → Heap → Prop}
/-! what chains say -/
theorem lastN_snoc {s : List Nat} {x : Nat} : lastN (s ++ [x]) = x := by simp [lastN, List.getD_eq_getElem?_getD]
section
variable {l : List ZZ} {n b : Nat}
theorem OkC.dom {n : Nat} {l : List ZZ} (h : OkC n l) : ∀ x y, bitL l x y = true → x < n ∧ y < n := fun x y hxy => h.board.1.dom x y (by rw [h.board.2]; exact hxy)
end
end Go.Proofs.Ytnlebofipoepfaa.Code
end
section
namespace Go.Proofs.Ytnlebofipoepfaa.Code
open Go Go.Ab
variable {pure : Bool} {base bar : Nat} {H : Heap} {Q : AV → Heap → Prop}
theorem eqWp_nil {neg : Bool} {v : AV} {l : List Nat} (hv : isL v l) (hn : v ≠ .nils) {K : AV → Heap → List Nat → Prop} : eqWp neg .nilS (some v) (some .nils) H K = K (.bool neg) H [] := by
  rcases hv with ⟨rfl, _⟩ | ⟨ex, rfl⟩
  · exact absurd rfl hn
  · simp [eqWp, aeq]
theorem eqWp_nil0 {neg : Bool} {K : AV → Heap → List Nat → Prop} : eqWp neg .nilS (some .nils) (some .nils) H K = K (.bool (!neg)) H [] := by
  simp [eqWp, aeq]
end Go.Proofs.Ytnlebofipoepfaa.Code
end
section
namespace Go.Ab
open Go.RowKit Go.ChangeShapes Go.WideShapes
variable {H : Type} {enc : TypeId × Value → H} {P : Program} {W W' : World} {base : Nat} {spare : Nat → Bool} {held : Bool}
end Go.Ab
end
section
namespace Go.Proofs.Ytnlebofipoepfaa.Code
open Go Go.Ab
variable {pure : Bool} {base bar : Nat} {H : Heap} {Q : AV → Heap → Prop}
end Go.Proofs.Ytnlebofipoepfaa.Code
end
section
namespace Go.Proofs.Ytnlebofipoepfaa.Code
open Go Go.Ab
variable {pure : Bool} {base bar : Nat} {H : Heap} {Q : AV → Heap → Prop}
end Go.Proofs.Ytnlebofipoepfaa.Code
end
section
namespace Go.Proofs.Ytnlebofipoepfaa.Code
open Go Go.Ab
variable {pure : Bool} {base bar : Nat} {H : Heap} {Q : AV → Heap → Prop}
end Go.Proofs.Ytnlebofipoepfaa.Code
end
section
namespace Go.Proofs.Ytnlebofipoepfaa.Code
open Go Go.Ab
variable {pure : Bool} {base bar : Nat} {H : Heap} {Q : AV → Heap → Prop}
theorem short3 (a b c : Bool) : (a = false ∧ True ∧ True) ∨ (a = true ∧ b = false ∧ True) ∨ (a = true ∧ b = true ∧ c = false) ∨ (a = true ∧ b = true ∧ c = true) := by
  cases a <;> cases b <;> cases c <;> simp
end Go.Proofs.Ytnlebofipoepfaa.Code
end
section
namespace Go.Proofs.Ytnlebofipoepfaa.Code
open Go Go.Ab
variable {pure : Bool} {base bar : Nat} {H : Heap} {Q : AV → Heap → Prop}
end Go.Proofs.Ytnlebofipoepfaa.Code
end
section
namespace Go.Proofs.Ytnlebofipoepfaa.Code
open Go Go.Ab
end Go.Proofs.Ytnlebofipoepfaa.Code
end
section
namespace Go.Proofs.Ytnlebofipoepfaa.Code
open Go Go.Ab
end Go.Proofs.Ytnlebofipoepfaa.Code
end
section
namespace Go.Proofs.Ytnlebofipoepfaa.Code
open Go Go.Ab
variable {pure : Bool} {base bar : Nat} {H : Heap} {Q : AV → Heap → Prop}
end Go.Proofs.Ytnlebofipoepfaa.Code
end
section
namespace Go.Proofs.Ytnlebofipoepfaa.Code
open Go Go.Ab
variable {pure : Bool} {base bar : Nat} {H : Heap} {Q : AV → Heap → Prop}
/-! 83: a list without room -/
theorem k83 {sv : AV} {s : List Nat} (hs : isL sv s) (h0 : s = [] → sv = .nils) (hQ : ∀ c, Gro s H c H → Q c H) : WpCall E pure base bar 83 [sv] H Q := by
  rw [call83]
  by_cases he : s = []
  · obtain rfl := h0 he
    have := hQ .nils (.inr (by rw [he]; exact .nil))
    simp [go_sem, WpFun, c83, aop, Opd.evo, aslice, optBound, bound1, AV.asNat]
    exact this
  · rcases hs with ⟨rfl, h⟩ | ⟨ex, rfl⟩
    · exact absurd h he
    · have hl : (nats s).length = s.length := nats_length
      simp [go_sem, WpFun, c83, aop, Opd.evo, aslice, optBound, bound1, AV.asNat, tops_nats]
      exact hQ _ (.inl ⟨he, rfl, rfl⟩)
/-! 67: the first way through all, searched -/
def rowS (f : Nat → Nat → Bool) (g : Nat → Bool) : Nat → List Nat → Nat → Option (List Nat)
  | 0, s, _ => if g (lastN s) = true then some s else none
  | k + 1, s, left => (bitsOf left).findSome? fun x => if (s.isEmpty || f (lastN s) x) = true then rowS f g k (s ++ [x]) (clr left (pw x)) else none
def Ext (H Hc : Heap) : Prop := H.length ≤ Hc.length ∧ ∀ j, j < H.length → Hc[j]? = H[j]?
theorem Ext.refl : Ext H H := ⟨Nat.le_refl _, fun _ _ => rfl⟩
theorem Ext.trans {A B C : Heap} (h1 : Ext A B) (h2 : Ext B C) : Ext A C := ⟨Nat.le_trans h1.1 h2.1, fun j hj => (h2.2 j (Nat.lt_of_lt_of_le hj h1.1)).trans (h1.2 j hj)⟩
theorem Ext.get {A B : Heap} (h : Ext A B) {i : Nat} {b : Blk} (hi : A[i]? = some b) : B[i]? = some b := by
  rw [h.2 i (List.getElem?_eq_some_iff.1 hi).1]; exact hi
theorem Ext.take {A B : Heap} (h : Ext A B) : B.take A.length = A := by
  apply List.ext_getElem?
  intro j
  rw [List.getElem?_take]
  by_cases hj : j < A.length
  · rw [if_pos hj, h.2 j hj]
  · rw [if_neg hj, List.getElem?_eq_none (by omega)]
theorem Gro.ext {l : List Nat} {H0 H : Heap} {v : AV} (g : Gro l H0 v H) : Ext H0 H := ⟨g.len, fun j hj => by rw [g.get (List.getElem?_eq_getElem hj), List.getElem?_eq_getElem hj]⟩
theorem Gro.frz2 {l : List Nat} {H0 H : Heap} {v : AV} (g : Gro l H0 v H) (hb : bar ≤ H0.length) : ∃ q H', Go.Ab.frz 8 bar H v = some (q, H') ∧ isL q l ∧ Ext H0 H' := by
  rcases g with ⟨hne, rfl, rfl⟩ | g
  · refine ⟨_, _, ?_, isL.lst (ex := true), Ext.refl⟩
    exact (isL.lst (ex := true) (l := l)).frz
  · obtain ⟨H', h1, h2, h3, h4⟩ := g.frz (d := 5) (bar := bar) (by omega) (Nat.one_dvd _) nats_plain hb
    refine ⟨_, H', h1, isL.out, ?_, fun j hj => ?_⟩
    · have := congrArg List.length h4
      rw [List.length_take] at this; omega
    · have := congrArg (fun L : Heap => L[j]?) h4
      simpa [List.getElem?_take, hj] using this
/-- a function that says of a curler whether a row may end so -/
structure GoalAt (fid : FuncId) (caps : List AV) (g : Nat → Bool) (Hg : Heap) : Prop where
  top : AV.top.tops caps ≤ Hg.length
  call : ∀ {pure : Bool} {base bar : Nat} {H : Heap} {Q : AV → Heap → Prop} {x : Nat}, x < 7 → Ext Hg H → bar ≤ H.length → Q (.bool (g x)) H → WpCall E pure base bar fid (.int .i64 (x : Nat) :: caps) H Q
def Rec67 (Hg : Heap) (ib ver : Nat) (w : Nat → Nat) (fid : FuncId) (caps : List AV) (g : Nat → Bool) (k : Nat) : Prop := ∀ (s : List Nat) (sv : AV) (left : Nat) (H : Heap) (pure : Bool) (base bar : Nat) (Q : AV → Heap → Prop), isL sv s → (s = [] → sv = .nils) → (∀ x ∈ s, x < 7) → s.length + k ≤ 100 → left < 128 → (bitsOf left).length = k →
  (k = 0 → s ≠ []) → Ext Hg H → bar ≤ H.length → (∀ L v, rowS (fun a b => (w a).testBit b) g k s left = some L → isL v L → Q (.tup [v, .bool true]) H) → (rowS (fun a b => (w a).testBit b) g k s left = none → ∀ v s', isL v s' → Q (.tup [v, .bool false]) H) →
  WpFun E pure base bar c67 [.ptr ib ver 0, sv, .int .u8 (left : Nat), .fn fid [] caps] H Q
theorem lastN_mem {s : List Nat} (h : s ≠ []) : lastN s ∈ s := by
  have := List.length_pos_iff.2 h
  rw [← (lastN_get h).2 (by omega)]
  exact List.getElem_mem _
section
variable {Hg : Heap} {ib ver fz n : Nat} {ex : Bool} {w : Nat → Nat} {fid : FuncId} {caps : List AV} {g : Nat → Bool}
set_option maxRecDepth 4000 in
theorem l67 (hid : Hg[ib]? = some (.row ver (bcells n w) fz ex)) (hw : ∀ x, w x < 256) (hgo : GoalAt fid caps g Hg) {k : Nat} (hrec : Rec67 Hg ib ver w fid caps g k) {s : List Nat} {sv : AV} {left : Nat} (hs : isL sv s) (hs0 : s = [] → sv = .nils) (hs7 : ∀ x ∈ s, x < 7) (hsl : s.length + (k + 1) ≤ 100) (hl7 : left < 128)
    (hcard : (bitsOf left).length = k + 1) (hext : Ext Hg H) (hbar : bar ≤ H.length) {lv : AV} (hlv : isL lv (bitsOf left)) {R : PQ} :
    ∀ (d i : Nat), i + d = (bitsOf left).length →
    (∀ L v Hd, ((bitsOf left).drop i).findSome? (fun x => if (s.isEmpty || (w (lastN s)).testBit x) = true then rowS (fun a b => (w a).testBit b) g k (s ++ [x]) (clr left (pw x)) else none) = some L → isL v L → Ext H Hd → R .ret [(8, v), (9, .bool true)] Hd) →
    (((bitsOf left).drop i).findSome? (fun x => if (s.isEmpty || (w (lastN s)).testBit x) = true then rowS (fun a b => (w a).testBit b) g k (s ++ [x]) (clr left (pw x)) else none) = none → R (.exit 0) [(0, .ptr ib ver 0), (1, sv), (2, .int .u8 (left : Nat)), (3, .fn fid [] caps), (26, lv), (27, .int .i64 ((bitsOf left).length : Nat)), (28, .int .i64 ((bitsOf left).length : Nat)), (29, .bool false)] H) →
    Wp E base bar (.loop c67_l0) [(0, .ptr ib ver 0), (1, sv), (2, .int .u8 (left : Nat)), (3, .fn fid [] caps), (26, lv), (27, .int .i64 ((bitsOf left).length : Nat)), (28, .int .i64 (i : Nat))] H R := by
  intro d
  induction d with
  | zero =>
    intro i hi h1 h2
    obtain rfl : i = (bitsOf left).length := by omega
    rw [wp_round c67_l0.eq_1]
    simp [go_sem]
    exact h2 (by simp)
  | succ d ih =>
    intro i hi h1 h2
    have hlt : i < (bitsOf left).length := by omega
    have hid' := hext.get hid
    have hib := (List.getElem?_eq_some_iff.1 hid').1
    have htop : AV.top.tops caps ≤ H.length := Nat.le_trans hgo.top hext.1
    rw [List.drop_eq_getElem_cons hlt, List.findSome?_cons] at h1 h2
    have hx8 : (bitsOf left)[i] < 7 := bit_lt (n := 7) hl7 (bits_mem.1 (List.getElem_mem hlt)).2
    have hcl : (bitsOf (clr left (pw (bitsOf left)[i]))).length = k := by
      have := bits_cut left (by omega) (bitsOf left)[i] (by omega)
      rw [if_pos (bits_mem.1 (List.getElem_mem hlt)).2] at this
      omega
    have hb8 : (bitsOf left).length ≤ 8 := bits_len left
    have hix : ∀ {H : Heap} {K : AV → Heap → List Nat → Prop}, ixaSWp 1 (some lv) (some (.int .i64 (i : Int))) H K = K (.fp (.int .i64 ((bitsOf left)[i] : Nat))) H [] := fun {H K} => hlv.ix hlt
    have hz := i64_suc (show i < 1000000 by omega)
    have next := ih (i + 1) (by omega)
    generalize (bitsOf left)[i] = x at *
    generalize (bitsOf left).length = len at *
    have e1 : IntKind.i64.wrap ((s.length : Int) - 1) = ((s.length - 1 : Nat) : Int) ∨ s = [] := by
      by_cases he : s = []
      · exact .inr he
      · have := List.length_pos_iff.2 he
        left
        rw [show (s.length : Int) - 1 = ((s.length - 1 : Nat) : Int) by omega, i64_nat (by omega)]
    have hix2 : s ≠ [] → ∀ {H : Heap} {K : AV → Heap → List Nat → Prop}, ixaSWp 1 (some sv) (some (.int .i64 ((s.length - 1 : Nat) : Int))) H K = K (.fp (.int .i64 (lastN s : Nat))) H [] := fun he {H K} => by
      have := List.length_pos_iff.2 he
      rw [hs.ix (by omega), (lastN_get he).2]
    have hl7' : s ≠ [] → lastN s < 7 := fun he => hs7 _ (lastN_mem he)
    rw [wp_round c67_l0.eq_1]
    by_cases hc : (s.isEmpty || (w (lastN s)).testBit x) = true
    · simp only [hc, if_true] at h1 h2
      have hcond : s = [] ∨ (s ≠ [] ∧ (w (lastN s)).testBit x = true) := by
        by_cases he : s = []
        · exact .inl he
        · right
          refine ⟨he, ?_⟩
          rw [Bool.or_eq_true] at hc
          rcases hc with hc | hc
          · exact absurd (List.isEmpty_iff.1 hc) he
          · exact hc
      rcases hcond with he | ⟨he, hb⟩
      case' inl => simp [go_sem, hlt, hix, hs.len, he]
      case' inr =>
        have hl0 : ¬ s.length = 0 := fun h => he (List.length_eq_zero_iff.1 h)
        have e1' := e1.resolve_right he
        have hix2' := fun (H : Heap) (K : AV → Heap → List Nat → Prop) => hix2 he (H := H) (K := K)
        generalize s.length - 1 = m at *
        simp [go_sem, hlt, hix, hs.len, he, hl0, e1', hix2', k66 hid' hw (hl7' he), hb]
      all_goals
        refine k83 hs hs0 fun c gc => ?_
        simp [go_sem, hs.noVec, aop, fillA, setCells, chunks]
        refine gc.nat hbar (Nat.le_refl _) (by omega) fun v2 H2 tc2 g2 => ?_
        obtain ⟨q2, H3, f1, f2, f3⟩ := g2.frz2 (bar := bar) hbar
        have hcl7 : clr left (pw x) < 128 := Nat.lt_of_le_of_lt Nat.and_le_left hl7
        simp [go_sem, shl_u8 (show x < 8 by omega), andNot_u8 (show left < 256 by omega) (pw_lt (show x < 8 by omega)), call67, f1]
        refine hrec (s ++ [x]) q2 (clr left (pw x)) H3 true _ bar _ f2 (fun hc => absurd hc (by simp)) (fun y hy => by
          rcases List.mem_append.1 hy with hy | hy
          · exact hs7 y hy
          · rw [List.mem_singleton] at hy; omega) (by simp; omega) hcl7 hcl (fun _ => by simp) (hext.trans f3) (Nat.le_trans hbar f3.1) (fun L v hL hv => ?_) (fun hn v s' hv => ?_)
        · rw [hL] at h1
          simp [go_sem, hv.isTup]
          exact h1 L v H3 rfl hv f3
        · rw [hn] at h1 h2
          simp [go_sem, hv.isTup, hs.top, hlv.top, f3.take, hz]
          refine ⟨by omega, ?_⟩
          exact next h1 h2
    · simp only [hc] at h1 h2
      have he : s ≠ [] := fun he => hc (by rw [he]; rfl)
      have hb : (w (lastN s)).testBit x = false := by
        cases hb : (w (lastN s)).testBit x
        · rfl
        · exact absurd (by rw [hb, Bool.or_true]) hc
      have hl0 : ¬ s.length = 0 := fun h => he (List.length_eq_zero_iff.1 h)
      have e1' := e1.resolve_right he
      have hix2' := fun (H : Heap) (K : AV → Heap → List Nat → Prop) => hix2 he (H := H) (K := K)
      generalize s.length - 1 = m at *
      simp [go_sem, hlt, hix, hs.len, he, hl0, e1', hix2', k66 hid' hw (hl7' he), hb, hs.top, hlv.top, hz]
      refine ⟨by omega, ?_⟩
      exact next h1 h2
end
end Go.Proofs.Ytnlebofipoepfaa.Code
end
section
namespace Go.Proofs.Ytnlebofipoepfaa.Code
open Go Go.Ab
variable {pure : Bool} {base bar : Nat} {H : Heap} {Q : AV → Heap → Prop}
theorem bits_nil {left : Nat} (hl : left < 256) (h : (bitsOf left).length = 0) : left = 0 := by
  apply Nat.eq_of_testBit_eq
  intro i
  rw [Nat.zero_testBit]
  cases hi : left.testBit i
  · rfl
  · have := bits_mem.2 ⟨bit_lt (n := 8) hl hi, hi⟩
    rw [List.length_eq_zero_iff.1 h] at this; simp at this
section
variable {Hg : Heap} {ib ver fz n : Nat} {ex : Bool} {w : Nat → Nat} {fid : FuncId} {caps : List AV} {g : Nat → Bool}
set_option maxRecDepth 4000 in
theorem f67 (hid : Hg[ib]? = some (.row ver (bcells n w) fz ex)) (hw : ∀ x, w x < 256) (hgo : GoalAt fid caps g Hg) : ∀ k, Rec67 Hg ib ver w fid caps g k
  | 0 => fun s sv left H pure base bar Q hs hs0 hs7 hsl hl7 hcard hne hext hbar h1 h2 => by
    have hb' := bar_ok (pure := pure) hbar
    obtain rfl := bits_nil (show left < 256 by omega) hcard
    have he : s ≠ [] := hne rfl
    have hpos := List.length_pos_iff.2 he
    have e1 : IntKind.i64.wrap ((s.length : Int) - 1) = ((s.length - 1 : Nat) : Int) := by
      rw [show (s.length : Int) - 1 = ((s.length - 1 : Nat) : Int) by omega, i64_nat (by omega)]
    have hix : ∀ {H : Heap} {K : AV → Heap → List Nat → Prop}, ixaSWp 1 (some sv) (some (.int .i64 ((s.length - 1 : Nat) : Int))) H K = K (.fp (.int .i64 (lastN s : Nat))) H [] := fun {H K} => by rw [hs.ix (by omega), (lastN_get he).2]
    have hl7' : lastN s < 7 := hs7 _ (lastN_mem he)
    generalize s.length - 1 = m at *
    unfold rowS at h1 h2
    simp [go_sem, WpFun, c67, hs.len, e1, hix] at hb' ⊢
    refine hgo.call hl7' hext (by omega) ?_
    cases hg : g (lastN s)
    · rw [hg] at h2
      simp [go_sem, hs.isTup, hs.frz, hs.top]
      exact h2 (by simp) sv s hs
    · rw [hg] at h1
      simp [go_sem, hs.isTup, hs.frz, hs.top]
      exact h1 s sv (by simp) hs
  | k + 1 => fun s sv left H pure base bar Q hs hs0 hs7 hsl hl7 hcard hne hext hbar h1 h2 => by
    have hb' := bar_ok (pure := pure) hbar
    have hne0 : ¬ ((left : Nat) : Int) = 0 := fun h0 => by
      have : left = 0 := by omega
      subst this
      rw [bits_zero] at hcard; cases hcard
    have hne1 : ¬ left = 0 := fun h => hne0 (by rw [h]; rfl)
    simp [go_sem, WpFun, c67, hne0, hne1] at hb' ⊢
    generalize (if pure = true then H.length else bar) = bar' at hb' ⊢
    refine k71 (by omega) (by omega) ?_
    have hlv := isL.out (l := bitsOf left)
    generalize outL 1 (nats (bitsOf left)) = lv at hlv
    simp [go_sem, hlv.len]
    refine l67 hid hw hgo (f67 hid hw hgo k) hs hs0 hs7 hsl hl7 hcard hext hb' hlv (bitsOf left).length 0 (by omega) (fun L v Hd hL hv hx => ?_) fun hn => ?_
    · rw [List.drop_zero] at hL
      simp [go_sem, hv.isTup, hv.frz, hv.top, hx.take]
      exact h1 L v hL hv
    · rw [List.drop_zero] at hn
      simp [go_sem]
      exact h2 hn .nils [] isL.nil
theorem k67 {k : Nat} {s : List Nat} {sv : AV} {left : Nat} (hid : H[ib]? = some (.row ver (bcells n w) fz ex)) (hw : ∀ x, w x < 256) (hgo : GoalAt fid caps g H) (hs : isL sv s) (hs0 : s = [] → sv = .nils) (hs7 : ∀ x ∈ s, x < 7) (hsl : s.length ≤ 90) (hl7 : left < 128) (hcard : (bitsOf left).length = k) (hne : k = 0 → s ≠ []) (hbar : bar ≤ H.length)
    (h1 : ∀ L v, rowS (fun a b => (w a).testBit b) g k s left = some L → isL v L → Q (.tup [v, .bool true]) H) (h2 : rowS (fun a b => (w a).testBit b) g k s left = none → ∀ v s', isL v s' → Q (.tup [v, .bool false]) H) :
    WpCall E pure base bar 67 [.ptr ib ver 0, sv, .int .u8 (left : Nat), .fn fid [] caps] H Q := by
  rw [call67]
  have hb8 := bits_len left
  simp [go_sem, hs.frz]
  exact f67 hid hw hgo k s sv left H pure base bar Q hs hs0 hs7 (by omega) hl7 hcard hne Ext.refl hbar h1 h2
end
/-! 27: the first row -/
theorem k68 {x : Nat} (h : Q (.bool true) H) : WpCall E pure base bar 68 [.int .i64 (x : Nat)] H Q := by
  rw [call68]
  simp [go_sem, WpFun, c68]
  exact h
theorem goal68 : GoalAt 68 [] (fun _ => true) H := ⟨by simp [AV.top.tops], fun _ _ _ h => k68 h⟩
theorem bits_all {n : Nat} (hn : n ≤ 7) : (bitsOf (pw n - 1)).length = n := by
  have : ∀ n, n ≤ 7 → (bitsOf (pw n - 1)).length = n := by decide
  exact this n hn
theorem k27 {n : Nat} {q : AV} {l : List ZZ} (hq : isP q l) (hl : l.length < 1000) (hm : OkC n l) (hbar : bar ≤ H.length)
    (h1 : ∀ L v, rowS (bitL l) (fun _ => true) n [] (pw n - 1) = some L → isL v L → Q (.tup [v, .int .i64 0]) H) (h2 : rowS (bitL l) (fun _ => true) n [] (pw n - 1) = none → False) :
    WpCall E pure base bar 27 [.agg [.int .i64 (n : Int), q]] H Q := by
  rw [call27]
  have hb' := bar_ok (pure := pure) hbar
  have e0 : H ++ [.row 0 [.int .i64 (n : Int), q] 0 true] = HI H n q := rfl
  obtain ⟨hbd, hbit⟩ := hm.board
  have hn := hm.le
  have hpos := hm.pos
  simp [go_sem, WpFun, c27, hq.frz, e0, HI_h] at hb' ⊢
  generalize (if pure = true then H.length else bar) = bar' at hb' ⊢
  refine k56 hq hl (by rw [HI_len]; omega) (fun hc => absurd hm.check hc) (fun m hnm _ _ _ => ?_)
  obtain rfl : n = m := by omega
  have hid : (HI H (n : Int) q ++ [Blk.row 0 (bcells n (boardF l fun _ => 0)) 0 true])[H.length + 1]? = some (.row 0 (bcells n (boardF l fun _ => 0)) 0 true) := by simp [HI, own_get]
  have htk : (HI H (n : Int) q ++ [Blk.row 0 (bcells n (boardF l fun _ => 0)) 0 true]).take H.length = H := by simp [HI]
  have hlen : (HI H (n : Int) q ++ [Blk.row 0 (bcells n (boardF l fun _ => 0)) 0 true]).length = H.length + 2 := by simp [HI]
  rw [HI_len]
  generalize HI H (n : Int) q ++ [Blk.row 0 (bcells n (boardF l fun _ => 0)) 0 true] = X at *
  have hf : (fun a b => (boardF l (fun _ => 0) a).testBit b) = bitL l := by funext a b; exact hbit a b
  have hpn : pw n - 1 < 128 := by
    have : ∀ n, n ≤ 7 → pw n - 1 < 128 := by decide
    exact this n hn
  have hba := bits_all hn
  have h59 := fun (P : Bool) (B C : Nat) (Q : AV → Heap → Prop) => k59 (pure := P) (base := B) (bar := C) (Q := Q) hid hn
  generalize pw n - 1 = m at *
  simp [go_sem, h59]
  refine k67 (s := []) (k := n) (g := fun _ => true) hid hbd.lt goal68 isL.nil (fun _ => rfl) (by simp) (by simp) hpn hba (by omega) (by omega) (fun L v hL hv => ?_) fun hn => ?_
  · rw [hf] at hL
    simp [go_sem, hv.isTup, hv.frz, hv.top, htk]
    exact h1 L v hL hv
  · rw [hf] at hn
    exact (h2 hn).elim
/-! 29: the first ring -/
theorem k70 {ib ver fz x n i4 : Nat} {ex ex4 : Bool} {w : Nat → Nat} (h4 : H[i4]? = some (.row 0 [.ptr ib ver 0] 0 ex4)) (hid : H[ib]? = some (.row ver (bcells n w) fz ex)) (hw : ∀ x, w x < 256) (hx : x < 7) (h : Q (.bool ((w x).testBit 0)) H) :
    WpCall E pure base bar 70 [.int .i64 (x : Nat), .ptr i4 0 0] H Q := by
  rw [call70]
  have l4 : aload H ⟨false, 1⟩ (.ptr i4 0 0) = some (.ptr ib ver 0) := by rw [aload_ptr h4]; rfl
  simp [go_sem, WpFun, c70, l4]
  refine (k66 hid hw hx (y := 0)).2 ?_
  simpa [go_sem] using h
end Go.Proofs.Ytnlebofipoepfaa.Code
end
section
namespace Go.Proofs.Ytnlebofipoepfaa.Code
open Go Go.Ab
variable {pure : Bool} {base bar : Nat} {H : Heap} {Q : AV → Heap → Prop}
theorem k29 {n : Nat} {q : AV} {l : List ZZ} (hq : isP q l) (hl : l.length < 1000) (hm : OkC n l) (hbar : bar ≤ H.length)
    (h1 : ∀ L v, 2 < n → rowS (bitL l) (fun x => bitL l x 0) (n - 1) [0] (clr (pw n - 1) 1) = some L → isL v L → Q (.tup [v, .int .i64 0]) H)
    (h2 : (2 < n → rowS (bitL l) (fun x => bitL l x 0) (n - 1) [0] (clr (pw n - 1) 1) = none) → Q (.tup [.nils, .int .i64 12]) H) :
    WpCall E pure base bar 29 [.agg [.int .i64 (n : Int), q]] H Q := by
  rw [call29]
  have hb' := bar_ok (pure := pure) hbar
  have e0 : H ++ [.row 0 [.int .i64 (n : Int), q] 0 true] = HI H n q := rfl
  obtain ⟨hbd, hbit⟩ := hm.board
  have hn := hm.le
  have hpos := hm.pos
  simp [go_sem, WpFun, c29, hq.frz, e0, HI_h] at hb' ⊢
  generalize (if pure = true then H.length else bar) = bar' at hb' ⊢
  refine k56 hq hl (by rw [HI_len]; omega) (fun hc => absurd hm.check hc) (fun m hnm _ _ _ => ?_)
  obtain rfl : n = m := by omega
  simp [go_sem, HI_len]
  simp only [Nat.add_assoc, Nat.reduceAdd]
  rw [storeWp_ptr (size := 1) (ver := 0) (cs := [.nilp]) (fz := 0) (ex := true) (by simp [HI, own_get]) rfl rfl (by omega) (by simp) (by omega) (.inl (by omega))]
  obtain ⟨X, hX⟩ : ∃ X, X = (HI H (n : Int) q ++ [Blk.row 0 (bcells n (boardF l fun _ => 0)) 0 true, Blk.row 0 [AV.nilp] 0 true]).set (H.length + 2) (.row 0 (setCells [.nilp] 0 (AV.cells (.ptr (H.length + 1) 0 0))) 0 true) := ⟨_, rfl⟩
  have hid : X[H.length + 1]? = some (.row 0 (bcells n (boardF l fun _ => 0)) 0 true) := by rw [hX]; simp [HI, own_get, own_set]
  have hi4 : X[H.length + 2]? = some (.row 0 [.ptr (H.length + 1) 0 0] 0 true) := by rw [hX]; simp [HI, own_get, own_set, AV.cells, setCells]
  have htk : X.take H.length = H := by rw [hX]; simp [HI, own_set]
  have hlen : X.length = H.length + 3 := by rw [hX]; simp [HI]
  rw [← hX]
  clear hX
  have lp : aload X ⟨false, 1⟩ (.ptr (H.length + 2) 0 0) = some (.ptr (H.length + 1) 0 0) := by rw [aload_ptr hi4]; rfl
  have ln : aload X ⟨false, 1⟩ (.ptr (H.length + 1) 0 0) = some (.int .i64 (n : Nat)) := loadBN hid
  by_cases h2n : 2 < n
  · have hf : (fun a b => (boardF l (fun _ => 0) a).testBit b) = bitL l := by funext a b; exact hbit a b
    have hpn : ∀ n, n ≤ 7 → pw n - 1 < 128 ∧ clr (pw n - 1) 1 < 128 ∧ (1 ≤ n → (bitsOf (clr (pw n - 1) 1)).length = n - 1) := by decide
    obtain ⟨p1, p2, p3⟩ := hpn n hn
    have p3 := p3 hpos
    have h59 := fun (P : Bool) (B C : Nat) (Q : AV → Heap → Prop) => k59 (pure := P) (base := B) (bar := C) (Q := Q) hid hn
    generalize pw n - 1 = m at *
    have ha : abin .andNot (.int .u8 (m : Nat)) (.int .u8 1) = some (.int .u8 (clr m 1 : Nat)) := andNot_u8 (a := m) (b := 1) (by omega) (by decide)
    generalize clr m 1 = m1 at *
    have hgo : GoalAt 70 [.ptr (H.length + 2) 0 0] (fun x => bitL l x 0) X := ⟨by simp [tops_cons, tops_nil, top_ptr]; omega, fun {pure base bar H' Q x} hx hext _ hQ =>
      k70 (hext.get hi4) (hext.get hid) hbd.lt hx (by rw [hbit]; exact hQ)⟩
    simp [go_sem, lp, ln, h2n, show (2 : Int) < (n : Int) by omega, h59, ha, aop, fillA, setCells, chunks]
    refine k67 (s := [0]) (sv := .lst 1 true [.int .i64 0]) (k := n - 1) hid hbd.lt hgo (.inr ⟨true, rfl⟩) (by simp) (by simp) (by simp) p2 p3 (fun _ => by simp) (by omega) (fun L v hL hv => ?_) fun hno v s' hv => ?_
    · rw [hf] at hL
      simp [go_sem, hv.isTup, hv.frz, hv.top, htk]
      exact h1 L v h2n hL hv
    · rw [hf] at hno
      simp [go_sem, hv.isTup, htk]
      exact h2 fun _ => hno
  · simp [go_sem, lp, ln, h2n, show ¬ (2 : Int) < (n : Int) by omega, htk]
    exact h2 fun h => absurd h h2n
end Go.Proofs.Ytnlebofipoepfaa.Code
end
section
namespace Go.Proofs.Ytnlebofipoepfaa.Code
open Go Go.Ab
variable {pure : Bool} {base bar : Nat} {H : Heap} {Q : AV → Heap → Prop}
/-! 69: all rows -/
def rowsR (f : Nat → Nat → Bool) (n : Nat) : Nat → List Nat → List (List Nat)
  | 0, s => [s]
  | k + 1, s => (List.range' 0 n).flatMap fun (x : Nat) => if (!s.contains x && (s.isEmpty || f (lastN s) x)) = true then rowsR f n k (s ++ [x]) else []
theorem rowsR_len {f : Nat → Nat → Bool} {n : Nat} (hn : n ≤ 7) : ∀ (k : Nat) (s : List Nat), (rowsR f n k s).length ≤ 7 ^ k
  | 0, s => by simp [rowsR]
  | k + 1, s => by
    have := flatMap_len (m := 7 ^ k) (f := fun (x : Nat) => if (!s.contains x && (s.isEmpty || f (lastN s) x)) = true then rowsR f n k (s ++ [x]) else []) (List.range' 0 n) fun x _ => by
      split
      · exact rowsR_len hn k _
      · simp
    simp only [List.length_range'] at this
    have h2 : n * 7 ^ k ≤ 7 * 7 ^ k := Nat.mul_le_mul_right _ hn
    rw [Nat.pow_succ, Nat.mul_comm (7 ^ k) 7]
    exact Nat.le_trans this h2
end Go.Proofs.Ytnlebofipoepfaa.Code
end
section
namespace Go.Proofs.Ytnlebofipoepfaa.Code
open Go Go.Ab
variable {pure : Bool} {base bar : Nat} {H : Heap} {Q : AV → Heap → Prop}
/-! 30: the reference's ring -/
def ringP (f : Nat → Nat → Bool) (L : List Nat) : Bool := decide (2 < L.length) && f (lastN L) (L.getD 0 0)
theorem rowsR_mem {f : Nat → Nat → Bool} {n : Nat} : ∀ {k : Nat} {s x : List Nat}, x ∈ rowsR f n k s → x.length = s.length + k
  | 0, s, x, h => by
    unfold rowsR at h
    simp at h; subst h; rfl
  | k + 1, s, x, h => by
    unfold rowsR at h
    obtain ⟨y, _, hy⟩ := List.mem_flatMap.1 h
    split at hy
    · have := rowsR_mem hy
      simp at this; omega
    · simp at hy
end Go.Proofs.Ytnlebofipoepfaa.Code
end
section
namespace Go.Proofs.Ytnlebofipoepfaa.Code
open Go Go.Ab
variable {base bar : Nat} {H : Heap}
theorem shr_i64 {a b : Nat} (ha : a < 256) : abin .shr (.int .i64 (a : Int)) (.int .i64 (b : Int)) = some (.int .i64 ((shr a b : Nat) : Int)) := by
  simp only [abin]
  rw [if_neg (by omega)]
  simp only [Int.toNat_natCast, show IntKind.i64.bits = 64 from rfl]
  congr 2
  rw [show (2 : Int) ^ (min b 64) = ((2 ^ (min b 64) : Nat) : Int) by simp, Int.fdiv_eq_ediv_of_nonneg _ (Int.natCast_nonneg _)]
  rw [← Int.natCast_ediv]
  congr 1
  unfold shr
  by_cases hb : b < 8
  · rw [Nat.min_eq_left (by omega), Nat.min_eq_left (by omega)]
  · rw [Nat.min_eq_right (show 8 ≤ b by omega), Nat.div_eq_of_lt (show a < 2 ^ 8 by omega), Nat.div_eq_of_lt]
    exact Nat.lt_of_lt_of_le (show a < 2 ^ 8 by omega) (Nat.pow_le_pow_right (by decide) (by omega))
theorem and_i64_one {a : Nat} (ha : a < 256) : abin .and (.int .i64 a) (.int .i64 1) = some (.int .i64 ((band a 1 : Nat) : Int)) := by
  have e : (BitVec.ofInt 64 (a : Int) &&& BitVec.ofInt 64 ((1 : Nat) : Int)).toNat = band a 1 := by
    rw [BitVec.toNat_and, ofInt_toNat (w := 64) (by omega), ofInt_toNat (w := 64) (by omega)]; rfl
  simp only [abin, binInt, if_true]
  rw [show IntKind.i64.bits = 64 from rfl]
  have e' : (BitVec.ofInt 64 (a : Int) &&& BitVec.ofInt 64 (1 : Int)).toNat = band a 1 := e
  rw [e', i64_nat (by have := band_lt (a := a) (b := 1) ha; omega)]
theorem or_i64 {a b : Nat} (ha : a < 256) (hb : b < 256) : abin .or (.int .i64 a) (.int .i64 b) = some (.int .i64 ((bor a b : Nat) : Int)) := by
  have e : (BitVec.ofInt 64 (a : Int) ||| BitVec.ofInt 64 (b : Int)).toNat = bor a b := by
    rw [BitVec.toNat_or, ofInt_toNat (w := 64) (by omega), ofInt_toNat (w := 64) (by omega)]; rfl
  simp only [abin, binInt, if_true]
  rw [show IntKind.i64.bits = 64 from rfl, e, i64_nat (by have := bor_lt ha hb; omega)]
/-! a table: for each set a number for each curler -/
def tcells (M : Nat) (c : Nat → Nat → Int) : List AV := (List.range (M * 7)).map fun i => .int .i64 (c (i / 7) (i % 7))
def updZ (c : Nat → Nat → Int) (a b : Nat) (v : Int) : Nat → Nat → Int := fun i j => if i = a ∧ j = b then v else c i j
theorem tcells_length {M : Nat} {c : Nat → Nat → Int} : (tcells M c).length = M * 7 := by simp [tcells]
theorem tcells_get {M : Nat} {c : Nat → Nat → Int} {a b : Nat} (ha : a < M) (hb : b < 7) : (tcells M c)[a * 7 + b]? = some (.int .i64 (c a b)) := by
  have h1 : a * 7 + b < M * 7 := by omega
  have h2 : (a * 7 + b) / 7 = a := by omega
  have h3 : (a * 7 + b) % 7 = b := by omega
  simp only [tcells, List.getElem?_map, List.getElem?_range h1, Option.map_some, h2, h3]
theorem tcells_set {M : Nat} {c : Nat → Nat → Int} {a b : Nat} {v : Int} (ha : a < M) (hb : b < 7) : setCells (tcells M c) (a * 7 + b) [.int .i64 v] = tcells M (updZ c a b v) := by
  simp only [setCells]
  apply List.ext_getElem?
  intro j
  rw [List.getElem?_set]
  by_cases hj : a * 7 + b = j
  · subst hj
    rw [if_pos rfl, if_pos (by rw [tcells_length]; omega), tcells_get ha hb]
    simp [updZ]
  · rw [if_neg hj]
    by_cases h8 : j < M * 7
    · simp only [tcells, List.getElem?_map, List.getElem?_range h8, Option.map_some, updZ]
      rw [if_neg (by omega)]
    · simp [tcells, h8]
theorem tcells_zero {M : Nat} : (List.replicate M [AV.int .i64 0, .int .i64 0, .int .i64 0, .int .i64 0, .int .i64 0, .int .i64 0, .int .i64 0]).flatten = tcells M fun _ _ => 0 := by
  have e : [AV.int .i64 0, .int .i64 0, .int .i64 0, .int .i64 0, .int .i64 0, .int .i64 0, .int .i64 0] = List.replicate 7 (AV.int .i64 0) := rfl
  rw [e, List.flatten_replicate_replicate]
  unfold tcells
  apply List.ext_getElem?
  intro j
  by_cases hj : j < M * 7
  · rw [List.getElem?_replicate, if_pos hj, List.getElem?_map, List.getElem?_range hj]; rfl
  · rw [List.getElem?_eq_none (by simp; omega), List.getElem?_eq_none (by simp; omega)]
theorem loadT {id ver fz a b s M : Nat} {ex : Bool} {c : Nat → Nat → Int} (hid : H[id]? = some (.row ver (tcells M c) fz ex)) (ha : a < M) (hb : b < 7) :
    aload H ⟨false, s⟩ (.ptr id ver (a * 7 + b)) = some (.int .i64 (c a b)) := by
  rw [aload_ptr hid, part_one, tcells_get ha hb]
theorem storeT {K : AV → Heap → List Nat → Prop} {id ver a b M : Nat} {ex : Bool} {c : Nat → Nat → Int} {v : Int} (hid : H[id]? = some (.row ver (tcells M c) 0 ex)) (ha : a < M) (hb : b < 7) (hbar : bar ≤ id) :
    storeWp base bar 1 (.ptr id ver (a * 7 + b)) (.int .i64 v) H K = K (.tup []) (H.set id (.row ver (tcells M (updZ c a b v)) 0 ex)) [id] := by
  rw [storeWp_ptr (size := 1) hid rfl rfl (by omega) (by rw [tcells_length]; omega) hbar (.inr (by simp [AV.cells, tops_cons, tops_nil, top_int]))]
  simp only [AV.cells, tcells_set ha hb]
/-- a row of the table -/
def zcells (g : Nat → Int) : List AV := (List.range 7).map fun i => .int .i64 (g i)
theorem loadTT {id ver fz a M : Nat} {ex : Bool} {c : Nat → Nat → Int} (hid : H[id]? = some (.row ver (tcells M c) fz ex)) (ha : a < M) :
    aload H ⟨true, 7⟩ (.ptr id ver (a * 7)) = some (.agg (zcells (c a))) := by
  rw [aload_ptr hid, part_agg, if_pos (by rw [tcells_length]; omega)]
  congr 2
  apply List.ext_getElem?
  intro j
  rw [List.getElem?_take]
  by_cases hj : j < 7
  · rw [if_pos hj, List.getElem?_drop, tcells_get ha hj]
    simp [zcells, hj]
  · rw [if_neg hj]
    simp [zcells, hj]
theorem zcells_get {g : Nat → Int} {a : Nat} (ha : a < 7) : (zcells g)[a]? = some (.int .i64 (g a)) := by simp [zcells, ha]
/-! arithmetic that wraps -/
theorem wrap_ex (a : Int) : ∃ k : Int, IntKind.i64.wrap a = a + k * 18446744073709551616 := by
  unfold IntKind.wrap
  simp only [show IntKind.i64.bits = 64 from rfl, show IntKind.i64.signed = true from rfl, Bool.true_and]
  rw [show (2 : Int) ^ 64 = 18446744073709551616 by decide]
  split
  · exact ⟨-(a / 18446744073709551616) - 1, by omega⟩
  · exact ⟨-(a / 18446744073709551616), by omega⟩
theorem wrap_cong (a k : Int) : IntKind.i64.wrap (a + k * 18446744073709551616) = IntKind.i64.wrap a := by
  unfold IntKind.wrap
  simp only [show IntKind.i64.bits = 64 from rfl]
  rw [show (2 : Int) ^ 64 = 18446744073709551616 by decide, Int.add_mul_emod_self_right]
end Go.Proofs.Ytnlebofipoepfaa.Code
end
section
namespace Go.Proofs.Ytnlebofipoepfaa.Code
open Go Go.Ab
variable {pure : Bool} {base bar : Nat} {H : Heap} {Q : AV → Heap → Prop}
/-! 31: rows, set by set -/
def pushY (w : Nat → Nat) (s x : Nat) (c : Nat → Nat → Int) (y : Nat) : Nat → Nat → Int :=
  if (!s.testBit y && (w x).testBit y) = true then updZ c (bor s (pw y)) y (IntKind.i64.wrap (c (bor s (pw y)) y + c s x)) else c
def pushX (w : Nat → Nat) (n s : Nat) (c : Nat → Nat → Int) (x : Nat) : Nat → Nat → Int := (List.range n).foldl (pushY w s x) c
def pushS (w : Nat → Nat) (n : Nat) (c : Nat → Nat → Int) (s : Nat) : Nat → Nat → Int := (List.range n).foldl (pushX w n s) c
def startC (n : Nat) : Nat → Nat → Int := (List.range n).foldl (fun c x => updZ c (pw x) x 1) fun _ _ => 0
theorem foldl_succ {α : Type} {g : α → Nat → α} {a : α} {k : Nat} : (List.range (k + 1)).foldl g a = g ((List.range k).foldl g a) k := by
  rw [List.range_succ, List.foldl_append]; rfl
theorem bor_small : ∀ n, n ≤ 7 → ∀ s, s < pw n → ∀ y, y < n → bor s (pw y) < pw n := by
  intro n hn s hs y hy
  exact Nat.or_lt_two_pow hs (Nat.pow_lt_pow_right (by decide) hy)
section
variable {ib ver fz id n : Nat} {ex : Bool} {w : Nat → Nat} {cs : List AV}
set_option maxRecDepth 4000 in
theorem l31a {s x : Nat} {c : Nat → Nat → Int} (hid : H[ib]? = some (.row ver (bcells n w) fz ex)) (ht : H[id]? = some (.row 0 cs 0 true)) (hne : ib ≠ id) (hw : ∀ x, w x < 256) (hn : n ≤ 7) (hs : s < pw n) (hx : x < n) (hbar : bar ≤ id) {R : PQ} :
    ∀ (k y : Nat), y + k = n →
    R (.exit 6) [(4, .ptr ib ver 0), (6, .fn 66 [.ptr ib ver 0] []), (7, .vec id 0 0 (pw n) 7), (46, .int .i64 (pw n : Nat)), (47, .int .i64 (s : Nat)), (9, .int .i64 (s : Nat)), (53, .int .i64 (n : Nat)), (54, .int .i64 (x : Nat)), (10, .int .i64 (x : Nat)), (60, .int .i64 (n : Nat)), (61, .int .i64 (n : Nat)), (62, .bool false)] (H.set id (.row 0 (tcells (pw n) (pushX w n s c x)) 0 true)) →
    Wp E base bar (.loop c31_l1) [(4, .ptr ib ver 0), (6, .fn 66 [.ptr ib ver 0] []), (7, .vec id 0 0 (pw n) 7), (46, .int .i64 (pw n : Nat)), (47, .int .i64 (s : Nat)), (9, .int .i64 (s : Nat)), (53, .int .i64 (n : Nat)), (54, .int .i64 (x : Nat)), (10, .int .i64 (x : Nat)), (60, .int .i64 (n : Nat)), (61, .int .i64 (y : Nat))] (H.set id (.row 0 (tcells (pw n) ((List.range y).foldl (pushY w s x) c)) 0 true)) R := by
  have hpn : pw n ≤ 128 := Nat.pow_le_pow_right (by decide) hn
  intro k
  induction k with
  | zero =>
    intro y hy h
    obtain rfl : y = n := by omega
    rw [wp_round c31_l1.eq_1]
    simp [go_sem]
    exact h
  | succ k ih =>
    intro y hy h
    have hlt : y < n := by omega
    have next := ih (y + 1) (by omega) h
    rw [foldl_succ] at next
    generalize (List.range y).foldl (pushY w s x) c = c1 at *
    have hz := i64_suc (show y < 1000000 by omega)
    have hid' : (H.set id (.row 0 (tcells (pw n) c1) 0 true))[ib]? = some (.row ver (bcells n w) fz ex) := by rw [List.getElem?_set_ne (Ne.symm hne)]; exact hid
    have ht' : (H.set id (.row 0 (tcells (pw n) c1) 0 true))[id]? = some (.row 0 (tcells (pw n) c1) 0 true) := set_get ht
    have h66 := fun (P : Bool) (B C : Nat) (Q : AV → Heap → Prop) => k66 (pure := P) (base := B) (bar := C) (Q := Q) hid' hw (show x < 7 by omega) (y := y)
    have hsh := shr_i64 (a := s) (b := y) (by omega)
    have han := and_i64_one (a := shr s y) (shr_lt (show s < 256 by omega))
    rw [shr_bit s (by omega) y] at han
    have hps : bor s (pw y) < pw n := bor_small n hn s hs y hlt
    have hor := or_i64 (a := s) (b := pw y) (by omega) (pw_lt (show y < 8 by omega))
    have hpd : pushY w s x c1 y = if (!s.testBit y && (w x).testBit y) = true then updZ c1 (bor s (pw y)) y (IntKind.i64.wrap (c1 (bor s (pw y)) y + c1 s x)) else c1 := rfl
    have l1 := loadT (s := 1) ht' hps (show y < 7 by omega)
    have l2 := loadT (s := 1) ht' hs (show x < 7 by omega)
    rw [wp_round c31_l1.eq_1]
    cases e1 : s.testBit y
    · rw [e1] at han
      cases e2 : (w x).testBit y
      · rw [e1, e2] at hpd
        simp at hpd
        rw [hpd] at next
        simp [go_sem, hlt, hsh, han, h66, e2, hz]
        exact next
      · rw [e1, e2] at hpd
        simp only [Bool.not_false, Bool.and_self, if_true] at hpd
        rw [hpd] at next
        generalize bor s (pw y) = t at *
        simp [go_sem, hlt, hsh, han, h66, e2, hz, shl_i64 (show y < 62 by omega), hor, hps, hs, show y < 7 by omega, show x < 7 by omega, l1, l2]
        rw [storeT ht' hps (by omega) hbar, List.set_set]
        simp [go_sem, hz]
        exact next
    · rw [e1] at han hpd
      simp at hpd
      rw [hpd] at next
      simp [go_sem, hlt, hsh, han, hz]
      exact next
end
end Go.Proofs.Ytnlebofipoepfaa.Code
end
section
namespace Go.Proofs.Ytnlebofipoepfaa.Code
open Go Go.Ab
variable {pure : Bool} {base bar : Nat} {H : Heap} {Q : AV → Heap → Prop}
section
variable {ib ver fz id n : Nat} {ex : Bool} {w : Nat → Nat} {cs : List AV}
theorem l31b {s : Nat} {c : Nat → Nat → Int} (hid : H[ib]? = some (.row ver (bcells n w) fz ex)) (ht : H[id]? = some (.row 0 cs 0 true)) (hne : ib ≠ id) (hw : ∀ x, w x < 256) (hn : n ≤ 7) (hs : s < pw n) (hbar : bar ≤ id) {R : PQ} :
    ∀ (k x : Nat), x + k = n →
    R (.exit 4) [(4, .ptr ib ver 0), (6, .fn 66 [.ptr ib ver 0] []), (7, .vec id 0 0 (pw n) 7), (46, .int .i64 (pw n : Nat)), (47, .int .i64 (s : Nat)), (9, .int .i64 (s : Nat)), (53, .int .i64 (n : Nat)), (54, .int .i64 (n : Nat)), (55, .bool false)] (H.set id (.row 0 (tcells (pw n) (pushS w n c s)) 0 true)) →
    Wp E base bar (.loop c31_l2) [(4, .ptr ib ver 0), (6, .fn 66 [.ptr ib ver 0] []), (7, .vec id 0 0 (pw n) 7), (46, .int .i64 (pw n : Nat)), (47, .int .i64 (s : Nat)), (9, .int .i64 (s : Nat)), (53, .int .i64 (n : Nat)), (54, .int .i64 (x : Nat))] (H.set id (.row 0 (tcells (pw n) ((List.range x).foldl (pushX w n s) c)) 0 true)) R := by
  intro k
  induction k with
  | zero =>
    intro x hx h
    obtain rfl : x = n := by omega
    rw [wp_round c31_l2.eq_1]
    simp [go_sem]
    exact h
  | succ k ih =>
    intro x hx h
    have hlt : x < n := by omega
    have next := ih (x + 1) (by omega) h
    rw [foldl_succ] at next
    generalize (List.range x).foldl (pushX w n s) c = c1 at *
    have hid' : (H.set id (.row 0 (tcells (pw n) c1) 0 true))[ib]? = some (.row ver (bcells n w) fz ex) := by rw [List.getElem?_set_ne (Ne.symm hne)]; exact hid
    have hin := fun (R : PQ) => l31a (base := base) (c := c1) (R := R) hid ht hne hw hn hs hlt hbar n 0 (by omega)
    have hpx : pushX w n s c1 x = (List.range n).foldl (pushY w s x) c1 := rfl
    have h0 : (List.range 0).foldl (pushY w s x) c1 = c1 := rfl
    rw [h0] at hin
    generalize pushX w n s c1 x = c2 at *
    rw [wp_round c31_l2.eq_1]
    simp [go_sem, hlt, loadBN hid']
    refine hin _ ?_
    simp [go_sem, i64_suc (show x < 1000000 by omega)]
    exact next
theorem l31c {c : Nat → Nat → Int} (hid : H[ib]? = some (.row ver (bcells n w) fz ex)) (ht : H[id]? = some (.row 0 cs 0 true)) (hne : ib ≠ id) (hw : ∀ x, w x < 256) (hn : n ≤ 7) (hbar : bar ≤ id) {R : PQ} :
    ∀ (k s : Nat), s + k = pw n →
    R (.exit 2) [(4, .ptr ib ver 0), (6, .fn 66 [.ptr ib ver 0] []), (7, .vec id 0 0 (pw n) 7), (46, .int .i64 (pw n : Nat)), (47, .int .i64 (pw n : Nat)), (48, .bool false)] (H.set id (.row 0 (tcells (pw n) ((List.range (pw n)).foldl (pushS w n) c)) 0 true)) →
    Wp E base bar (.loop c31_l3) [(4, .ptr ib ver 0), (6, .fn 66 [.ptr ib ver 0] []), (7, .vec id 0 0 (pw n) 7), (46, .int .i64 (pw n : Nat)), (47, .int .i64 (s : Nat))] (H.set id (.row 0 (tcells (pw n) ((List.range s).foldl (pushS w n) c)) 0 true)) R := by
  have hpn : pw n ≤ 128 := Nat.pow_le_pow_right (by decide) hn
  intro k
  induction k with
  | zero =>
    intro s hs h
    obtain rfl : s = pw n := by omega
    rw [wp_round c31_l3.eq_1]
    simp [go_sem]
    exact h
  | succ k ih =>
    intro s hs h
    have hlt : s < pw n := by omega
    have next := ih (s + 1) (by omega) h
    rw [foldl_succ] at next
    generalize (List.range s).foldl (pushS w n) c = c1 at *
    have hid' : (H.set id (.row 0 (tcells (pw n) c1) 0 true))[ib]? = some (.row ver (bcells n w) fz ex) := by rw [List.getElem?_set_ne (Ne.symm hne)]; exact hid
    have hin := fun (R : PQ) => l31b (base := base) (c := c1) (R := R) hid ht hne hw hn hlt hbar n 0 (by omega)
    have h0 : (List.range 0).foldl (pushX w n s) c1 = c1 := rfl
    rw [h0] at hin
    generalize pushS w n c1 s = c2 at *
    rw [wp_round c31_l3.eq_1]
    simp [go_sem, hlt, loadBN hid']
    refine hin _ ?_
    simp [go_sem, i64_suc (show s < 1000000 by omega)]
    exact next
theorem l31d (hid : H[ib]? = some (.row ver (bcells n w) fz ex)) (ht : H[id]? = some (.row 0 cs 0 true)) (hne : ib ≠ id) (hn : n ≤ 7) (hbar : bar ≤ id) {R : PQ} :
    ∀ (k x : Nat), x + k = n →
    R (.exit 0) [(4, .ptr ib ver 0), (6, .fn 66 [.ptr ib ver 0] []), (7, .vec id 0 0 (pw n) 7), (34, .int .i64 (n : Nat)), (35, .int .i64 (n : Nat)), (36, .bool false)] (H.set id (.row 0 (tcells (pw n) (startC n)) 0 true)) →
    Wp E base bar (.loop c31_l0) [(4, .ptr ib ver 0), (6, .fn 66 [.ptr ib ver 0] []), (7, .vec id 0 0 (pw n) 7), (34, .int .i64 (n : Nat)), (35, .int .i64 (x : Nat))] (H.set id (.row 0 (tcells (pw n) ((List.range x).foldl (fun c x => updZ c (pw x) x 1) fun _ _ => 0)) 0 true)) R := by
  intro k
  induction k with
  | zero =>
    intro x hx h
    obtain rfl : x = n := by omega
    rw [wp_round c31_l0.eq_1]
    simp [go_sem]
    exact h
  | succ k ih =>
    intro x hx h
    have hlt : x < n := by omega
    have next := ih (x + 1) (by omega) h
    rw [foldl_succ] at next
    generalize (List.range x).foldl (fun c x => updZ c (pw x) x 1) (fun _ _ => 0) = c1 at *
    have ht' : (H.set id (.row 0 (tcells (pw n) c1) 0 true))[id]? = some (.row 0 (tcells (pw n) c1) 0 true) := set_get ht
    have hpx : pw x < pw n := Nat.pow_lt_pow_right (by decide) hlt
    rw [wp_round c31_l0.eq_1]
    have hsl := shl_i64 (n := x) (by omega)
    generalize pw x = p at *
    simp [go_sem, hlt, hsl, hpx, show x < 7 by omega]
    rw [storeT ht' hpx (by omega) hbar, List.set_set]
    simp [go_sem, i64_suc (show x < 1000000 by omega)]
    exact next
def sumW (g : Nat → Int) (k : Nat) : Int := (List.range k).foldl (fun a i => IntKind.i64.wrap (a + g i)) 0
theorem l31e {g : Nat → Int} {R : PQ} : ∀ (k i : Nat), i + k = 7 →
    R (.exit 8) [(12, .int .i64 (sumW g 7)), (100, .agg (zcells g)), (101, .int .i64 7), (102, .bool false)] H →
    Wp E base bar (.loop c31_l4) [(12, .int .i64 (sumW g i)), (100, .agg (zcells g)), (101, .int .i64 (i : Nat))] H R := by
  intro k
  induction k with
  | zero =>
    intro i hi h
    obtain rfl : i = 7 := by omega
    rw [wp_round c31_l4.eq_1]
    simp [go_sem]
    exact h
  | succ k ih =>
    intro i hi h
    have hlt : i < 7 := by omega
    have next := ih (i + 1) (by omega) h
    have hst : sumW g (i + 1) = IntKind.i64.wrap (sumW g i + g i) := by unfold sumW; rw [foldl_succ]
    rw [hst] at next
    generalize sumW g i = a at *
    rw [wp_round c31_l4.eq_1]
    simp [go_sem, hlt, show (i : Int) < 7 by omega]
    rw [zcells_get hlt]
    simp [go_sem, i64_suc (show i < 1000000 by omega)]
    exact next
end
def rowsZ (w : Nat → Nat) (n : Nat) : Int := sumW ((List.range (pw n)).foldl (pushS w n) (startC n) (pw n - 1)) 7
set_option maxRecDepth 4000 in
theorem k31 {n : Nat} {q : AV} {l : List ZZ} (hq : isP q l) (hl : l.length < 1000) (hm : OkC n l) (hbar : bar ≤ H.length)
    (h : Q (.tup [.int .i64 (rowsZ (boardF l fun _ => 0) n), .int .i64 0]) H) : WpCall E pure base bar 31 [.agg [.int .i64 (n : Int), q]] H Q := by
  rw [call31]
  have hb' := bar_ok (pure := pure) hbar
  have e0 : H ++ [.row 0 [.int .i64 (n : Int), q] 0 true] = HI H n q := rfl
  obtain ⟨hbd, hbit⟩ := hm.board
  have hn := hm.le
  have hpos := hm.pos
  have hpn : pw n ≤ 128 := Nat.pow_le_pow_right (by decide) hn
  have hp1 : 1 ≤ pw n := Nat.one_le_two_pow
  simp [go_sem, WpFun, c31, hq.frz, e0, HI_h] at hb' ⊢
  generalize (if pure = true then H.length else bar) = bar' at hb' ⊢
  refine k56 hq hl (by rw [HI_len]; omega) (fun hc => absurd hm.check hc) (fun m hnm _ _ _ => ?_)
  obtain rfl : n = m := by omega
  have hX1 : (HI H (n : Int) q ++ [Blk.row 0 (bcells n (boardF l fun _ => 0)) 0 true])[H.length + 1]? = some (.row 0 (bcells n (boardF l fun _ => 0)) 0 true) := by simp [HI, own_get]
  have hXl : (HI H (n : Int) q ++ [Blk.row 0 (bcells n (boardF l fun _ => 0)) 0 true]).length = H.length + 2 := by simp [HI]
  have hXt : (HI H (n : Int) q ++ [Blk.row 0 (bcells n (boardF l fun _ => 0)) 0 true]).take H.length = H := by simp [HI]
  rw [HI_len]
  generalize HI H (n : Int) q ++ [Blk.row 0 (bcells n (boardF l fun _ => 0)) 0 true] = X at *
  have hsl := shl_i64 (n := n) (by omega)
  have z7 := tcells_zero (M := pw n)
  unfold rowsZ at h
  generalize hw : (boardF l fun _ => 0) = w at *
  simp [go_sem, loadBN hX1, hsl, aop, AV.asNat]
  rw [if_pos (show pw n * 56 ≤ 140737488355328 by omega), z7, hXl]
  obtain ⟨Y, hY⟩ : ∃ Y, Y = X ++ [.row 0 (tcells (pw n) fun _ _ => 0) 0 true] := ⟨_, rfl⟩
  have hY1 : Y[H.length + 1]? = some (.row 0 (bcells n w) 0 true) := by rw [hY, List.getElem?_append_left (by omega)]; exact hX1
  have hY2 : Y[H.length + 2]? = some (.row 0 (tcells (pw n) fun _ _ => 0) 0 true) := by rw [hY, List.getElem?_append_right (by omega), hXl]; simp
  have hYt : Y.take H.length = H := by rw [hY, List.take_append_of_le_length (by omega)]; exact hXt
  have hYl : Y.length = H.length + 3 := by rw [hY]; simp [hXl]
  rw [← hY]
  have ln : aload Y ⟨false, 1⟩ (.ptr (H.length + 1) 0 0) = some (.int .i64 (n : Nat)) := loadBN hY1
  simp [go_sem, ln]
  have hst : Y = Y.set (H.length + 2) (.row 0 (tcells (pw n) ((List.range 0).foldl (fun c x => updZ c (pw x) x 1) fun _ _ => 0)) 0 true) := by
    apply List.ext_getElem?
    intro j
    rw [List.getElem?_set]
    by_cases hj : H.length + 2 = j
    · subst hj; rw [if_pos rfl, if_pos (by omega), hY2]; rfl
    · rw [if_neg hj]
  rw [hst]
  refine l31d (w := w) hY1 hY2 (by omega) hn (by omega) n 0 (by omega) ?_
  simp [go_sem]
  refine l31c (c := startC n) hY1 hY2 (by omega) hbd.lt hn (by omega) (pw n) 0 (by omega) ?_
  generalize (List.range (pw n)).foldl (pushS w n) (startC n) = c at *
  have hZ1 : (Y.set (H.length + 2) (.row 0 (tcells (pw n) c) 0 true))[H.length + 1]? = some (.row 0 (bcells n w) 0 true) := by rw [List.getElem?_set_ne (by omega)]; exact hY1
  have hZ2 : (Y.set (H.length + 2) (.row 0 (tcells (pw n) c) 0 true))[H.length + 2]? = some (.row 0 (tcells (pw n) c) 0 true) := set_get hY2
  have hZt : (Y.set (H.length + 2) (.row 0 (tcells (pw n) c) 0 true)).take H.length = H := by rw [List.take_set_of_le (by omega)]; exact hYt
  generalize Y.set (H.length + 2) (.row 0 (tcells (pw n) c) 0 true) = Z at *
  have h59 := fun (P : Bool) (B C : Nat) (Q : AV → Heap → Prop) => k59 (pure := P) (base := B) (bar := C) (Q := Q) hZ1 hn
  have hlt : pw n - 1 < pw n := by omega
  have ltt := loadTT hZ2 hlt
  generalize pw n - 1 = m at *
  simp [go_sem, h59, hlt, ltt]
  refine l31e (g := c m) 7 0 (by omega) ?_
  simp [go_sem, hZt]
  exact h
end Go.Proofs.Ytnlebofipoepfaa.Code
end
section
namespace Go.Proofs.Ytnlebofipoepfaa.Code
open Go Go.Ab
/-! sums of numbers with signs -/
def sumZ (f : Nat → Int) : Nat → Int
  | 0 => 0
  | n + 1 => sumZ f n + f n
theorem sumZ_congr {f g : Nat → Int} : ∀ {n : Nat}, (∀ x, x < n → f x = g x) → sumZ f n = sumZ g n
  | 0, _ => rfl
  | n + 1, h => by
    simp only [sumZ]
    rw [sumZ_congr fun x hx => h x (by omega), h n (by omega)]
theorem sumZ_add {f g : Nat → Int} : ∀ {n : Nat}, sumZ (fun x => f x + g x) n = sumZ f n + sumZ g n
  | 0 => rfl
  | n + 1 => by simp only [sumZ]; rw [sumZ_add]; omega
theorem sumZ_zero : ∀ {n : Nat}, sumZ (fun _ => 0) n = 0
  | 0 => rfl
  | n + 1 => by simp only [sumZ]; rw [sumZ_zero]; rfl
theorem sumZ_at {a : Nat} {c : Int} : ∀ {n : Nat}, sumZ (fun x => if x = a then c else 0) n = if a < n then c else 0
  | 0 => rfl
  | n + 1 => by
    simp only [sumZ]
    rw [sumZ_at]
    by_cases h : n = a
    · subst h
      rw [if_neg (by omega), if_pos rfl, if_pos (by omega)]; omega
    · rw [if_neg h]
      by_cases h2 : a < n
      · rw [if_pos h2, if_pos (by omega)]; omega
      · rw [if_neg h2, if_neg (by omega)]; rfl
theorem sumZ_cut {g : Nat → Int} {n : Nat} : ∀ d, (∀ z, n ≤ z → g z = 0) → sumZ g (n + d) = sumZ g n
  | 0, _ => rfl
  | d + 1, h => by
    show sumZ g (n + d) + g (n + d) = _
    rw [sumZ_cut d h, h _ (by omega)]; omega
theorem len_flat {α : Type} {g : Nat → List α} : ∀ n, (((List.range' 0 n).flatMap g).length : Int) = sumZ (fun x => ((g x).length : Int)) n
  | 0 => rfl
  | n + 1 => by
    rw [← List.range_eq_range', List.range_succ, List.flatMap_append, List.length_append, List.range_eq_range']
    have := len_flat (g := g) n
    simp only [List.flatMap_singleton, sumZ, Int.natCast_add]
    rw [this]
/-- the same but for a multiple of 2 ^ 64 -/
def cong (a b : Int) : Prop := ∃ k : Int, a = b + k * 18446744073709551616
theorem cong.refl {a : Int} : cong a a := ⟨0, by omega⟩
theorem cong.trans {a b c : Int} : cong a b → cong b c → cong a c
  | ⟨k, h1⟩, ⟨m, h2⟩ => ⟨k + m, by rw [h1, h2, Int.add_mul]; omega⟩
theorem cong.add {a b c d : Int} : cong a b → cong c d → cong (a + c) (b + d)
  | ⟨k, h1⟩, ⟨m, h2⟩ => ⟨k + m, by rw [h1, h2, Int.add_mul]; omega⟩
theorem cong.mul {a b : Int} (c : Int) : cong a b → cong (a * c) (b * c)
  | ⟨k, h⟩ => ⟨k * c, by rw [h, Int.add_mul, Int.mul_right_comm]⟩
theorem cong.wrap (a : Int) : cong (IntKind.i64.wrap a) a := wrap_ex a
theorem cong.eq {a b : Int} : cong a b → IntKind.i64.wrap a = IntKind.i64.wrap b
  | ⟨k, h⟩ => by rw [h, wrap_cong]
/-! in how many ways a row can be ended -/
def Rk (f : Nat → Nat → Bool) (n : Nat) : Nat → Nat → Nat → Int
  | 0, _, _ => 1
  | k + 1, t, z => sumZ (fun y => if (!t.testBit y && f z y) = true then Rk f n k (bor t (pw y)) y else 0) n
def Re (f : Nat → Nat → Bool) (n t z : Nat) : Int := Rk f n (n - (bitsOf t).length) t z
def phi (f : Nat → Nat → Bool) (n : Nat) (c : Nat → Nat → Int) (S : Nat) : Int := sumZ (fun t => if S ≤ t then sumZ (fun z => c t z * Re f n t z) 7 else 0) (pw n)
section
variable {f : Nat → Nat → Bool} {n : Nat}
theorem phi_upd {c : Nat → Nat → Int} {a b S : Nat} {v : Int} (hb : b < 7) : phi f n (updZ c a b v) S = phi f n c S + if S ≤ a ∧ a < pw n then (v - c a b) * Re f n a b else 0 := by
  have hin : ∀ t, sumZ (fun z => updZ c a b v t z * Re f n t z) 7 = sumZ (fun z => c t z * Re f n t z) 7 + if t = a then (v - c a b) * Re f n a b else 0 := fun t => by
    by_cases ht : t = a
    · subst ht
      rw [if_pos rfl]
      have : sumZ (fun z => updZ c t b v t z * Re f n t z) 7 = sumZ (fun z => c t z * Re f n t z + if z = b then (v - c t b) * Re f n t b else 0) 7 := sumZ_congr fun z _ => by
        by_cases hz : z = b
        · subst hz; simp [updZ, Int.sub_mul]; omega
        · simp [updZ, hz]
      rw [this, sumZ_add, sumZ_at, if_pos hb]
    · rw [if_neg ht, Int.add_zero]
      exact sumZ_congr fun z _ => by simp [updZ, ht]
  unfold phi
  have : (fun t => if S ≤ t then sumZ (fun z => updZ c a b v t z * Re f n t z) 7 else 0) = fun t => (if S ≤ t then sumZ (fun z => c t z * Re f n t z) 7 else 0) + if t = a then (if S ≤ a then (v - c a b) * Re f n a b else 0) else 0 := by
    funext t
    rw [hin]
    by_cases ht : t = a
    · subst ht
      by_cases hS : S ≤ t <;> simp [hS]
    · simp [ht]
  rw [this, sumZ_add, sumZ_at]
  congr 1
  by_cases h1 : a < pw n <;> by_cases h2 : S ≤ a <;> simp [h1, h2]
theorem phi_cut {c : Nat → Nat → Int} {s : Nat} (hs : s < pw n) : phi f n c s = phi f n c (s + 1) + sumZ (fun z => c s z * Re f n s z) 7 := by
  unfold phi
  have : (fun t => if s ≤ t then sumZ (fun z => c t z * Re f n t z) 7 else 0) = fun t => (if s + 1 ≤ t then sumZ (fun z => c t z * Re f n t z) 7 else 0) + if t = s then sumZ (fun z => c s z * Re f n s z) 7 else 0 := by
    funext t
    rcases Nat.lt_trichotomy t s with h | h | h
    · rw [if_neg (by omega), if_neg (by omega), if_neg (by omega)]; rfl
    · subst h; rw [if_pos (Nat.le_refl _), if_neg (by omega), if_pos rfl]; omega
    · rw [if_pos (by omega), if_pos (by omega), if_neg (by omega)]; omega
  rw [this, sumZ_add, sumZ_at, if_pos hs]
def Ty (f : Nat → Nat → Bool) (n s x y : Nat) : Int := if (!s.testBit y && f x y) = true then Re f n (bor s (pw y)) y else 0
variable {w : Nat → Nat}
theorem bor_gt : ∀ s, s < 128 → ∀ y, y < 7 → s.testBit y = false → s < bor s (pw y) := by decide +kernel
theorem pushY_phi (hw : ∀ x y, (w x).testBit y = f x y) (hn : n ≤ 7) {s x y : Nat} {c : Nat → Nat → Int} (hs : s < pw n) (hy : y < n) :
    cong (phi f n (pushY w s x c y) (s + 1)) (phi f n c (s + 1) + c s x * Ty f n s x y) ∧ ∀ z, pushY w s x c y s z = c s z := by
  have hpn : pw n ≤ 128 := Nat.pow_le_pow_right (by decide) hn
  unfold pushY Ty
  rw [hw]
  split
  · rename_i hc
    rw [Bool.and_eq_true, Bool.not_eq_true'] at hc
    have hgt := bor_gt s (by omega) y (by omega) hc.1
    have hlt := bor_small n hn s hs y hy
    refine ⟨?_, fun z => ?_⟩
    · rw [phi_upd (by omega), if_pos ⟨by omega, hlt⟩]
      refine cong.refl.add (cong.mul _ ?_)
      obtain ⟨k, hk⟩ := wrap_ex (c (bor s (pw y)) y + c s x)
      exact ⟨k, by rw [hk]; omega⟩
    · unfold updZ
      rw [if_neg (by omega)]
  · rw [Int.mul_zero, Int.add_zero]
    exact ⟨cong.refl, fun _ => rfl⟩
theorem pushYs_phi (hw : ∀ x y, (w x).testBit y = f x y) (hn : n ≤ 7) {s x : Nat} {c : Nat → Nat → Int} (hs : s < pw n) : ∀ k, k ≤ n →
    cong (phi f n ((List.range k).foldl (pushY w s x) c) (s + 1)) (phi f n c (s + 1) + c s x * sumZ (Ty f n s x) k) ∧ ∀ z, (List.range k).foldl (pushY w s x) c s z = c s z
  | 0, _ => ⟨by simp only [sumZ, Int.mul_zero, Int.add_zero]; exact cong.refl, fun _ => rfl⟩
  | k + 1, hk => by
    obtain ⟨h1, h2⟩ := pushYs_phi hw hn (s := s) (x := x) (c := c) hs k (by omega)
    obtain ⟨g1, g2⟩ := pushY_phi hw hn (s := s) (x := x) (c := (List.range k).foldl (pushY w s x) c) hs (show k < n by omega)
    rw [foldl_succ]
    refine ⟨g1.trans ?_, fun z => by rw [g2, h2]⟩
    rw [h2]
    simp only [sumZ]
    rw [Int.mul_add, ← Int.add_assoc]
    exact h1.add cong.refl
theorem pushXs_phi (hw : ∀ x y, (w x).testBit y = f x y) (hn : n ≤ 7) {s : Nat} {c : Nat → Nat → Int} (hs : s < pw n) : ∀ k, k ≤ n →
    cong (phi f n ((List.range k).foldl (pushX w n s) c) (s + 1)) (phi f n c (s + 1) + sumZ (fun x => c s x * sumZ (Ty f n s x) n) k) ∧ ∀ z, (List.range k).foldl (pushX w n s) c s z = c s z
  | 0, _ => ⟨by simp only [sumZ, Int.add_zero]; exact cong.refl, fun _ => rfl⟩
  | k + 1, hk => by
    obtain ⟨h1, h2⟩ := pushXs_phi hw hn (s := s) (c := c) hs k (by omega)
    obtain ⟨g1, g2⟩ := pushYs_phi hw hn (s := s) (x := k) (c := (List.range k).foldl (pushX w n s) c) hs n (Nat.le_refl _)
    rw [foldl_succ]
    have hx : pushX w n s ((List.range k).foldl (pushX w n s) c) k = (List.range n).foldl (pushY w s k) ((List.range k).foldl (pushX w n s) c) := rfl
    rw [hx]
    refine ⟨g1.trans ?_, fun z => by rw [g2, h2]⟩
    rw [h2]
    simp only [sumZ]
    rw [← Int.add_assoc]
    exact h1.add cong.refl
theorem card_lt {s : Nat} (hn : n ≤ 7) (hs : s < pw n - 1) : (bitsOf s).length < n := by
  have : ∀ n, n ≤ 7 → ∀ s, s < pw n - 1 → (bitsOf s).length < n := by decide +kernel
  exact this n hn s hs
theorem Ty_sum {s x : Nat} (hn : n ≤ 7) (hs : s < pw n - 1) : sumZ (Ty f n s x) n = Re f n s x := by
  have hpn : pw n ≤ 128 := Nat.pow_le_pow_right (by decide) hn
  have hc := card_lt hn hs
  unfold Re
  obtain ⟨k, hk⟩ : ∃ k, n - (bitsOf s).length = k + 1 := ⟨n - (bitsOf s).length - 1, by omega⟩
  rw [hk]
  show _ = sumZ (fun y => if (!s.testBit y && f x y) = true then Rk f n k (bor s (pw y)) y else 0) n
  refine sumZ_congr fun y hy => ?_
  unfold Ty
  split
  · rename_i hcd
    rw [Bool.and_eq_true, Bool.not_eq_true'] at hcd
    unfold Re
    rw [bits_put s (by omega) y (by omega) hcd.1, show n - ((bitsOf s).length + 1) = k by omega]
  · rfl
theorem Re_out {s z : Nat} (hn : n ≤ 7) (hs : s < pw n - 1) (hd : ∀ x y, f x y = true → x < n ∧ y < n) (hz : n ≤ z) : Re f n s z = 0 := by
  rw [← Ty_sum hn hs, ← sumZ_zero (n := n)]
  refine sumZ_congr fun y hy => ?_
  unfold Ty
  rw [if_neg]
  intro hc
  rw [Bool.and_eq_true] at hc
  have := hd z y hc.2
  omega
theorem pushS_phi (hw : ∀ x y, (w x).testBit y = f x y) (hn : n ≤ 7) (hd : ∀ x y, f x y = true → x < n ∧ y < n) {s : Nat} {c : Nat → Nat → Int} (hs : s < pw n - 1) : cong (phi f n (pushS w n c s) (s + 1)) (phi f n c s) := by
  have hs' : s < pw n := by omega
  rw [phi_cut hs']
  refine (pushXs_phi hw hn hs' n (Nat.le_refl _)).1.trans ?_
  have e1 : sumZ (fun z => c s z * Re f n s z) 7 = sumZ (fun z => c s z * Re f n s z) n := by
    have := sumZ_cut (g := fun z => c s z * Re f n s z) (n := n) (7 - n) fun z hz => by rw [Re_out hn hs hd hz, Int.mul_zero]
    rw [show n + (7 - n) = 7 by omega] at this
    exact this
  rw [e1, sumZ_congr (f := fun x => c s x * sumZ (Ty f n s x) n) (g := fun z => c s z * Re f n s z) fun x _ => by rw [Ty_sum hn hs]]
  exact cong.refl
theorem all_phi (hw : ∀ x y, (w x).testBit y = f x y) (hn : n ≤ 7) (hd : ∀ x y, f x y = true → x < n ∧ y < n) {c : Nat → Nat → Int} : ∀ s, s ≤ pw n - 1 → cong (phi f n ((List.range s).foldl (pushS w n) c) s) (phi f n c 0)
  | 0, _ => cong.refl
  | s + 1, hs => by
    rw [foldl_succ]
    exact (pushS_phi hw hn hd (by omega)).trans (all_phi hw hn hd s (by omega))
theorem last_same (hn : n ≤ 7) {c : Nat → Nat → Int} : pushS w n c (pw n - 1) = c := by
  have hy : ∀ x y c, y < n → pushY w (pw n - 1) x c y = c := fun x y c hy => by
    unfold pushY
    rw [testBit_all, decide_eq_true hy]
    rfl
  have hx : ∀ x c k, k ≤ n → (List.range k).foldl (pushY w (pw n - 1) x) c = c := fun x c k => by
    induction k with
    | zero => exact fun _ => rfl
    | succ k ih => exact fun hk => by rw [foldl_succ, ih (by omega), hy _ _ _ (by omega)]
  have hs : ∀ k, (List.range k).foldl (pushX w n (pw n - 1)) c = c := fun k => by
    induction k with
    | zero => rfl
    | succ k ih => rw [foldl_succ, ih]; exact hx _ _ _ (Nat.le_refl _)
  exact hs n
theorem start_phi (hn : n ≤ 7) : ∀ k, k ≤ n → phi f n ((List.range k).foldl (fun c x => updZ c (pw x) x 1) fun _ _ => 0) 0 = sumZ (fun x => Re f n (pw x) x) k ∧ ∀ x, k ≤ x → (List.range k).foldl (fun c x => updZ c (pw x) x 1) (fun _ _ => 0) (pw x) x = 0
  | 0, _ => by
    refine ⟨?_, fun _ _ => rfl⟩
    show phi f n (fun _ _ => 0) 0 = 0
    unfold phi
    refine Eq.trans (sumZ_congr (g := fun _ => 0) fun t _ => ?_) sumZ_zero
    rw [if_pos (Nat.zero_le _)]
    exact Eq.trans (sumZ_congr (g := fun _ => 0) fun z _ => Int.zero_mul _) sumZ_zero
  | k + 1, hk => by
    obtain ⟨h1, h2⟩ := start_phi hn k (by omega)
    have hpk : pw k < pw n := Nat.pow_lt_pow_right (by decide) (show k < n by omega)
    rw [foldl_succ]
    refine ⟨?_, fun x hx => ?_⟩
    · rw [phi_upd (by omega), if_pos ⟨Nat.zero_le _, hpk⟩, h1, h2 k (Nat.le_refl _)]
      simp only [sumZ]
      omega
    · unfold updZ
      rw [if_neg (by omega)]
      exact h2 x (by omega)
theorem rows_Rk : ∀ (k : Nat) (s : List Nat) (t : Nat), s ≠ [] → (∀ y, t.testBit y = s.contains y) → ((rowsR f n k s).length : Int) = Rk f n k t (lastN s)
  | 0, s, t, _, _ => rfl
  | k + 1, s, t, h0, ht => by
    have hne : s.isEmpty = false := by cases s with
      | nil => exact absurd rfl h0
      | cons a b => rfl
    unfold rowsR
    rw [len_flat]
    refine sumZ_congr fun y hy => ?_
    rw [hne, Bool.false_or, ht]
    split
    · rw [rows_Rk k (s ++ [y]) (bor t (pw y)) (by simp) fun z => by
        rw [testBit_bor, testBit_pw, ht, List.contains_eq_mem, List.contains_eq_mem]
        simp only [List.mem_append, List.mem_singleton, ← Bool.decide_or, decide_eq_decide]
        constructor
        · rintro (h | h)
          · exact .inl h
          · exact .inr h.symm
        · rintro (h | h)
          · exact .inl h
          · exact .inr h.symm]
      rw [lastN_snoc]
    · rfl
theorem rows_start (hn : n ≤ 7) (h1 : 1 ≤ n) : ((rowsR f n n []).length : Int) = sumZ (fun x => Re f n (pw x) x) n := by
  obtain ⟨m, rfl⟩ : ∃ m, n = m + 1 := ⟨n - 1, by omega⟩
  unfold rowsR
  rw [len_flat]
  refine sumZ_congr fun x hx => ?_
  have hc : ∀ x, x < 7 → (bitsOf (pw x)).length = 1 := by decide
  rw [if_pos (show (!([] : List Nat).contains x && (([] : List Nat).isEmpty || f (lastN []) x)) = true from rfl), List.nil_append, rows_Rk m [x] (pw x) (by simp) fun z => by
    rw [testBit_pw, List.contains_eq_mem]
    simp [eq_comm]]
  unfold Re
  rw [hc x (by omega), Nat.add_sub_cancel]
  rfl
theorem sumW_cong {g : Nat → Int} : ∀ k, cong (sumW g k) (sumZ g k)
  | 0 => cong.refl
  | k + 1 => by
    have hst : sumW g (k + 1) = IntKind.i64.wrap (sumW g k + g k) := by unfold sumW; rw [foldl_succ]
    rw [hst]
    exact (cong.wrap _).trans ((sumW_cong k).add cong.refl)
/-- the program's number of rows -/
theorem rows_eq (hw : ∀ x y, (w x).testBit y = f x y) (hn : n ≤ 7) (h1 : 1 ≤ n) (hd : ∀ x y, f x y = true → x < n ∧ y < n) : rowsZ w n = ((rowsR f n n []).length : Int) := by
  have hp1 : 1 < pw n := Nat.one_lt_two_pow (by omega)
  obtain ⟨M, hM⟩ : ∃ M, pw n = M + 1 := ⟨pw n - 1, by omega⟩
  unfold rowsZ
  have hc : (List.range (pw n)).foldl (pushS w n) (startC n) = (List.range (pw n - 1)).foldl (pushS w n) (startC n) := by
    have hl := last_same (w := w) hn (c := (List.range (pw n - 1)).foldl (pushS w n) (startC n))
    have : (List.range (pw n)).foldl (pushS w n) (startC n) = pushS w n ((List.range (pw n - 1)).foldl (pushS w n) (startC n)) (pw n - 1) := by
      rw [hM, foldl_succ]; rfl
    rw [this, hl]
  rw [hc]
  have ha := all_phi hw hn hd (c := startC n) (pw n - 1) (Nat.le_refl _)
  generalize (List.range (pw n - 1)).foldl (pushS w n) (startC n) = c at *
  have hs := (start_phi (f := f) hn n (Nat.le_refl _)).1
  have hs' : phi f n (startC n) 0 = sumZ (fun x => Re f n (pw x) x) n := hs
  rw [hs', ← rows_start hn h1, phi_cut (s := pw n - 1) (by omega)] at ha
  have hz : phi f n c (pw n - 1 + 1) = 0 := by
    unfold phi
    exact Eq.trans (sumZ_congr (g := fun _ => 0) fun t ht => if_neg (by omega)) sumZ_zero
  have hfull : sumZ (fun z => c (pw n - 1) z * Re f n (pw n - 1) z) 7 = sumZ (c (pw n - 1)) 7 := sumZ_congr fun z _ => by
    unfold Re
    rw [bits_all hn, Nat.sub_self]
    exact Int.mul_one _
  rw [hz, hfull, Int.zero_add] at ha
  have hsw : sumW (c (pw n - 1)) 7 = IntKind.i64.wrap (sumW (c (pw n - 1)) 6 + c (pw n - 1) 6) := by unfold sumW; rw [foldl_succ (k := 6)]
  have hcg : cong (sumW (c (pw n - 1)) 6 + c (pw n - 1) 6) ((rowsR f n n []).length : Int) := ((sumW_cong 6).add cong.refl).trans ha
  rw [hsw, hcg.eq, i64_nat]
  have h1 := rowsR_len (f := f) hn n []
  have h2 : 7 ^ n ≤ 7 ^ 7 := Nat.pow_le_pow_right (by decide) hn
  have h3 : 7 ^ 7 = 823543 := by decide
  omega
end
end Go.Proofs.Ytnlebofipoepfaa.Code
end
section
namespace Go.Proofs.Ytnlebofipoepfaa.Code
open Go Go.Ab
/-! rows are the lists in which each one beat the next -/
def chainL (f : Nat → Nat → Bool) : List Nat → Prop
  | [] => True
  | [_] => True
  | a :: b :: r => f a b = true ∧ chainL f (b :: r)
theorem lastN_cons {a b : Nat} {r : List Nat} : lastN (a :: b :: r) = lastN (b :: r) := by
  simp [lastN, List.getD_eq_getElem?_getD]
theorem chainL_append {f : Nat → Nat → Bool} : ∀ {A B : List Nat}, A ≠ [] → B ≠ [] → (chainL f (A ++ B) ↔ chainL f A ∧ chainL f B ∧ f (lastN A) (B.getD 0 0) = true)
  | [], _, h, _ => absurd rfl h
  | [a], [], _, h => absurd rfl h
  | [a], b :: r, _, _ => by
    simp only [List.singleton_append, chainL, true_and]
    rw [and_comm]
    rfl
  | a :: a' :: r, B, _, hB => by
    have ih := chainL_append (f := f) (A := a' :: r) (B := B) (by simp) hB
    rw [lastN_cons]
    simp only [List.cons_append, chainL] at ih ⊢
    rw [ih, and_assoc]
theorem chainL_snoc {f : Nat → Nat → Bool} {s : List Nat} {x : Nat} : chainL f (s ++ [x]) ↔ chainL f s ∧ (s = [] ∨ f (lastN s) x = true) := by
  by_cases h : s = []
  · subst h; simp [chainL]
  · rw [chainL_append h (by simp)]
    simp [chainL, h]
structure Valid (f : Nat → Nat → Bool) (n : Nat) (L : List Nat) : Prop where
  nodup : L.Nodup
  lt : ∀ x ∈ L, x < n
  chain : chainL f L
section
variable {f : Nat → Nat → Bool} {n : Nat}
theorem rows_valid : ∀ {k : Nat} {s L : List Nat}, Valid f n s → L ∈ rowsR f n k s → Valid f n L ∧ L.take s.length = s ∧ L.length = s.length + k
  | 0, s, L, hv, h => by
    unfold rowsR at h
    rw [List.mem_singleton] at h; subst h
    exact ⟨hv, List.take_length, rfl⟩
  | k + 1, s, L, hv, h => by
    unfold rowsR at h
    obtain ⟨x, hx, hL⟩ := List.mem_flatMap.1 h
    split at hL
    · rename_i hc
      rw [Bool.and_eq_true, Bool.not_eq_true', Bool.or_eq_true] at hc
      have hxn : x < n := by have := List.mem_range'_1.1 hx; omega
      have hxs : x ∉ s := fun hm => by
        have := hc.1
        rw [List.contains_eq_mem, decide_eq_true hm] at this; cases this
      have hv' : Valid f n (s ++ [x]) := by
        refine ⟨?_, fun y hy => ?_, chainL_snoc.2 ⟨hv.chain, ?_⟩⟩
        · rw [List.nodup_append]
          refine ⟨hv.nodup, by simp, fun a ha b hb => ?_⟩
          rw [List.mem_singleton] at hb; subst hb
          exact fun he => hxs (he ▸ ha)
        · rcases List.mem_append.1 hy with hy | hy
          · exact hv.lt y hy
          · rw [List.mem_singleton] at hy; subst hy; exact hxn
        · rcases hc.2 with h | h
          · exact .inl (List.isEmpty_iff.1 h)
          · exact .inr h
      obtain ⟨h1, h2, h3⟩ := rows_valid hv' hL
      refine ⟨h1, ?_, by rw [h3]; simp; omega⟩
      have := congrArg (List.take s.length) h2
      rw [List.take_take, List.length_append, List.length_singleton, Nat.min_eq_left (by omega), List.take_left'] at this
      · exact this
      · rfl
    · simp at hL
theorem rows_has : ∀ {k : Nat} {s L : List Nat}, Valid f n L → L.length = s.length + k → L.take s.length = s → L ∈ rowsR f n k s
  | 0, s, L, _, h1, h2 => by
    unfold rowsR
    rw [List.mem_singleton, ← h2, List.take_of_length_le (by omega)]
  | k + 1, s, L, hv, h1, h2 => by
    have hlt : s.length < L.length := by omega
    have hs : L.take (s.length + 1) = s ++ [L[s.length]] := by rw [List.take_succ_eq_append_getElem hlt, h2]
    have ih := rows_has (k := k) (s := s ++ [L[s.length]]) hv (by simp; omega) (by rw [List.length_append, List.length_singleton, hs])
    unfold rowsR
    refine List.mem_flatMap.2 ⟨L[s.length], List.mem_range'_1.2 ⟨Nat.zero_le _, by have := hv.lt _ (List.getElem_mem hlt); omega⟩, ?_⟩
    have hch : chainL f (s ++ [L[s.length]]) := by
      rw [← hs]
      by_cases hd : L.drop (s.length + 1) = []
      · have : L.take (s.length + 1) = L := List.take_of_length_le (by have := List.drop_eq_nil_iff.1 hd; omega)
        rw [this]; exact hv.chain
      · have h3 := hv.chain
        rw [← List.take_append_drop (s.length + 1) L] at h3
        exact ((chainL_append (by intro h; have := congrArg List.length h; rw [List.length_take, List.length_nil] at this; omega) hd).1 h3).1
    have hxs : s.contains L[s.length] = false := by
      rw [List.contains_eq_mem, decide_eq_false_iff_not]
      intro hm
      have h3 : (L.take (s.length + 1)).Nodup := hv.nodup.sublist (List.take_sublist ..)
      rw [hs, List.nodup_append] at h3
      exact h3.2.2 _ hm _ (List.mem_singleton.2 rfl) rfl
    rw [hxs]
    have hch2 := (chainL_snoc.1 hch).2
    generalize L[s.length] = x at *
    rcases hch2 with h | h
    · have : s.isEmpty = true := by rw [h]; rfl
      rw [this]
      exact ih
    · rw [h, Bool.or_true]
      exact ih
/-! there is a row -/
def insertL (f : Nat → Nat → Bool) (m : Nat) : List Nat → List Nat
  | [] => [m]
  | a :: r => if f m a = true then m :: a :: r else a :: insertL f m r
theorem insertL_perm {m : Nat} : ∀ L, (insertL f m L).Perm (m :: L)
  | [] => List.Perm.refl _
  | a :: r => by
    unfold insertL
    split
    · exact List.Perm.refl _
    · exact ((insertL_perm r).cons a).trans (List.Perm.swap ..)
theorem insertL_chain {m : Nat} : ∀ {L : List Nat}, chainL f L → (∀ a ∈ L, f m a = false → f a m = true) → chainL f (insertL f m L)
  | [], _, _ => trivial
  | [a], _, h => by
    unfold insertL
    split
    · rename_i hc; exact ⟨hc, trivial⟩
    · rename_i hc; exact ⟨h a (by simp) (by simpa using hc), trivial⟩
  | a :: b :: r, hch, h => by
    have ih := insertL_chain (m := m) (L := b :: r) hch.2 fun x hx => h x (List.mem_cons_of_mem _ hx)
    unfold insertL
    split
    · rename_i hc; exact ⟨hc, hch⟩
    · rename_i hc
      unfold insertL at ih ⊢
      split
      · exact ⟨h a (by simp) (by simpa using hc), by rename_i hc2; rw [if_pos hc2] at ih; exact ih⟩
      · rename_i hc2
        rw [if_neg hc2] at ih
        exact ⟨hch.1, ih⟩
theorem row_ex (hone : ∀ x y, x < n → y < n → x ≠ y → f x y = !f y x) : ∀ m, m ≤ n → ∃ L : List Nat, L.Perm (List.range m) ∧ chainL f L
  | 0, _ => ⟨[], List.Perm.refl _, trivial⟩
  | m + 1, hm => by
    obtain ⟨L, h1, h2⟩ := row_ex hone m (by omega)
    refine ⟨insertL f m L, ?_, insertL_chain h2 fun a ha hf => ?_⟩
    · rw [List.range_succ]
      exact ((insertL_perm L).trans (h1.cons m)).trans (List.perm_append_singleton m (List.range m)).symm
    · have ha := List.mem_range.1 (h1.mem_iff.1 ha)
      rw [hone a m (by omega) (by omega) (by omega), hf]; rfl
theorem rows_ne (hone : ∀ x y, x < n → y < n → x ≠ y → f x y = !f y x) : rowsR f n n [] ≠ [] := by
  obtain ⟨L, h1, h2⟩ := row_ex hone n (Nat.le_refl _)
  have hv : Valid f n L := ⟨h1.symm.nodup List.nodup_range, fun x hx => List.mem_range.1 (h1.mem_iff.1 hx), h2⟩
  have := rows_has (k := n) (s := []) hv (by rw [h1.length_eq]; simp) rfl
  exact List.ne_nil_of_mem this
/-! the search finds the first one -/
theorem findSome_filter {α : Type} {p : Nat → Bool} {g : Nat → Option α} : ∀ {l : List Nat}, (l.filter p).findSome? g = l.findSome? fun x => if p x = true then g x else none
  | [] => rfl
  | x :: r => by
    rw [List.filter_cons]
    cases hp : p x
    · rw [if_neg (by simp), List.findSome?_cons, findSome_filter (l := r)]
      rw [hp, if_neg (by simp)]
    · rw [if_pos rfl, List.findSome?_cons, List.findSome?_cons, findSome_filter (l := r)]
      rw [hp, if_pos rfl]
theorem rowS_find (hn : n ≤ 7) {g : Nat → Bool} : ∀ (k : Nat) (s : List Nat) (left : Nat), (∀ x, left.testBit x = true ↔ x < n ∧ x ∉ s) → left < 128 → rowS f g k s left = (rowsR f n k s).find? fun L => g (lastN L)
  | 0, s, left, _, _ => by
    unfold rowS rowsR
    rw [List.find?_cons]
    cases g (lastN s) <;> rfl
  | k + 1, s, left, hl, h7 => by
    have hb : bitsOf left = (List.range' 0 n).filter fun x => !s.contains x := by
      unfold bitsOf
      obtain ⟨d, hd⟩ : ∃ d, 8 = n + d := ⟨8 - n, by omega⟩
      rw [hd, filter_range_cut d fun c hc1 hc2 => by
        cases hc : left.testBit c
        · rfl
        · have := ((hl c).1 hc).1; omega, List.range_eq_range']
      apply List.filter_congr
      intro x hx
      have hx := List.mem_range'_1.1 hx
      rw [Bool.eq_iff_iff, hl, Bool.not_eq_true', List.contains_eq_mem, decide_eq_false_iff_not]
      exact ⟨fun h => h.2, fun h => ⟨by omega, h⟩⟩
    unfold rowS rowsR
    rw [hb, findSome_filter, List.find?_flatMap]
    refine findSome_congr fun x hx => ?_
    have hx := List.mem_range'_1.1 hx
    cases hc : s.contains x
    · simp only [Bool.not_false, if_true, Bool.true_and]
      split
      · refine rowS_find hn k (s ++ [x]) (clr left (pw x)) (fun y => ?_) (Nat.lt_of_le_of_lt Nat.and_le_left h7)
        rw [testBit_clr (by omega), Bool.and_eq_true, hl, Bool.not_eq_true', testBit_pw, decide_eq_false_iff_not, List.mem_append, List.mem_singleton]
        constructor
        · rintro ⟨⟨h1, h2⟩, h3⟩
          exact ⟨h1, fun h => h.elim h2 fun h => h3 h.symm⟩
        · rintro ⟨h1, h2⟩
          exact ⟨⟨h1, fun h => h2 (.inl h)⟩, fun h => h2 (.inr h.symm)⟩
      · rfl
    · simp only [Bool.not_true, Bool.false_eq_true, if_false, Bool.false_and]
      rfl
end
end Go.Proofs.Ytnlebofipoepfaa.Code
end
section
namespace Go.Proofs.Ytnlebofipoepfaa.Code
open Go Go.Ab
section
variable {f : Nat → Nat → Bool} {n : Nat} {w : Nat → Nat}
theorem row_eq (hn : n ≤ 7) : rowS f (fun _ => true) n [] (pw n - 1) = (rowsR f n n []).head? := by
  rw [rowS_find hn n [] (pw n - 1) (fun x => by rw [testBit_all, decide_eq_true_eq]; simp) (by
    have : ∀ n, n ≤ 7 → pw n - 1 < 128 := by decide
    exact this n hn)]
  cases rowsR f n n [] <;> rfl
theorem lastN_append {A B : List Nat} (h : B ≠ []) : lastN (A ++ B) = lastN B := by
  have := List.length_pos_iff.2 h
  unfold lastN
  rw [List.getD_eq_getElem?_getD, List.getD_eq_getElem?_getD, List.length_append, List.getElem?_append_right (by omega)]
  congr 2
  omega
/-- a ring may begin with anyone -/
theorem ring_turn {L : List Nat} (hv : Valid f n L) (hl : L.length = n) (hring : f (lastN L) (L.getD 0 0) = true) (h0 : 0 < n) : ∃ M, Valid f n M ∧ M.length = n ∧ M.getD 0 0 = 0 ∧ f (lastN M) 0 = true := by
  have hmem : 0 ∈ L := by
    apply Decidable.byContradiction
    intro hc
    have := sub_len (l := 0 :: L) (m := List.range n) (List.nodup_cons.2 ⟨hc, hv.nodup⟩) fun x hx => by
      rcases List.mem_cons.1 hx with rfl | hx
      · exact List.mem_range.2 h0
      · exact List.mem_range.2 (hv.lt x hx)
    rw [List.length_cons, List.length_range] at this
    omega
  obtain ⟨A, B, rfl⟩ := List.append_of_mem hmem
  by_cases hA : A = []
  · subst hA
    exact ⟨_, hv, hl, rfl, hring⟩
  · have hch := (chainL_append hA (by simp)).1 hv.chain
    have hg : (A ++ 0 :: B).getD 0 0 = A.getD 0 0 := by
      have := List.length_pos_iff.2 hA
      rw [List.getD_eq_getElem?_getD, List.getD_eq_getElem?_getD, List.getElem?_append_left this]
    rw [hg, lastN_append (by simp)] at hring
    have hp : (A ++ 0 :: B).Perm ((0 :: B) ++ A) := List.perm_append_comm
    refine ⟨(0 :: B) ++ A, ⟨hp.nodup hv.nodup, fun x hx => hv.lt x (hp.mem_iff.2 hx), (chainL_append (by simp) hA).2 ⟨hch.2.1, hch.1, hring⟩⟩, by rw [← hp.length_eq]; exact hl, rfl, ?_⟩
    rw [lastN_append hA]
    exact hch.2.2
theorem valid_one {x : Nat} (hx : x < n) : Valid f n [x] := ⟨by simp, fun y hy => by rw [List.mem_singleton] at hy; omega, trivial⟩
theorem rows_flat (h0 : 0 < n) : rowsR f n n [] = (List.range' 0 n).flatMap fun x => rowsR f n (n - 1) [x] := by
  obtain ⟨m, rfl⟩ : ∃ m, n = m + 1 := ⟨n - 1, by omega⟩
  rw [rowsR.eq_2]
  rfl
theorem find_congrL {p q : List Nat → Bool} : ∀ {l : List (List Nat)}, (∀ x ∈ l, p x = q x) → l.find? p = l.find? q
  | [], _ => rfl
  | x :: r, h => by
    rw [List.find?_cons, List.find?_cons, h x (List.mem_cons_self ..), find_congrL fun y hy => h y (List.mem_cons_of_mem _ hy)]
theorem ring_eq (hn : n ≤ 7) (h0 : 0 < n) : (rowsR f n n []).find? (ringP f) = if 2 < n then rowS f (fun x => f x 0) (n - 1) [0] (clr (pw n - 1) 1) else none := by
  have hel : ∀ {x L}, x < n → L ∈ rowsR f n (n - 1) [x] → Valid f n L ∧ L.getD 0 0 = x ∧ L.length = n := fun {x L} hx hL => by
    obtain ⟨h1, h2, h3⟩ := rows_valid (valid_one hx) hL
    refine ⟨h1, ?_, by rw [h3]; simp; omega⟩
    have := congrArg (fun M : List Nat => M.getD 0 0) h2
    simpa [List.getD_eq_getElem?_getD, List.getElem?_take] using this
  by_cases h2 : 2 < n
  · rw [if_pos h2]
    have hlt : clr (pw n - 1) 1 < 128 := by
      have : ∀ n, n ≤ 7 → clr (pw n - 1) 1 < 128 := by decide
      exact this n hn
    have hpl : pw n - 1 < 256 := by
      have : ∀ n, n ≤ 7 → pw n - 1 < 256 := by decide
      exact this n hn
    rw [rowS_find hn (n - 1) [0] (clr (pw n - 1) 1) (fun x => by
      have h1 : clr (pw n - 1) 1 = clr (pw n - 1) (pw 0) := rfl
      rw [h1, testBit_clr hpl, testBit_all, testBit_pw, Bool.and_eq_true, decide_eq_true_eq, Bool.not_eq_true', decide_eq_false_iff_not, List.mem_singleton]
      exact ⟨fun h => ⟨h.1, fun hc => h.2 hc.symm⟩, fun h => ⟨h.1, fun hc => h.2 hc.symm⟩⟩) hlt]
    have hA : (rowsR f n (n - 1) [0]).find? (ringP f) = (rowsR f n (n - 1) [0]).find? fun L => f (lastN L) 0 := find_congrL fun L hL => by
      obtain ⟨_, g1, g2⟩ := hel h0 hL
      unfold ringP
      rw [g1, g2, decide_eq_true h2, Bool.true_and]
    rw [rows_flat h0, List.find?_flatMap]
    obtain ⟨m, hm⟩ : ∃ m, n = m + 1 := ⟨n - 1, by omega⟩
    have hr : List.range' 0 n = 0 :: List.range' 1 (n - 1) := by rw [hm, List.range'_succ]; rfl
    rw [hr, List.findSome?_cons, hA]
    cases hf : (rowsR f n (n - 1) [0]).find? fun L => f (lastN L) 0 with
    | some L => rfl
    | none =>
      simp only
      rw [List.findSome?_eq_none_iff]
      intro x hx
      have hx := List.mem_range'_1.1 hx
      rw [List.find?_eq_none]
      intro L hL hring
      obtain ⟨g0, g1, g2⟩ := hel (show x < n by omega) hL
      unfold ringP at hring
      rw [Bool.and_eq_true] at hring
      obtain ⟨M, m1, m2, m3, m4⟩ := ring_turn g0 g2 hring.2 h0
      have hMr : M ∈ rowsR f n (n - 1) [0] := rows_has m1 (by rw [m2]; simp; omega) (by
        cases M with
        | nil => simp at m2; omega
        | cons a r => simp at m3; subst m3; rfl)
      exact List.find?_eq_none.1 hf M hMr m4
  · rw [if_neg h2, List.find?_eq_none]
    intro L hL hring
    have := rowsR_mem hL
    unfold ringP at hring
    rw [Bool.and_eq_true, decide_eq_true_eq] at hring
    simp at this
    omega
end
end Go.Proofs.Ytnlebofipoepfaa.Code
end
section
namespace Go.Proofs.Ytnlebofipoepfaa.Code
open Go Go.Ab
variable {pure : Bool} {base bar : Nat} {H : Heap} {Q : AV → Heap → Prop}
/-! 53: what is done with each order -/
def okI (f : Nat → Nat → Bool) (L : List Nat) (i k : Nat) : Bool := (List.range' i k).all fun i => f (L.getD (i - 1) 0) (L.getD i 0)
theorem getD_get {L : List Nat} {i : Nat} (h : i < L.length) : L[i] = L.getD i 0 := by rw [List.getD_eq_getElem?_getD, List.getElem?_eq_getElem h]; rfl
section
variable {i5 ig i6 i7 i8 n : Nat} {f : Nat → Nat → Bool} {L : List Nat} {lv : AV}
set_option maxRecDepth 4000 in
theorem l53 (h5 : H[i5]? = some (.row 0 [.int .i64 (n : Nat)] 0 true)) (hg : H[ig]? = some (.row 0 (gcells f) 0 true)) (hl : isL lv L) (hn : n ≤ 7) (hL : L.length = n) (hL7 : ∀ x ∈ L, x < n) {R : PQ} : ∀ (k i : Nat), i + k = n → 0 < i →
    (okI f L i k = false → ∀ fr, R .ret fr H) →
    (okI f L i k = true → R (.exit 0) [(0, lv), (1, .ptr i5 0 0), (2, .ptr ig 0 0), (3, .ptr i6 0 0), (4, .ptr i7 0 0), (5, .ptr i8 0 0), (7, .int .i64 (n : Nat)), (10, .bool false)] H) →
    Wp E base bar (.loop c53_l0) [(0, lv), (1, .ptr i5 0 0), (2, .ptr ig 0 0), (3, .ptr i6 0 0), (4, .ptr i7 0 0), (5, .ptr i8 0 0), (7, .int .i64 (i : Nat))] H R := by
  have l5 : aload H ⟨false, 1⟩ (.ptr i5 0 0) = some (.int .i64 (n : Nat)) := by rw [aload_ptr h5]; rfl
  intro k
  induction k with
  | zero =>
    intro i hi h0 h1 h2
    obtain rfl : i = n := by omega
    rw [wp_round c53_l0.eq_1]
    simp [go_sem, l5]
    exact h2 rfl
  | succ k ih =>
    intro i hi h0 h1 h2
    have hlt : i < n := by omega
    have hz := i64_suc (show i < 1000000 by omega)
    have hs1 : IntKind.i64.wrap ((i : Int) - 1) = ((i - 1 : Nat) : Int) := by rw [show (i : Int) - 1 = ((i - 1 : Nat) : Int) by omega, i64_nat (by omega)]
    have hix : ∀ {H : Heap} {K : AV → Heap → List Nat → Prop}, ixaSWp 1 (some lv) (some (.int .i64 (i : Int))) H K = K (.fp (.int .i64 (L.getD i 0 : Nat))) H [] := fun {H K} => by rw [hl.ix (by omega), getD_get (by omega)]
    have hix1 : ∀ {H : Heap} {K : AV → Heap → List Nat → Prop}, ixaSWp 1 (some lv) (some (.int .i64 ((i - 1 : Nat) : Int))) H K = K (.fp (.int .i64 (L.getD (i - 1) 0 : Nat))) H [] := fun {H K} => by rw [hl.ix (by omega), getD_get (by omega)]
    have ha : L.getD i 0 < n := by rw [← getD_get (by omega)]; exact hL7 _ (List.getElem_mem _)
    have hb : L.getD (i - 1) 0 < n := by rw [← getD_get (by omega)]; exact hL7 _ (List.getElem_mem _)
    have hst : okI f L i (k + 1) = (f (L.getD (i - 1) 0) (L.getD i 0) && okI f L (i + 1) k) := by unfold okI; rw [List.range'_succ, List.all_cons]
    rw [hst] at h1 h2
    have next := ih (i + 1) (by omega) (by omega)
    generalize okI f L (i + 1) k = okr at *
    generalize L.getD i 0 = a at *
    generalize L.getD (i - 1) 0 = b at *
    generalize i - 1 = i1 at *
    have g1 := loadG (s := 1) hg (show b < 7 by omega) (show a < 7 by omega)
    rw [wp_round c53_l0.eq_1]
    cases hc : f b a
    · rw [hc] at g1 h1
      simp [go_sem, l5, hlt, hs1, hix, hix1, show a < 7 by omega, show b < 7 by omega, g1]
      exact h1 rfl _
    · rw [hc] at g1 h1 h2
      simp [go_sem, l5, hlt, hs1, hix, hix1, show a < 7 by omega, show b < 7 by omega, g1, hz]
      exact next (by simpa using h1) (by simpa using h2)
end
/-! the state of the search through all orders: how many rows, the first one, the first ring -/
def stH (H : Heap) (i6 i7 i8 : Nat) (c : Int) (v7 v8 : AV) : Heap := ((H.set i6 (.row 0 [.int .i64 c] 0 true)).set i7 (.row 0 [v7] 0 true)).set i8 (.row 0 [v8] 0 true)
structure St3 (H : Heap) (i6 i7 i8 : Nat) (c : Int) (v7 v8 : AV) : Prop where
  n67 : i6 ≠ i7
  n68 : i6 ≠ i8
  n78 : i7 ≠ i8
  h6 : H[i6]? = some (.row 0 [.int .i64 c] 0 true)
  h7 : H[i7]? = some (.row 0 [v7] 0 true)
  h8 : H[i8]? = some (.row 0 [v8] 0 true)
section
variable {i6 i7 i8 : Nat} {c c' : Int} {v7 v8 w7 w8 : AV}
theorem St3.lt (h : St3 H i6 i7 i8 c v7 v8) : i6 < H.length ∧ i7 < H.length ∧ i8 < H.length :=
  ⟨(List.getElem?_eq_some_iff.1 h.h6).1, (List.getElem?_eq_some_iff.1 h.h7).1, (List.getElem?_eq_some_iff.1 h.h8).1⟩
theorem stH_get {j : Nat} (h6 : j ≠ i6) (h7 : j ≠ i7) (h8 : j ≠ i8) : (stH H i6 i7 i8 c v7 v8)[j]? = H[j]? := by
  unfold stH
  rw [List.getElem?_set_ne (Ne.symm h8), List.getElem?_set_ne (Ne.symm h7), List.getElem?_set_ne (Ne.symm h6)]
theorem set_same {H : Heap} {i : Nat} {b : Blk} (h : H[i]? = some b) : H.set i b = H := by
  apply List.ext_getElem?
  intro j
  rw [List.getElem?_set]
  by_cases hj : i = j
  · subst hj; rw [if_pos rfl, if_pos (List.getElem?_eq_some_iff.1 h).1, h]
  · rw [if_neg hj]
theorem St3.same (h : St3 H i6 i7 i8 c v7 v8) : stH H i6 i7 i8 c v7 v8 = H := by
  unfold stH
  rw [set_same h.h6, set_same h.h7, set_same h.h8]
theorem St3.set (h : St3 H i6 i7 i8 c v7 v8) : St3 (stH H i6 i7 i8 c' w7 w8) i6 i7 i8 c' w7 w8 := by
  obtain ⟨l6, l7, l8⟩ := h.lt
  refine ⟨h.n67, h.n68, h.n78, ?_, ?_, ?_⟩
  · unfold stH
    rw [List.getElem?_set_ne (Ne.symm h.n68), List.getElem?_set_ne (Ne.symm h.n67)]
    simp [l6]
  · unfold stH
    rw [List.getElem?_set_ne (Ne.symm h.n78)]
    simp [l7]
  · unfold stH
    simp [l8]
theorem stH_twice (h : St3 H i6 i7 i8 c v7 v8) {c'' : Int} {u7 u8 : AV} : stH (stH H i6 i7 i8 c' w7 w8) i6 i7 i8 c'' u7 u8 = stH H i6 i7 i8 c'' u7 u8 := by
  obtain ⟨l6, l7, l8⟩ := h.lt
  apply List.ext_getElem?
  intro j
  have hs := h.set (c' := c') (w7 := w7) (w8 := w8)
  by_cases e8 : j = i8
  · subst e8; rw [(hs.set (c' := c'') (w7 := u7) (w8 := u8)).h8, (h.set (c' := c'') (w7 := u7) (w8 := u8)).h8]
  · by_cases e7 : j = i7
    · subst e7; rw [(hs.set (c' := c'') (w7 := u7) (w8 := u8)).h7, (h.set (c' := c'') (w7 := u7) (w8 := u8)).h7]
    · by_cases e6 : j = i6
      · subst e6; rw [(hs.set (c' := c'') (w7 := u7) (w8 := u8)).h6, (h.set (c' := c'') (w7 := u7) (w8 := u8)).h6]
      · rw [stH_get e6 e7 e8, stH_get e6 e7 e8, stH_get e6 e7 e8]
theorem stH_take {H : Heap} {k : Nat} : (stH H i6 i7 i8 c v7 v8).take k = stH (H.take k) i6 i7 i8 c v7 v8 := by
  unfold stH
  rw [List.take_set, List.take_set, List.take_set]
end
/-- what an order does to the state -/
structure OSt where
  c : Int
  first : List Nat
  ring : List Nat
def ringI (f : Nat → Nat → Bool) (n : Nat) (L : List Nat) : Bool := decide (2 < n) && f (L.getD (n - 1) 0) (L.getD 0 0)
def stepO (f : Nat → Nat → Bool) (n : Nat) (s : OSt) (L : List Nat) : OSt :=
  if okI f L 1 (n - 1) = true then ⟨IntKind.i64.wrap (s.c + 1), if s.c = 0 then L else s.first, if (s.ring.isEmpty && ringI f n L) = true then L else s.ring⟩ else s
/-- a list that is nil just if it is empty -/
def isN (v : AV) (l : List Nat) : Prop := isL v l ∧ (l = [] → v = .nils)
theorem isN.eq {v : AV} {l : List Nat} (h : isN v l) {neg : Bool} {K : AV → Heap → List Nat → Prop} : eqWp neg .nilS (some v) (some .nils) H K = K (.bool (neg != l.isEmpty)) H [] := by
  cases l with
  | nil => rw [h.2 rfl, eqWp_nil0]; cases neg <;> rfl
  | cons a r =>
    have hn : v ≠ .nils := fun he => by
      rcases h.1 with ⟨_, h0⟩ | ⟨ex, h0⟩
      · cases h0
      · rw [he] at h0; cases h0
    rw [eqWp_nil h.1 hn]; cases neg <;> rfl
section
variable {i5 ig i6 i7 i8 n : Nat} {f : Nat → Nat → Bool} {L : List Nat} {lv v7 v8 : AV} {s : OSt}
set_option maxRecDepth 8000 in
theorem k53 (h5 : H[i5]? = some (.row 0 [.int .i64 (n : Nat)] 0 true)) (hg : H[ig]? = some (.row 0 (gcells f) 0 true)) (d5 : i5 ≠ i6 ∧ i5 ≠ i7 ∧ i5 ≠ i8) (dg : ig ≠ i6 ∧ ig ≠ i7 ∧ ig ≠ i8) (hst : St3 H i6 i7 i8 s.c v7 v8) (hv7 : isN v7 s.first) (hv8 : isN v8 s.ring)
    (hl : isL lv L) (hn : n ≤ 7) (h1 : 1 ≤ n) (hL : L.length = n) (hL7 : ∀ x ∈ L, x < n)
    (h : ∀ w7 w8, isN w7 (stepO f n s L).first → isN w8 (stepO f n s L).ring → Q (.tup []) (stH H i6 i7 i8 (stepO f n s L).c w7 w8)) :
    WpCall E false base 0 53 [lv, .ptr i5 0 0, .ptr ig 0 0, .ptr i6 0 0, .ptr i7 0 0, .ptr i8 0 0] H Q := by
  rw [call53]
  simp [go_sem, WpFun, c53, hl.frz]
  have l5 : aload H ⟨false, 1⟩ (.ptr i5 0 0) = some (.int .i64 (n : Nat)) := by rw [aload_ptr h5]; rfl
  have l6 : aload H ⟨false, 1⟩ (.ptr i6 0 0) = some (.int .i64 s.c) := by rw [aload_ptr hst.h6]; rfl
  have l8 : aload H ⟨false, 1⟩ (.ptr i8 0 0) = some v8 := by rw [aload_ptr hst.h8]; rfl
  have l7 : aload H ⟨false, 1⟩ (.ptr i7 0 0) = some v7 := by rw [aload_ptr hst.h7]; rfl
  refine l53 h5 hg hl hn hL hL7 (n - 1) 1 (by omega) (by omega) (fun hc fr => ?_) fun hc => ?_
  · have hss : stepO f n s L = s := by unfold stepO; rw [hc]; rfl
    have := h v7 v8
    rw [hss, hst.same] at this
    simp [go_sem]
    exact this hv7 hv8
  · have hLne : L ≠ [] := fun he => by rw [he] at hL; simp at hL; omega
    have hlN : isN lv L := ⟨hl, fun he => absurd he hLne⟩
    obtain ⟨b6, b7, b8⟩ := hst.lt
    have hso : stepO f n s L = ⟨IntKind.i64.wrap (s.c + 1), if s.c = 0 then L else s.first, if (s.ring.isEmpty && ringI f n L) = true then L else s.ring⟩ := by unfold stepO; rw [if_pos hc]
    rw [hso] at h
    simp only at h
    have hix0 : ∀ {H : Heap} {K : AV → Heap → List Nat → Prop}, ixaSWp 1 (some lv) (some (.int .i64 0)) H K = K (.fp (.int .i64 (L.getD 0 0 : Nat))) H [] := fun {H K} => by
      have := hl.ix (H := H) (i := 0) (by omega) (K := K) (k := .i64)
      rw [getD_get (by omega)] at this; exact this
    have hixn : ∀ {H : Heap} {K : AV → Heap → List Nat → Prop}, ixaSWp 1 (some lv) (some (.int .i64 ((n - 1 : Nat) : Int))) H K = K (.fp (.int .i64 (L.getD (n - 1) 0 : Nat))) H [] := fun {H K} => by rw [hl.ix (by omega), getD_get (by omega)]
    have hs1 : IntKind.i64.wrap ((n : Int) - 1) = ((n - 1 : Nat) : Int) := by rw [show (n : Int) - 1 = ((n - 1 : Nat) : Int) by omega, i64_nat (by omega)]
    have ha : L.getD 0 0 < 7 := by rw [← getD_get (by omega)]; have := hL7 _ (List.getElem_mem (show 0 < L.length by omega)); omega
    have hb : L.getD (n - 1) 0 < 7 := by rw [← getD_get (by omega)]; have := hL7 _ (List.getElem_mem (show n - 1 < L.length by omega)); omega
    have hri : ringI f n L = (decide (2 < n) && f (L.getD (n - 1) 0) (L.getD 0 0)) := rfl
    generalize L.getD 0 0 = a at *
    generalize L.getD (n - 1) 0 = b at *
    generalize hm : n - 1 = m at *
    have key : ∀ (u7 : AV) (H1 : Heap), (∀ j, j ≠ i7 → H1[j]? = H[j]?) → H1.length = H.length → H1[i7]? = some (.row 0 [u7] 0 true) →
        (H1[i5]? = some (.row 0 [.int .i64 (n : Nat)] 0 true) ∧ H1[ig]? = some (.row 0 (gcells f) 0 true) ∧ H1[i6]? = some (.row 0 [.int .i64 s.c] 0 true) ∧ H1[i8]? = some (.row 0 [v8] 0 true) ∧
          (∀ c', (H1.set i6 (.row 0 [.int .i64 c'] 0 true)) = stH H i6 i7 i8 c' u7 v8) ∧ (∀ c' w8, (H1.set i8 (.row 0 [w8] 0 true)).set i6 (.row 0 [.int .i64 c'] 0 true) = stH H i6 i7 i8 c' u7 w8)) := fun u7 H1 hsm hln h7 => by
      have e : ∀ c' w8, (H1.set i8 (.row 0 [w8] 0 true)).set i6 (.row 0 [.int .i64 c'] 0 true) = stH H i6 i7 i8 c' u7 w8 := fun c' w8 => by
        apply List.ext_getElem?
        intro j
        have hs := hst.set (c' := c') (w7 := u7) (w8 := w8)
        by_cases e6 : j = i6
        · subst e6; rw [hs.h6]; simp [hln, b6]
        · rw [List.getElem?_set_ne (Ne.symm e6)]
          by_cases e8 : j = i8
          · subst e8; rw [hs.h8]; simp [hln, b8]
          · rw [List.getElem?_set_ne (Ne.symm e8)]
            by_cases e7 : j = i7
            · subst e7; rw [hs.h7, h7]
            · rw [stH_get e6 e7 e8, hsm j e7]
      have h8' : H1[i8]? = some (.row 0 [v8] 0 true) := by rw [hsm _ (Ne.symm hst.n78)]; exact hst.h8
      exact ⟨by rw [hsm _ d5.2.1]; exact h5, by rw [hsm _ dg.2.1]; exact hg, by rw [hsm _ hst.n67]; exact hst.h6, h8', fun c' => by rw [← e c' v8, set_same h8'], e⟩
    by_cases hc0 : s.c = 0
    case' pos =>
      rw [if_pos hc0] at h
      simp [go_sem, l6, hc0]
      rw [storeWp_ptr (size := 1) hst.h7 hl.isTup (by rw [hl.cells]; rfl) (by omega) (by simp) (by omega) (.inr (by simp [hl.cells, tops_cons, tops_nil, hl.top]))]
      obtain ⟨g5, gg, g6, g8, eq6, eq68⟩ := key lv (H.set i7 (.row 0 [lv] 0 true)) (fun j hj => by rw [List.getElem?_set_ne (Ne.symm hj)]) (by simp) (by simp [b7])
      have hu7 : isN lv L := hlN
      simp [go_sem, hl.cells, setCells]
      generalize H.set i7 (.row 0 [lv] 0 true) = H1 at *
    case' neg =>
      rw [if_neg hc0] at h
      obtain ⟨g5, gg, g6, g8, eq6, eq68⟩ := key v7 H (fun j _ => rfl) rfl hst.h7
      have hu7 : isN v7 s.first := hv7
      simp [go_sem, l6, hc0]
      generalize hH1 : H = H1 at *
    all_goals
      have l5' : aload H1 ⟨false, 1⟩ (.ptr i5 0 0) = some (.int .i64 (n : Nat)) := by rw [aload_ptr g5]; rfl
      have l6' : aload H1 ⟨false, 1⟩ (.ptr i6 0 0) = some (.int .i64 s.c) := by rw [aload_ptr g6]; rfl
      have l8' : aload H1 ⟨false, 1⟩ (.ptr i8 0 0) = some v8 := by rw [aload_ptr g8]; rfl
      have lg := loadG (s := 1) gg hb ha
      have heq := fun (K : AV → Heap → List Nat → Prop) => hv8.eq (H := H1) (neg := false) (K := K)
      rcases short3 s.ring.isEmpty (decide (2 < n)) (f b a) with ⟨c1, _, _⟩ | ⟨c1, c2, _⟩ | ⟨c1, c2, c3⟩ | ⟨c1, c2, c3⟩
      · rw [c1, Bool.false_and, if_neg (by simp)] at h
        simp [go_sem, l8', heq, c1, l6']
        rw [storeWp_ptr (size := 1) g6 rfl rfl (by omega) (by simp) (by omega) (.inr (by simp [AV.cells, tops_cons, tops_nil, top_int]))]
        simp [go_sem, setCells, AV.cells, eq6]
        exact h _ _ hu7 hv8
      · rw [hri, c2, Bool.false_and, Bool.and_false, if_neg (by simp)] at h
        rw [decide_eq_false_iff_not] at c2
        simp [go_sem, l8', heq, c1, l5', c2, show ¬ (2 : Int) < (n : Int) by omega, l6']
        rw [storeWp_ptr (size := 1) g6 rfl rfl (by omega) (by simp) (by omega) (.inr (by simp [AV.cells, tops_cons, tops_nil, top_int]))]
        simp [go_sem, setCells, AV.cells, eq6]
        exact h _ _ hu7 hv8
      · rw [hri, c3, Bool.and_false, Bool.and_false, if_neg (by simp)] at h
        rw [c3] at lg
        rw [decide_eq_true_eq] at c2
        simp [go_sem, l8', heq, c1, l5', c2, show (2 : Int) < (n : Int) by omega, hs1, hix0, hixn, ha, hb, lg, l6']
        rw [storeWp_ptr (size := 1) g6 rfl rfl (by omega) (by simp) (by omega) (.inr (by simp [AV.cells, tops_cons, tops_nil, top_int]))]
        simp [go_sem, setCells, AV.cells, eq6]
        exact h _ _ hu7 hv8
      · rw [hri, c1, c2, c3, if_pos (by simp)] at h
        rw [c3] at lg
        rw [decide_eq_true_eq] at c2
        simp [go_sem, l8', heq, c1, l5', c2, show (2 : Int) < (n : Int) by omega, hs1, hix0, hixn, ha, hb, lg]
        rw [storeWp_ptr (size := 1) g8 hl.isTup (by rw [hl.cells]; rfl) (by omega) (by simp) (by omega) (.inr (by simp [hl.cells, tops_cons, tops_nil, hl.top]))]
        have g6' : (H1.set i8 (.row 0 [lv] 0 true))[i6]? = some (.row 0 [.int .i64 s.c] 0 true) := by rw [List.getElem?_set_ne (Ne.symm hst.n68)]; exact g6
        have l6'' : aload (H1.set i8 (.row 0 [lv] 0 true)) ⟨false, 1⟩ (.ptr i6 0 0) = some (.int .i64 s.c) := by rw [aload_ptr g6']; rfl
        simp [go_sem, setCells, hl.cells, l6'']
        rw [storeWp_ptr (size := 1) g6' rfl rfl (by omega) (by simp) (by omega) (.inr (by simp [AV.cells, tops_cons, tops_nil, top_int]))]
        simp [go_sem, setCells, AV.cells, eq68]
        exact h _ _ hu7 hlN
end
end Go.Proofs.Ytnlebofipoepfaa.Code
end
section
namespace Go.Proofs.Ytnlebofipoepfaa.Code
open Go Go.Ab
variable {base : Nat} {H : Heap} {Q : AV → Heap → Prop}
/-- one number more to a list that is not yet a block of its own -/
theorem Gro.nat0 {bar bytes : Nat} {l : List Nat} {H0 : Heap} {v : AV} {ex : Bool} {x : Nat} {K : AV → Heap → List Nat → Prop} (g : Gro l H0 v H0) (hlen : (l.length + 1) * bytes ≤ 140737488355328)
    (h : ∀ v' H', Gro (l ++ [x]) H0 v' H' → K v' H' []) : appWp base bar 1 bytes (some v) (some (.lst 1 ex [.int .i64 (x : Int)])) H0 K := by
  have hp : ∀ c ∈ [AV.int .i64 (x : Int)], Plain c := fun c hc => by simp at hc; subst hc; exact Plain.int
  have e : [AV.int .i64 (x : Int)].flatMap AV.cells = [AV.int .i64 (x : Int)] := rfl
  rcases g with ⟨hne, rfl, _⟩ | ⟨h0, rfl, _⟩ | ⟨_, _, _, _, _, hH⟩
  · simp only [appWp, asrc_lst, frzAll, frz.frzs, e]
    rw [plains (d := 6) hp]
    simp only [AV.noVec.noVecs, AV.noVec, Bool.and_true, if_true]
    rw [if_neg (by simp)]
    simp only [aappend]
    rw [if_neg (by simp), if_neg (by simp)]
    have hl2 : ((nats l).length + [AV.int .i64 (x : Int)].length / 1) * bytes ≤ 140737488355328 := by simpa [nats_length] using hlen
    rw [if_pos ⟨trivial, hl2⟩]
    simp only
    refine h _ _ (.inr (.inr ⟨0, 0, by simp [nats_eq_nil], Nat.zero_le _, ?_, ?_⟩))
    · simp [nats_length]
    · rw [nats_flat, nats_append, nats_one]
  · have hl0 : l = [] := nats_eq_nil.1 h0
    subst hl0
    simp only [appWp, asrc_lst, frzAll, frz.frzs, e]
    rw [plains (d := 6) hp]
    simp only [AV.noVec.noVecs, AV.noVec, Bool.and_true, if_true]
    rw [if_neg (by simp)]
    simp only [aappend]
    rw [if_neg (by simp)]
    rw [if_pos (by simpa using hlen)]
    simp only
    exact h _ _ (.inr (.inr ⟨0, 0, by simp [nats], Nat.zero_le _, by simp [nats], by simp [nats]⟩))
  · have := congrArg List.length hH
    simp at this
/-! 82: all orders -/
def permsR (n : Nat) : Nat → List Nat → List (List Nat)
  | 0, s => [s]
  | k + 1, s => (List.range' 0 n).flatMap fun x => if s.contains x = true then [] else permsR n k (s ++ [x])
structure Env82 (H : Heap) (i2 i3 i4 i5 ig i6 i7 i8 n : Nat) (f : Nat → Nat → Bool) : Prop where
  h2 : H[i2]? = some (.row 0 [.int .i64 (n : Nat)] 0 true)
  h3 : H[i3]? = some (.row 0 [.fn 53 [] [.ptr i5 0 0, .ptr ig 0 0, .ptr i6 0 0, .ptr i7 0 0, .ptr i8 0 0]] 0 true)
  h4 : H[i4]? = some (.row 0 [.fn 82 [] [.ptr i2 0 0, .ptr i3 0 0, .ptr i4 0 0]] 0 true)
  h5 : H[i5]? = some (.row 0 [.int .i64 (n : Nat)] 0 true)
  hg : H[ig]? = some (.row 0 (gcells f) 0 true)
  d2 : i2 ≠ i6 ∧ i2 ≠ i7 ∧ i2 ≠ i8
  d3 : i3 ≠ i6 ∧ i3 ≠ i7 ∧ i3 ≠ i8
  d4 : i4 ≠ i6 ∧ i4 ≠ i7 ∧ i4 ≠ i8
  d5 : i5 ≠ i6 ∧ i5 ≠ i7 ∧ i5 ≠ i8
  dg : ig ≠ i6 ∧ ig ≠ i7 ∧ ig ≠ i8
section
variable {i2 i3 i4 i5 ig i6 i7 i8 n : Nat} {f : Nat → Nat → Bool}
theorem Env82.st (h : Env82 H i2 i3 i4 i5 ig i6 i7 i8 n f) {c : Int} {v7 v8 : AV} : Env82 (stH H i6 i7 i8 c v7 v8) i2 i3 i4 i5 ig i6 i7 i8 n f :=
  ⟨by rw [stH_get h.d2.1 h.d2.2.1 h.d2.2.2]; exact h.h2, by rw [stH_get h.d3.1 h.d3.2.1 h.d3.2.2]; exact h.h3, by rw [stH_get h.d4.1 h.d4.2.1 h.d4.2.2]; exact h.h4,
    by rw [stH_get h.d5.1 h.d5.2.1 h.d5.2.2]; exact h.h5, by rw [stH_get h.dg.1 h.dg.2.1 h.dg.2.2]; exact h.hg, h.d2, h.d3, h.d4, h.d5, h.dg⟩
theorem Env82.ext (h : Env82 H i2 i3 i4 i5 ig i6 i7 i8 n f) {H' : Heap} (hx : Ext H H') : Env82 H' i2 i3 i4 i5 ig i6 i7 i8 n f :=
  ⟨hx.get h.h2, hx.get h.h3, hx.get h.h4, hx.get h.h5, hx.get h.hg, h.d2, h.d3, h.d4, h.d5, h.dg⟩
theorem St3.ext {c : Int} {v7 v8 : AV} (h : St3 H i6 i7 i8 c v7 v8) {H' : Heap} (hx : Ext H H') : St3 H' i6 i7 i8 c v7 v8 := ⟨h.n67, h.n68, h.n78, hx.get h.h6, hx.get h.h7, hx.get h.h8⟩
def Rec82 (i2 i3 i4 i5 ig i6 i7 i8 n : Nat) (f : Nat → Nat → Bool) (k : Nat) : Prop := ∀ (s : List Nat) (sv : AV) (H : Heap) (base : Nat) (Q : AV → Heap → Prop) (st : OSt) (v7 v8 : AV), isL sv s → (s = [] → sv = .nils) → (∀ x ∈ s, x < n) → s.length + k = n →
  Env82 H i2 i3 i4 i5 ig i6 i7 i8 n f → St3 H i6 i7 i8 st.c v7 v8 → isN v7 st.first → isN v8 st.ring →
  (∀ w7 w8, isN w7 ((permsR n k s).foldl (stepO f n) st).first → isN w8 ((permsR n k s).foldl (stepO f n) st).ring → Q (.tup []) (stH H i6 i7 i8 ((permsR n k s).foldl (stepO f n) st).c w7 w8)) →
  WpFun E false base 0 c82 [sv, .ptr i2 0 0, .ptr i3 0 0, .ptr i4 0 0] H Q
set_option maxRecDepth 4000 in
theorem l82 (hn : n ≤ 7) {k : Nat} (hrec : Rec82 i2 i3 i4 i5 ig i6 i7 i8 n f k) {s : List Nat} {sv : AV} (hs : isL sv s) (hs0 : s = [] → sv = .nils) (hsn : ∀ x ∈ s, x < n) (hsl : s.length + (k + 1) = n) {c0 : Int} {u7 u8 : AV} (hst0 : St3 H i6 i7 i8 c0 u7 u8) (henv : Env82 H i2 i3 i4 i5 ig i6 i7 i8 n f) {R : PQ} :
    ∀ (d x : Nat) (st : OSt) (v7 v8 : AV), x + d = n → isN v7 st.first → isN v8 st.ring →
    (∀ w7 w8, isN w7 (((List.range' x d).flatMap fun x => if s.contains x = true then [] else permsR n k (s ++ [x])).foldl (stepO f n) st).first → isN w8 (((List.range' x d).flatMap fun x => if s.contains x = true then [] else permsR n k (s ++ [x])).foldl (stepO f n) st).ring →
      R (.exit 0) [(0, sv), (3, .ptr i4 0 0), (13, .int .i64 (n : Nat)), (14, .int .i64 (n : Nat)), (15, .bool false)] (stH H i6 i7 i8 (((List.range' x d).flatMap fun x => if s.contains x = true then [] else permsR n k (s ++ [x])).foldl (stepO f n) st).c w7 w8)) →
    Wp E base 0 (.loop c82_l0) [(0, sv), (3, .ptr i4 0 0), (13, .int .i64 (n : Nat)), (14, .int .i64 (x : Nat))] (stH H i6 i7 i8 st.c v7 v8) R := by
  intro d
  induction d with
  | zero =>
    intro x st v7 v8 hx h7 h8 h
    obtain rfl : x = n := by omega
    rw [wp_round c82_l0.eq_1]
    simp [go_sem]
    exact h v7 v8 h7 h8
  | succ d ih =>
    intro x st v7 v8 hx h7 h8 h
    have hlt : x < n := by omega
    have hz := i64_suc (show x < 1000000 by omega)
    simp only [List.range'_succ, List.flatMap_cons, List.foldl_append] at h
    have henv' := henv.st (c := st.c) (v7 := v7) (v8 := v8)
    have hst' := hst0.set (c' := st.c) (w7 := v7) (w8 := v8)
    have hi4 := (List.getElem?_eq_some_iff.1 henv'.h4).1
    have htw := fun (c : Int) (a b : AV) => stH_twice hst0 (c' := st.c) (w7 := v7) (w8 := v8) (c'' := c) (u7 := a) (u8 := b)
    have next := fun (st' : OSt) (w7 w8 : AV) (hst : st' = (if s.contains x = true then [] else permsR n k (s ++ [x])).foldl (stepO f n) st) (g7 : isN w7 st'.first) (g8 : isN w8 st'.ring) => ih (x + 1) st' w7 w8 (by omega) g7 g8 (by rw [hst]; exact h)
    have l4 : aload (stH H i6 i7 i8 st.c v7 v8) ⟨false, 1⟩ (.ptr i4 0 0) = some (.fn 82 [] [.ptr i2 0 0, .ptr i3 0 0, .ptr i4 0 0]) := by rw [aload_ptr henv'.h4]; rfl
    generalize hHc : stH H i6 i7 i8 st.c v7 v8 = Hc at *
    rw [wp_round c82_l0.eq_1]
    simp [go_sem, hlt]
    refine k55 hs (by omega) ?_
    by_cases hm : x ∈ s
    · have hc : s.contains x = true := by simpa using hm
      rw [hc] at next
      simp [go_sem, hm, hs.top, hz]
      refine ⟨by omega, ?_⟩
      have := next st v7 v8 rfl h7 h8
      rw [hHc] at this
      exact this
    · have hc : s.contains x = false := by simpa using hm
      rw [hc] at next
      simp [go_sem, hm, l4]
      refine k83 hs hs0 fun c gc => ?_
      simp [go_sem, hs.noVec, aop, fillA, setCells, chunks]
      refine gc.nat0 (by omega) fun v2 H2 g2 => ?_
      obtain ⟨q2, H3, f1, f2, f3⟩ := g2.frz2 (bar := 0) (Nat.zero_le _)
      simp [go_sem, call82, f1]
      refine hrec (s ++ [x]) q2 H3 _ _ st v7 v8 f2 (fun hc => absurd hc (by simp)) (fun y hy => by
        rcases List.mem_append.1 hy with hy | hy
        · exact hsn y hy
        · rw [List.mem_singleton] at hy; omega) (by simp; omega) (henv'.ext f3) (hst'.ext f3) h7 h8 fun w7 w8 g7 g8 => ?_
      have hnx := next _ w7 w8 rfl g7 g8
      simp only [Bool.false_eq_true, if_false] at hnx
      simp [go_sem, hs.top, hz, stH_take, f3.take]
      refine ⟨by omega, ?_⟩
      rw [htw]
      exact hnx
theorem f82 (hn : n ≤ 7) (h1 : 1 ≤ n) : ∀ k, Rec82 i2 i3 i4 i5 ig i6 i7 i8 n f k
  | 0 => fun s sv H base Q st v7 v8 hs hs0 hsn hsl henv hst h7 h8 h => by
    have hsl' : s.length = n := by omega
    have l2 : aload H ⟨false, 1⟩ (.ptr i2 0 0) = some (.int .i64 (n : Nat)) := by rw [aload_ptr henv.h2]; rfl
    have l3 : aload H ⟨false, 1⟩ (.ptr i3 0 0) = some (.fn 53 [] [.ptr i5 0 0, .ptr ig 0 0, .ptr i6 0 0, .ptr i7 0 0, .ptr i8 0 0]) := by rw [aload_ptr henv.h3]; rfl
    simp [go_sem, WpFun, c82, hs.len, hsl', l2, l3]
    refine k53 henv.h5 henv.hg henv.d5 henv.dg hst h7 h8 hs hn h1 hsl' hsn fun w7 w8 g7 g8 => ?_
    have ht : (stH H i6 i7 i8 (stepO f n st s).c w7 w8).take H.length = stH H i6 i7 i8 (stepO f n st s).c w7 w8 := by rw [stH_take, List.take_length]
    simp [go_sem, ht]
    exact h w7 w8 g7 g8
  | k + 1 => fun s sv H base Q st v7 v8 hs hs0 hsn hsl henv hst h7 h8 h => by
    have hsl' : ¬ s.length = n := by omega
    have l2 : aload H ⟨false, 1⟩ (.ptr i2 0 0) = some (.int .i64 (n : Nat)) := by rw [aload_ptr henv.h2]; rfl
    simp [go_sem, WpFun, c82, hs.len, natEq, hsl', l2]
    have e := hst.same
    have hl := l82 (base := H.length) (H := H) (R := exitWp 0 (retWp 0 H.length 0 [] Q)) hn (f82 hn h1 k) hs hs0 hsn hsl hst henv n 0 st v7 v8 (by omega) h7 h8 fun w7 w8 g7 g8 => by
      have ht : ∀ c, (stH H i6 i7 i8 c w7 w8).take H.length = stH H i6 i7 i8 c w7 w8 := fun c => by rw [stH_take, List.take_length]
      simp [go_sem, ht]
      simpa [permsR] using h w7 w8 g7 g8
    rw [e] at hl
    exact hl
end
end Go.Proofs.Ytnlebofipoepfaa.Code
end
section
namespace Go.Proofs.Ytnlebofipoepfaa.Code
open Go Go.Ab
variable {base : Nat} {H : Heap} {Q : AV → Heap → Prop}
theorem k52 {i5 ig i6 i7 i8 n : Nat} {f : Nat → Nat → Bool} {st : OSt} {v7 v8 : AV} (hn : n ≤ 7) (h1 : 1 ≤ n) (h5 : H[i5]? = some (.row 0 [.int .i64 (n : Nat)] 0 true)) (hg : H[ig]? = some (.row 0 (gcells f) 0 true)) (d5 : i5 ≠ i6 ∧ i5 ≠ i7 ∧ i5 ≠ i8) (dg : ig ≠ i6 ∧ ig ≠ i7 ∧ ig ≠ i8)
    (hst : St3 H i6 i7 i8 st.c v7 v8) (h7 : isN v7 st.first) (h8 : isN v8 st.ring)
    (h : ∀ w7 w8, isN w7 ((permsR n n []).foldl (stepO f n) st).first → isN w8 ((permsR n n []).foldl (stepO f n) st).ring → Q (.tup []) (stH H i6 i7 i8 ((permsR n n []).foldl (stepO f n) st).c w7 w8)) :
    WpCall E false base 0 52 [.int .i64 (n : Nat), .fn 53 [] [.ptr i5 0 0, .ptr ig 0 0, .ptr i6 0 0, .ptr i7 0 0, .ptr i8 0 0]] H Q := by
  rw [call52]
  obtain ⟨l6, l7, l8⟩ := hst.lt
  have l5 := (List.getElem?_eq_some_iff.1 h5).1
  have lg := (List.getElem?_eq_some_iff.1 hg).1
  simp [go_sem, WpFun, c52]
  rw [storeWp_ptr (size := 1) (ver := 0) (cs := [.nilf]) (fz := 0) (ex := true) (by simp [own_get]) rfl rfl (by omega) (by simp) (by omega) (.inl (by omega))]
  obtain ⟨X, hX⟩ : ∃ X, X = H ++ [Blk.row 0 [.int .i64 (n : Nat)] 0 true, .row 0 [.fn 53 [] [.ptr i5 0 0, .ptr ig 0 0, .ptr i6 0 0, .ptr i7 0 0, .ptr i8 0 0]] 0 true, .row 0 [.fn 82 [] [.ptr H.length 0 0, .ptr (H.length + 1) 0 0, .ptr (H.length + 2) 0 0]] 0 true] := ⟨_, rfl⟩
  have hx : Ext H X := ⟨by rw [hX]; simp, fun j hj => by rw [hX, List.getElem?_append_left hj]⟩
  have e2 : X[H.length]? = some (.row 0 [.int .i64 (n : Nat)] 0 true) := by rw [hX]; simp [own_get0]
  have e3 : X[H.length + 1]? = some (.row 0 [.fn 53 [] [.ptr i5 0 0, .ptr ig 0 0, .ptr i6 0 0, .ptr i7 0 0, .ptr i8 0 0]] 0 true) := by rw [hX]; simp [own_get]
  have e4 : X[H.length + 2]? = some (.row 0 [.fn 82 [] [.ptr H.length 0 0, .ptr (H.length + 1) 0 0, .ptr (H.length + 2) 0 0]] 0 true) := by rw [hX]; simp [own_get]
  simp [go_sem, own_set, setCells, AV.cells, ← hX]
  have la : aload X ⟨false, 1⟩ (.ptr (H.length + 2) 0 0) = some (.fn 82 [] [.ptr H.length 0 0, .ptr (H.length + 1) 0 0, .ptr (H.length + 2) 0 0]) := by rw [aload_ptr e4]; rfl
  simp [go_sem, la, call82]
  refine f82 hn h1 n [] .nils X _ _ st v7 v8 isL.nil (fun _ => rfl) (by simp) (by simp) ⟨e2, e3, e4, hx.get h5, hx.get hg, ⟨by omega, by omega, by omega⟩, ⟨by omega, by omega, by omega⟩, ⟨by omega, by omega, by omega⟩, d5, dg⟩ (hst.ext hx) h7 h8 fun w7 w8 g7 g8 => ?_
  simp [go_sem, stH_take, hx.take]
  exact h w7 w8 g7 g8
/-! what the search through all orders finds -/
def okL (f : Nat → Nat → Bool) (L : List Nat) : Bool := okI f L 1 (L.length - 1)
theorem okI_all {f : Nat → Nat → Bool} {L : List Nat} {i k : Nat} : okI f L i k = true ↔ ∀ j, i ≤ j → j < i + k → f (L.getD (j - 1) 0) (L.getD j 0) = true := by
  unfold okI
  simp only [List.all_eq_true, List.mem_range'_1]
  exact ⟨fun h j h1 h2 => h j ⟨h1, h2⟩, fun h j hj => h j hj.1 hj.2⟩
theorem okL_snoc {f : Nat → Nat → Bool} {s : List Nat} {x : Nat} : okL f (s ++ [x]) = (okL f s && (s.isEmpty || f (lastN s) x)) := by
  rw [Bool.eq_iff_iff, Bool.and_eq_true, Bool.or_eq_true]
  unfold okL
  rw [okI_all, okI_all, List.length_append, List.length_singleton]
  have g1 : ∀ i, i < s.length → (s ++ [x]).getD i 0 = s.getD i 0 := fun i hi => by rw [List.getD_eq_getElem?_getD, List.getD_eq_getElem?_getD, List.getElem?_append_left hi]
  have g2 : (s ++ [x]).getD s.length 0 = x := by simp [List.getD_eq_getElem?_getD]
  constructor
  · intro h
    refine ⟨fun j h1 h2 => ?_, ?_⟩
    · have := h j h1 (by omega)
      rw [g1 j (by omega), g1 (j - 1) (by omega)] at this
      exact this
    · by_cases he : s = []
      · left; rw [he]; rfl
      · right
        have hpos := List.length_pos_iff.2 he
        have := h s.length (by omega) (by omega)
        rw [g2, g1 (s.length - 1) (by omega)] at this
        exact this
  · rintro ⟨h, hl⟩ j h1 h2
    by_cases hj : j < s.length
    · rw [g1 j hj, g1 (j - 1) (by omega)]
      exact h j h1 (by omega)
    · obtain rfl : j = s.length := by omega
      rw [g2, g1 (s.length - 1) (by omega)]
      rcases hl with hl | hl
      · rw [List.isEmpty_iff.1 hl] at h1; simp at h1
      · exact hl
theorem perms_rows {f : Nat → Nat → Bool} {n : Nat} : ∀ (k : Nat) (s : List Nat), (permsR n k s).filter (okL f) = if okL f s = true then rowsR f n k s else []
  | 0, s => by
    unfold permsR rowsR
    rw [List.filter_cons, List.filter_nil]
  | k + 1, s => by
    unfold permsR rowsR
    rw [List.filter_flatMap]
    split
    · rename_i hs
      congr 1
      funext x
      cases hc : s.contains x
      · simp only [Bool.false_eq_true, if_false, Bool.not_false, Bool.true_and]
        rw [perms_rows k (s ++ [x]), okL_snoc, hs, Bool.true_and]
      · simp
    · rename_i hs
      rw [List.flatMap_eq_nil_iff]
      intro x _
      cases hc : s.contains x
      · simp only [Bool.false_eq_true, if_false]
        rw [perms_rows k (s ++ [x]), okL_snoc]
        simp only [hs, Bool.false_and, Bool.false_eq_true, if_false]
      · simp
theorem perms_len {n : Nat} : ∀ {k : Nat} {s L : List Nat}, L ∈ permsR n k s → L.length = s.length + k
  | 0, s, L, h => by
    unfold permsR at h
    simp at h; subst h; rfl
  | k + 1, s, L, h => by
    unfold permsR at h
    obtain ⟨x, _, hx⟩ := List.mem_flatMap.1 h
    split at hx
    · simp at hx
    · have := perms_len hx
      simp at this; omega
theorem foldl_filter2 {α β : Type} {p : β → Bool} {g : α → β → α} : ∀ {l : List β} {a : α}, (∀ x ∈ l, ∀ a, p x = false → g a x = a) → l.foldl g a = (l.filter p).foldl g a
  | [], _, _ => rfl
  | x :: r, a, h => by
    rw [List.foldl_cons, List.filter_cons]
    cases hp : p x
    · rw [if_neg (by simp), h x (List.mem_cons_self ..) a hp]
      exact foldl_filter2 fun y hy => h y (List.mem_cons_of_mem _ hy)
    · rw [if_pos rfl, List.foldl_cons]
      exact foldl_filter2 fun y hy => h y (List.mem_cons_of_mem _ hy)
theorem step_fold {f : Nat → Nat → Bool} {n : Nat} : ∀ (l : List (List Nat)) (s : OSt), (∀ L ∈ l, L ≠ [] ∧ okI f L 1 (n - 1) = true) → 0 ≤ s.c → s.c + l.length < 1000000 → (s.c = 0 → s.first = []) →
    (l.foldl (stepO f n) s).c = s.c + l.length ∧ (l.foldl (stepO f n) s).first = (if s.c = 0 then l.head?.getD [] else s.first) ∧ (l.foldl (stepO f n) s).ring = (if s.ring.isEmpty = true then (l.find? (ringI f n)).getD [] else s.ring)
  | [], s, _, _, _, h0 => by
    refine ⟨by simp, ?_, ?_⟩
    · split
      · rename_i h; rw [List.foldl_nil, h0 h]; rfl
      · rfl
    · split
      · rename_i h; rw [List.foldl_nil, List.isEmpty_iff.1 h]; rfl
      · rfl
  | L :: r, s, hl, hc, hb, h0 => by
    obtain ⟨hL, hok⟩ := hl L (List.mem_cons_self ..)
    rw [List.length_cons] at hb
    have hst : stepO f n s L = ⟨s.c + 1, if s.c = 0 then L else s.first, if (s.ring.isEmpty && ringI f n L) = true then L else s.ring⟩ := by
      unfold stepO
      rw [if_pos hok, Go.IntWalk.i64_in _ (by omega)]
    rw [List.foldl_cons, hst]
    obtain ⟨a1, a2, a3⟩ := step_fold r ⟨s.c + 1, if s.c = 0 then L else s.first, if (s.ring.isEmpty && ringI f n L) = true then L else s.ring⟩ (fun M hM => hl M (List.mem_cons_of_mem _ hM)) (by simp only; omega) (by simp only; omega) (by simp only; omega)
    refine ⟨by rw [a1, List.length_cons]; simp only; omega, ?_, ?_⟩
    · rw [a2]
      simp only
      rw [if_neg (by omega)]
      rfl
    · rw [a3]
      simp only
      rw [List.find?_cons]
      have hLe : L.isEmpty = false := by cases L with
        | nil => exact absurd rfl hL
        | cons a b => rfl
      cases hr : s.ring.isEmpty
      · simp [hr]
      · cases hg : ringI f n L
        · simp [hr]
        · simp [hLe]
/-- all orders tried: the number of rows, the first one, and the first ring -/
theorem orders_eq {f : Nat → Nat → Bool} {n : Nat} (hn : n ≤ 7) (h1 : 1 ≤ n) : (permsR n n []).foldl (stepO f n) ⟨0, [], []⟩ = ⟨((rowsR f n n []).length : Nat), (rowsR f n n []).head?.getD [], ((rowsR f n n []).find? (ringP f)).getD []⟩ := by
  have hf : (permsR n n []).foldl (stepO f n) ⟨0, [], []⟩ = ((permsR n n []).filter (okL f)).foldl (stepO f n) ⟨0, [], []⟩ := foldl_filter2 fun L hL s hp => by
    have := perms_len hL
    unfold stepO
    unfold okL at hp
    rw [show L.length - 1 = n - 1 by simp at this; omega] at hp
    rw [if_neg (by simp [hp])]
  have hfil : (permsR n n []).filter (okL f) = rowsR f n n [] := by
    rw [perms_rows]
    exact if_pos rfl
  have hall : ∀ L ∈ rowsR f n n [], L ≠ [] ∧ okI f L 1 (n - 1) = true := fun L hL => by
    have hlen := rowsR_mem hL
    refine ⟨fun he => by rw [he] at hlen; simp at hlen; omega, ?_⟩
    rw [← hfil] at hL
    have := (List.mem_filter.1 hL).2
    unfold okL at this
    rw [show L.length - 1 = n - 1 by simp at hlen; omega] at this
    exact this
  have hb := rowsR_len (f := f) hn n []
  have hb2 : 7 ^ n ≤ 7 ^ 7 := Nat.pow_le_pow_right (by decide) hn
  have hb3 : 7 ^ 7 = 823543 := by decide
  obtain ⟨a1, a2, a3⟩ := step_fold (f := f) (n := n) (rowsR f n n []) ⟨0, [], []⟩ hall (by simp) (by simp only; omega) (fun _ => rfl)
  rw [hf, hfil]
  have hring : (rowsR f n n []).find? (ringI f n) = (rowsR f n n []).find? (ringP f) := find_congrL fun L hL => by
    have := rowsR_mem hL
    unfold ringI ringP lastN
    rw [show L.length = n by simpa using this]
  rw [hring] at a3
  generalize (rowsR f n n []).foldl (stepO f n) ⟨0, [], []⟩ = s at *
  obtain ⟨c, fi, ri⟩ := s
  simp only [OSt.mk.injEq]
  exact ⟨by simpa using a1, by simpa using a2, by simpa using a3⟩
end Go.Proofs.Ytnlebofipoepfaa.Code
end
section
namespace Go.Proofs.Ytnlebofipoepfaa.Code
open Go Go.Ab
/-! all contests at once: a number's bit T says what holds of the contest of number T -/
def ones (m : Nat) : Nat := 2 ^ (2 ^ m) - 1
def vtab : Nat → Nat → Nat
  | 0, _ => 0
  | m + 1, j => if j = m then ones m <<< (2 ^ m) else vtab m j ||| (vtab m j <<< (2 ^ m))
theorem ones_bit {m T : Nat} : (ones m).testBit T = decide (T < 2 ^ m) := Nat.testBit_two_pow_sub_one ..
theorem vtab_bit : ∀ {m j T : Nat}, j < m → (vtab m j).testBit T = (decide (T < 2 ^ m) && T.testBit j)
  | 0, j, T, h => by omega
  | m + 1, j, T, h => by
    have hp : 2 ^ (m + 1) = 2 ^ m + 2 ^ m := by rw [Nat.pow_succ]; omega
    unfold vtab
    by_cases hj : j = m
    · subst hj
      rw [if_pos rfl, Nat.testBit_shiftLeft, ones_bit, hp]
      by_cases h1 : T < 2 ^ j
      · rw [decide_eq_false (by omega), Bool.false_and, Nat.testBit_lt_two_pow h1, Bool.and_false]
      · by_cases h2 : T < 2 ^ j + 2 ^ j
        · rw [decide_eq_true (by omega), decide_eq_true (show T - 2 ^ j < 2 ^ j by omega), decide_eq_true h2]
          obtain ⟨r, rfl⟩ : ∃ r, T = 2 ^ j + r := ⟨T - 2 ^ j, by omega⟩
          rw [Nat.testBit_two_pow_add_eq, Nat.testBit_lt_two_pow (by omega)]
          rfl
        · rw [decide_eq_false (show ¬ T - 2 ^ j < 2 ^ j by omega), decide_eq_false h2]
          simp
    · rw [if_neg hj, Nat.testBit_or, Nat.testBit_shiftLeft, vtab_bit (show j < m by omega), vtab_bit (show j < m by omega), hp]
      by_cases h1 : T < 2 ^ m
      · rw [decide_eq_true h1, decide_eq_false (show ¬ T ≥ 2 ^ m by omega), decide_eq_true (show T < 2 ^ m + 2 ^ m by omega)]
        simp
      · rw [decide_eq_false h1, decide_eq_true (show T ≥ 2 ^ m by omega)]
        obtain ⟨r, rfl⟩ : ∃ r, T = 2 ^ m + r := ⟨T - 2 ^ m, by omega⟩
        rw [Nat.add_sub_cancel_left, Nat.testBit_two_pow_add_gt (by omega)]
        simp only [Bool.false_and, Bool.false_or, Bool.true_and]
        congr 1
        rw [decide_eq_decide]; omega
def eTab (m n x y : Nat) : Nat := if x < n ∧ y < n then (if y < x then ones m ^^^ vtab m (tri x + y) else if x < y then vtab m (tri y + x) else 0) else 0
/-- a contest that a number makes -/
structure ByBits (n T : Nat) (f : Nat → Nat → Bool) : Prop where
  lt : T < 2 ^ tri n
  won : ∀ x y, y < x → x < n → f x y = !T.testBit (tri x + y) ∧ f y x = T.testBit (tri x + y)
  dom : ∀ x y, f x y = true → x < n ∧ y < n
  irr : ∀ x, f x x = false
theorem tri_lt {n x y : Nat} (h1 : y < x) (h2 : x < n) : tri x + y < tri n := by
  have := tri_mono (show x + 1 ≤ n by omega)
  simp only [tri] at this; omega
theorem MadeC.bits {n bits : Nat} {l : List ZZ} {f : Nat → Nat → Bool} (h : MadeC n bits l f) : ByBits n (bits % 2 ^ tri n) f := by
  refine ⟨Nat.mod_lt _ (Nat.two_pow_pos _), fun x y h1 h2 => ?_, h.dom, h.irr⟩
  have := tri_lt h1 h2
  rw [Nat.testBit_mod_two_pow, decide_eq_true this, Bool.true_and]
  exact h.won x y h1 h2
section
variable {n T : Nat} {f : Nat → Nat → Bool}
theorem eTab_bit (h : ByBits n T f) {x y : Nat} : (eTab (tri n) n x y).testBit T = f x y := by
  unfold eTab
  split
  · rename_i hxy
    split
    · rename_i hlt
      rw [Nat.testBit_xor, ones_bit, vtab_bit (tri_lt hlt hxy.1), decide_eq_true h.lt, Bool.true_and, (h.won x y hlt hxy.1).1]
      cases T.testBit (tri x + y) <;> rfl
    · split
      · rename_i hlt
        rw [vtab_bit (tri_lt hlt hxy.2), decide_eq_true h.lt, Bool.true_and, (h.won y x hlt hxy.2).2]
      · rw [Nat.zero_testBit]
        obtain rfl : x = y := by omega
        exact (h.irr x).symm
  · rename_i hxy
    rw [Nat.zero_testBit]
    cases hf : f x y
    · rfl
    · exact absurd (h.dom x y hf) hxy
/-! an odd number of rows -/
def par (k : Nat) : Bool := k % 2 == 1
theorem par_add {a b : Nat} : par (a + b) = (par a ^^ par b) := by
  unfold par
  rcases Nat.mod_two_eq_zero_or_one a with ha | ha <;> rcases Nat.mod_two_eq_zero_or_one b with hb | hb <;> rw [Nat.add_mod, ha, hb] <;> rfl
def pTab (m n : Nat) : Nat → List Nat → Nat
  | 0, _ => ones m
  | k + 1, s => (List.range' 0 n).foldl (fun a x => if s.contains x = true then a else a ^^^ (if s.isEmpty = true then pTab m n k (s ++ [x]) else eTab m n (lastN s) x &&& pTab m n k (s ++ [x]))) 0
theorem pTab_bit (h : ByBits n T f) : ∀ (k : Nat) (s : List Nat), (pTab (tri n) n k s).testBit T = par (rowsR f n k s).length
  | 0, s => by
    unfold pTab rowsR
    rw [ones_bit, decide_eq_true h.lt]; rfl
  | k + 1, s => by
    have key : ∀ (l : List Nat) (a : Nat), (l.foldl (fun a x => if s.contains x = true then a else a ^^^ (if s.isEmpty = true then pTab (tri n) n k (s ++ [x]) else eTab (tri n) n (lastN s) x &&& pTab (tri n) n k (s ++ [x]))) a).testBit T
        = (a.testBit T ^^ par (l.flatMap fun (x : Nat) => if (!s.contains x && (s.isEmpty || f (lastN s) x)) = true then rowsR f n k (s ++ [x]) else []).length) := by
      intro l
      induction l with
      | nil => intro a; simp [par]
      | cons x r ih =>
        intro a
        rw [List.foldl_cons, ih, List.flatMap_cons, List.length_append, par_add, ← Bool.xor_assoc]
        congr 1
        cases hc : s.contains x
        · simp only [Bool.false_eq_true, if_false, Bool.not_false, Bool.true_and]
          rw [Nat.testBit_xor]
          cases he : s.isEmpty
          · simp only [Bool.false_eq_true, if_false, Bool.false_or]
            rw [Nat.testBit_and, eTab_bit h, pTab_bit h k]
            cases f (lastN s) x
            · simp [par]
            · simp
          · simp only [if_true, Bool.true_or]
            rw [pTab_bit h k]
        · simp [par]
    unfold pTab rowsR
    rw [key, Nat.zero_testBit, Bool.false_xor]
theorem rows_tab : ∀ n, n ≤ 6 → 1 ≤ n → pTab (tri n) n n [] = ones (tri n) := by decide +kernel
theorem rows_odd (h : ByBits n T f) (hn : n ≤ 6) (h1 : 1 ≤ n) : (rowsR f n n []).length % 2 = 1 := by
  have := pTab_bit h n []
  rw [rows_tab n hn h1, ones_bit, decide_eq_true h.lt] at this
  have h2 : par (rowsR f n n []).length = true := this.symm
  unfold par at h2
  simpa using h2
/-! a ring just if chains lead from each to each -/
def rTab (m n : Nat) : Nat → List Nat → Nat
  | 0, s => eTab m n (lastN s) (s.getD 0 0)
  | k + 1, s => (List.range' 0 n).foldl (fun a x => if s.contains x = true then a else a ||| (eTab m n (lastN s) x &&& rTab m n k (s ++ [x]))) 0
theorem rTab_bit (h : ByBits n T f) : ∀ (k : Nat) (s : List Nat), s.isEmpty = false → (rTab (tri n) n k s).testBit T = (rowsR f n k s).any fun L => f (lastN L) (L.getD 0 0)
  | 0, s, _ => by
    unfold rTab rowsR
    rw [eTab_bit h]; simp
  | k + 1, s, he => by
    have key : ∀ (l : List Nat) (a : Nat), (l.foldl (fun a x => if s.contains x = true then a else a ||| (eTab (tri n) n (lastN s) x &&& rTab (tri n) n k (s ++ [x]))) a).testBit T
        = (a.testBit T || (l.flatMap fun (x : Nat) => if (!s.contains x && (s.isEmpty || f (lastN s) x)) = true then rowsR f n k (s ++ [x]) else []).any fun L => f (lastN L) (L.getD 0 0)) := by
      intro l
      induction l with
      | nil => intro a; simp
      | cons x r ih =>
        intro a
        rw [List.foldl_cons, ih, List.flatMap_cons, List.any_append, ← Bool.or_assoc]
        congr 1
        cases hc : s.contains x
        · simp only [Bool.false_eq_true, if_false, Bool.not_false, Bool.true_and, he, Bool.false_or]
          rw [Nat.testBit_or, Nat.testBit_and, eTab_bit h, rTab_bit h k (s ++ [x]) (by cases s <;> rfl)]
          cases f (lastN s) x
          · simp
          · simp
        · simp
    unfold rTab rowsR
    rw [key, Nat.zero_testBit, Bool.false_or]
/-- those of a set beat nobody outside -/
def cTab (m n S : Nat) : Nat := (List.range' 0 n).foldl (fun a x => (List.range' 0 n).foldl (fun a y => if (S.testBit x && !S.testBit y) = true then a &&& (ones m ^^^ eTab m n x y) else a) a) (ones m)
def sTab (m n : Nat) : Nat := (List.range' 1 (pw n - 2)).foldl (fun a S => a &&& (ones m ^^^ cTab m n S)) (ones m)
def closedB (f : Nat → Nat → Bool) (n S : Nat) : Bool := (List.range' 0 n).all fun x => (List.range' 0 n).all fun y => !(S.testBit x && !S.testBit y && f x y)
theorem cTab_bit (h : ByBits n T f) {S : Nat} : (cTab (tri n) n S).testBit T = closedB f n S := by
  have k1 : ∀ (x : Nat) (l : List Nat) (a : Nat), (l.foldl (fun a y => if (S.testBit x && !S.testBit y) = true then a &&& (ones (tri n) ^^^ eTab (tri n) n x y) else a) a).testBit T = (a.testBit T && l.all fun y => !(S.testBit x && !S.testBit y && f x y)) := by
    intro x l
    induction l with
    | nil => intro a; simp
    | cons y r ih =>
      intro a
      rw [List.foldl_cons, ih, List.all_cons, ← Bool.and_assoc]
      congr 1
      split
      · rename_i hc
        rw [Nat.testBit_and, Nat.testBit_xor, ones_bit, decide_eq_true h.lt, eTab_bit h, hc]
        cases f x y <;> rfl
      · rename_i hc
        rw [Bool.not_eq_true] at hc
        rw [hc]; simp
  have k2 : ∀ (l : List Nat) (a : Nat), (l.foldl (fun a x => (List.range' 0 n).foldl (fun a y => if (S.testBit x && !S.testBit y) = true then a &&& (ones (tri n) ^^^ eTab (tri n) n x y) else a) a) a).testBit T = (a.testBit T && l.all fun x => (List.range' 0 n).all fun y => !(S.testBit x && !S.testBit y && f x y)) := by
    intro l
    induction l with
    | nil => intro a; simp
    | cons x r ih =>
      intro a
      rw [List.foldl_cons, ih, List.all_cons, k1, ← Bool.and_assoc]
  unfold cTab closedB
  rw [k2, ones_bit, decide_eq_true h.lt, Bool.true_and]
theorem sTab_bit (h : ByBits n T f) : (sTab (tri n) n).testBit T = (List.range' 1 (pw n - 2)).all fun S => !closedB f n S := by
  have k2 : ∀ (l : List Nat) (a : Nat), (l.foldl (fun a S => a &&& (ones (tri n) ^^^ cTab (tri n) n S)) a).testBit T = (a.testBit T && l.all fun S => !closedB f n S) := by
    intro l
    induction l with
    | nil => intro a; simp
    | cons x r ih =>
      intro a
      rw [List.foldl_cons, ih, List.all_cons, ← Bool.and_assoc, Nat.testBit_and, Nat.testBit_xor, ones_bit, decide_eq_true h.lt, cTab_bit h]
      cases closedB f n x <;> simp
  unfold sTab
  rw [k2, ones_bit, decide_eq_true h.lt, Bool.true_and]
theorem ring_tab : ∀ n, n ≤ 6 → 3 ≤ n → rTab (tri n) n (n - 1) [0] = sTab (tri n) n := by decide +kernel
end
end Go.Proofs.Ytnlebofipoepfaa.Code
end
section
namespace Go.Proofs.Ytnlebofipoepfaa.Code
open Go Go.Ab
def strongB (f : Nat → Nat → Bool) (n : Nat) : Bool := (List.range' 0 n).all fun a => (List.range n).all (reachR f n a n)
section
variable {n T : Nat} {f : Nat → Nat → Bool} {w : Nat → Nat}
theorem closed_iff {S : Nat} : closedB f n S = true ↔ ∀ x, x < n → ∀ y, y < n → S.testBit x = true → f x y = true → S.testBit y = true := by
  unfold closedB
  simp only [List.all_eq_true, List.mem_range'_1, Nat.zero_le, true_and, Nat.zero_add]
  constructor
  · intro h x hx y hy h1 h2
    have := h x hx y hy
    rw [h1, h2] at this
    simpa using this
  · intro h x hx y hy
    cases h1 : S.testBit x
    · simp
    · cases h2 : f x y
      · simp
      · rw [h x hx y hy h1 h2]; rfl
theorem reach_closed {S a : Nat} (ha : a < n) (hc : ∀ x, x < n → ∀ y, y < n → S.testBit x = true → f x y = true → S.testBit y = true) (h0 : S.testBit a = true) : ∀ {k z : Nat}, reachR f n a k z = true → S.testBit z = true
  | 0, z, h => by
    simp only [reachR, decide_eq_true_eq] at h
    rw [h]; exact h0
  | k + 1, z, h => by
    rcases nextR_iff.1 h with h | ⟨hz, x, hx, h1, h2⟩
    · exact reach_closed ha hc h0 h
    · exact hc x hx z hz (reach_closed ha hc h0 h1) h2
theorem strong_closed (hbd : BoardW n w) (hw : ∀ x y, (w x).testBit y = f x y) (h1 : 1 ≤ n) : strongB f n = (List.range' 1 (pw n - 2)).all fun S => !closedB f n S := by
  have hp : 2 ≤ pw n := by
    have := Nat.pow_le_pow_right (n := 2) (by decide) h1
    exact this
  rw [Bool.eq_iff_iff]
  unfold strongB
  simp only [List.all_eq_true, List.mem_range'_1, List.mem_range, Nat.zero_le, true_and, Nat.zero_add, Bool.not_eq_true']
  constructor
  · intro h S hS
    cases hc : closedB f n S
    · rfl
    · exfalso
      have hc := closed_iff.1 hc
      obtain ⟨a, ha⟩ := Nat.exists_testBit_of_ne_zero (show S ≠ 0 by omega)
      have han : a < n := bit_lt (show S < pw n by omega) ha
      have hall : ∀ y, y < n → S.testBit y = true := fun y hy => reach_closed han hc ha (h a han y hy)
      have : S = pw n - 1 := Nat.eq_of_testBit_eq fun y => by
        rw [testBit_all]
        by_cases hy : y < n
        · rw [hall y hy, decide_eq_true hy]
        · rw [decide_eq_false hy]
          cases hb : S.testBit y
          · rfl
          · exact absurd (bit_lt (show S < pw n by omega) hb) hy
      omega
  · intro h a ha y hy
    have h7 := hbd.le
    obtain ⟨t, ht, htb⟩ := exists_reach hbd (show a < 7 by omega)
    have htn : t < pw n := lt_pw fun i hi => (((htb i).1 hi).lt hbd ha)
    have hta : t.testBit a = true := (htb a).2 .refl
    have hcl : closedB f n t = true := closed_iff.2 fun x _ z _ h1 h2 => (htb z).2 (.step ((htb x).1 h1) (by rw [hw]; exact h2))
    have ht0 : t ≠ 0 := fun he => by rw [he, Nat.zero_testBit] at hta; cases hta
    have : t = pw n - 1 := by
      apply Decidable.byContradiction
      intro hne
      have := h t ⟨by omega, by omega⟩
      rw [hcl] at this; cases this
    rw [reach_all ha hbd hw, ← htb, this, testBit_all, decide_eq_true hy]
/-- there is a ring just if chains lead from each to each, of at least three -/
theorem ring_strong (hb : ByBits n T f) (hbd : BoardW n w) (hw : ∀ x y, (w x).testBit y = f x y) (hn : n ≤ 6) (h1 : 1 ≤ n) : (decide (2 < n) && strongB f n) = ((rowsR f n n []).find? (ringP f)).isSome := by
  rw [ring_eq (by omega) (by omega)]
  by_cases h3 : 2 < n
  · rw [decide_eq_true h3, Bool.true_and, if_pos h3, strong_closed hbd hw h1, ← sTab_bit hb, ← ring_tab n hn h3, rTab_bit hb _ _ rfl]
    have hlt : clr (pw n - 1) 1 < 128 ∧ pw n - 1 < 256 := by
      have : ∀ n, n ≤ 7 → clr (pw n - 1) 1 < 128 ∧ pw n - 1 < 256 := by decide
      exact this n (by omega)
    rw [rowS_find (n := n) (f := f) (show n ≤ 7 by omega) (n - 1) [0] (clr (pw n - 1) 1) (fun x => by
      have h1 : clr (pw n - 1) 1 = clr (pw n - 1) (pw 0) := rfl
      rw [h1, testBit_clr hlt.2, testBit_all, testBit_pw, Bool.and_eq_true, decide_eq_true_eq, Bool.not_eq_true', decide_eq_false_iff_not, List.mem_singleton]
      exact ⟨fun h => ⟨h.1, fun hc => h.2 hc.symm⟩, fun h => ⟨h.1, fun hc => h.2 hc.symm⟩⟩) hlt.1]
    have hel : ∀ L ∈ rowsR f n (n - 1) [0], L.getD 0 0 = 0 := fun L hL => by
      obtain ⟨_, h2, _⟩ := rows_valid (valid_one (show 0 < n by omega)) hL
      have := congrArg (fun M : List Nat => M.getD 0 0) h2
      simpa [List.getD_eq_getElem?_getD, List.getElem?_take] using this
    generalize rowsR f n (n - 1) [0] = A at *
    rw [Bool.eq_iff_iff, List.any_eq_true, List.find?_isSome]
    exact ⟨fun ⟨L, h1, h2⟩ => ⟨L, h1, by rw [hel L h1] at h2; simpa using h2⟩, fun ⟨L, h1, h2⟩ => ⟨L, h1, by rw [hel L h1]; simpa using h2⟩⟩
  · rw [decide_eq_false h3, if_neg h3]; rfl
end
section
variable {base : Nat} {H : Heap}
set_option maxRecDepth 4000 in
theorem l12 {n : Nat} {f : Nat → Nat → Bool} {x9 x10 x11 x12 x13 x14 : AV} (h2 : H[2]? = some (.row 0 (gcells f) 0 true)) (h3 : H[3]? = some (.row 0 [.int .i64 (n : Nat)] 0 true)) (hn : n ≤ 7) {R : PQ} : ∀ (k a : Nat) (b : Bool), a + k = n →
    R (.exit 0) [(4, .ptr 2 0 0), (5, .ptr 3 0 0), (6, .ptr 4 0 0), (7, .ptr 5 0 0), (8, .ptr 6 0 0), (9, x9), (10, x10), (11, x11), (12, x12), (13, x13), (14, x14), (15, .bool (b && (List.range' a k).all fun a => (List.range n).all (reachR f n a n))), (44, .int .i64 (n : Nat)), (45, .int .i64 (n : Nat)), (46, .bool false)] H →
    Wp E base 0 (.loop c12_l0) [(4, .ptr 2 0 0), (5, .ptr 3 0 0), (6, .ptr 4 0 0), (7, .ptr 5 0 0), (8, .ptr 6 0 0), (9, x9), (10, x10), (11, x11), (12, x12), (13, x13), (14, x14), (15, .bool b), (44, .int .i64 (n : Nat)), (45, .int .i64 (a : Nat))] H R := by
  have l3 : aload H ⟨false, 1⟩ (.ptr 3 0 0) = some (.int .i64 (n : Nat)) := by rw [aload_ptr h3]; rfl
  intro k
  induction k with
  | zero =>
    intro a b ha h
    obtain rfl : a = n := by omega
    rw [wp_round c12_l0.eq_1]
    simp [go_sem]
    simpa using h
  | succ k ih =>
    intro a b ha h
    have hlt : a < n := by omega
    have hz := i64_suc (show a < 1000000 by omega)
    rw [List.range'_succ, List.all_cons, ← Bool.and_assoc] at h
    have next := ih (a + 1) _ (by omega) h
    rw [wp_round c12_l0.eq_1]
    cases b
    · simp only [Bool.false_and] at next
      simp [go_sem, hlt, hz]
      exact next
    · simp only [Bool.true_and] at next
      simp [go_sem, hlt, loadGG h2, l3]
      refine k45 hn (by omega) (by omega) (Nat.zero_le _) ?_
      simp [go_sem, l3]
      refine k54 hn (by omega) ?_
      simp [go_sem, hz]
      exact next
end
set_option maxRecDepth 8000 in
set_option maxHeartbeats 1000000 in
theorem law12 {p bits : Nat} (hp : p < 256) (hbits : bits < 4294967296) :
    WpCall E false 0 0 12 [.agg [.int .u8 (p : Nat), .int .u32 (bits : Nat)]] [] (fun v _ => v = .bool true) := by
  rw [call12]
  have e0 : aload [Blk.row 0 [AV.int .u8 (p : Nat), .int .u32 (bits : Nat)] 0 true] ⟨true, 2⟩ (.ptr 0 0 0) = some (.agg [.int .u8 (p : Nat), .int .u32 (bits : Nat)]) := rfl
  simp [go_sem, WpFun, c12, e0]
  refine k44 (most := 6) (n := 1 + p % 6) hp hbits (by omega) (by omega) (Nat.zero_le _) rfl fun q l f hq hm => ?_
  have hn6 : 1 + p % 6 ≤ 6 := by omega
  generalize 1 + p % 6 = n at *
  have hn := hm.le
  have hn1 := hm.pos
  have hok := hm.ok
  obtain ⟨hbd, hbit⟩ := hok.board
  have hfl : bitL l = f := by
    funext x y
    rw [Bool.eq_iff_iff, bitL_iff, hm.beat]
  rw [hfl] at hbit
  have hone : ∀ x y, x < n → y < n → x ≠ y → f x y = !f y x := fun x y hx hy hne => by rw [← hbit, ← hbit]; exact hbd.one x y hx hy hne
  have hne := rows_ne hone
  have hrow := row_eq (f := f) hn
  have hring := ring_eq (f := f) hn hn1
  have hrows := rows_eq (w := boardF l fun _ => 0) (f := f) hbit hn hn1 hm.dom
  have hodd := rows_odd hm.bits hn6 hn1
  have hstrong := ring_strong hm.bits hbd hbit hn6 hn1
  have hord := orders_eq (f := f) hn hn1
  have hl : l.length < 1000 := by
    rw [hm.len]
    have : ∀ n, n ≤ 7 → halfN n < 1000 := by decide
    exact this n hn
  have d1 : aload [Blk.row 0 [AV.int .u8 (p : Nat), .int .u32 (bits : Nat)] 0 true, Blk.row 0 [.int .i64 (n : Nat), q] 0 true, Blk.row 0 (gcells f) 0 true] ⟨false, 1⟩ (.ptr 1 0 0) = some (.int .i64 (n : Nat)) := rfl
  simp [go_sem, storeWp, astore, setCells, hq.cells, hq.top, hq.isTup, gcells_length, gcells_over, d1, AV.cells]
  obtain ⟨H7, hH7⟩ : ∃ H7, H7 = [Blk.row 0 [AV.int .u8 (p : Nat), .int .u32 (bits : Nat)] 0 true, Blk.row 0 [.int .i64 (n : Nat), q] 0 true, Blk.row 0 (gcells f) 0 true, .row 0 [.int .i64 (n : Nat)] 0 true, .row 0 [.int .i64 0] 0 true, .row 0 [.nils] 0 true, .row 0 [.nils] 0 true] := ⟨_, rfl⟩
  have g1 : H7[1]? = some (Blk.row 0 [.int .i64 (n : Nat), q] 0 true) := by rw [hH7]; rfl
  have g2 : H7[2]? = some (Blk.row 0 (gcells f) 0 true) := by rw [hH7]; rfl
  have g3 : H7[3]? = some (Blk.row 0 [.int .i64 (n : Nat)] 0 true) := by rw [hH7]; rfl
  have gs : St3 H7 4 5 6 0 .nils .nils := ⟨by omega, by omega, by omega, by rw [hH7]; rfl, by rw [hH7]; rfl, by rw [hH7]; rfl⟩
  rw [← hH7]
  clear hH7 d1
  have l3 : aload H7 ⟨false, 1⟩ (.ptr 3 0 0) = some (.int .i64 (n : Nat)) := by rw [aload_ptr g3]; rfl
  simp [go_sem, l3]
  refine k52 (st := ⟨0, [], []⟩) hn hn1 g3 g2 ⟨by omega, by omega, by omega⟩ ⟨by omega, by omega, by omega⟩ gs ⟨isL.nil, fun _ => rfl⟩ ⟨isL.nil, fun _ => rfl⟩ fun w7 w8 h7 h8 => ?_
  rw [hord] at h7 h8 ⊢
  simp only at h7 h8 ⊢
  have hgs := gs.set (c' := ((rowsR f n n []).length : Nat)) (w7 := w7) (w8 := w8)
  have f1 : (stH H7 4 5 6 ((rowsR f n n []).length : Nat) w7 w8)[1]? = some (Blk.row 0 [.int .i64 (n : Nat), q] 0 true) := by rw [stH_get (by omega) (by omega) (by omega)]; exact g1
  have f2 : (stH H7 4 5 6 ((rowsR f n n []).length : Nat) w7 w8)[2]? = some (Blk.row 0 (gcells f) 0 true) := by rw [stH_get (by omega) (by omega) (by omega)]; exact g2
  have f3 : (stH H7 4 5 6 ((rowsR f n n []).length : Nat) w7 w8)[3]? = some (Blk.row 0 [.int .i64 (n : Nat)] 0 true) := by rw [stH_get (by omega) (by omega) (by omega)]; exact g3
  generalize stH H7 4 5 6 ((rowsR f n n []).length : Nat) w7 w8 = H8 at *
  have d2 : aload H8 ⟨true, 2⟩ (.ptr 1 0 0) = some (.agg [.int .i64 (n : Nat), q]) := by rw [aload_ptr f1]; rfl
  have d3 : aload H8 ⟨false, 1⟩ (.ptr 3 0 0) = some (.int .i64 (n : Nat)) := by rw [aload_ptr f3]; rfl
  have d4 : aload H8 ⟨false, 1⟩ (.ptr 4 0 0) = some (.int .i64 ((rowsR f n n []).length : Nat)) := by rw [aload_ptr hgs.h6]; rfl
  have d5 : aload H8 ⟨false, 1⟩ (.ptr 5 0 0) = some w7 := by rw [aload_ptr hgs.h7]; rfl
  have d6 : aload H8 ⟨false, 1⟩ (.ptr 6 0 0) = some w8 := by rw [aload_ptr hgs.h8]; rfl
  have hrl : ∀ L ∈ rowsR f n n [], L.length < 1000 := fun L hL => by
    have := rowsR_mem hL
    simp at this; omega
  have h8e := fun (neg : Bool) (K : AV → Heap → List Nat → Prop) => h8.eq (H := H8) (neg := neg) (K := K)
  simp [go_sem, d2]
  refine k27 hq hl hok (Nat.zero_le _) (fun L1 u1 hL1 hu1 => ?_) (fun hno => by
    rw [hfl, hrow] at hno
    exact hne (List.head?_eq_none_iff.1 hno))
  rw [hfl, hrow] at hL1
  have hL1m := hrl L1 (List.mem_of_mem_head? hL1)
  have hhead : (rowsR f n n []).head?.getD [] = L1 := by rw [hL1]; rfl
  rw [hhead] at h7
  simp [go_sem, d2]
  refine k31 hq hl hok (Nat.zero_le _) ?_
  rw [hrows]
  have hrem : abin .rem (.int .i64 ((rowsR f n n []).length : Nat)) (.int .i64 2) = some (.int .i64 1) := by
    rw [abin_rem (by decide), Go.IntWalk.rem_in _ _ (by omega)]
    congr 2
    omega
  generalize hlen : (rowsR f n n []).length = len at *
  simp [go_sem, d2]
  cases hf : (rowsR f n n []).find? (ringP f) with
  | none =>
    have hlost : 2 < n → rowS f (fun x => f x 0) (n - 1) [0] (clr (pw n - 1) 1) = none := fun h => by rw [hring, if_pos h] at hf; exact hf
    rw [hf] at h8 h8e hstrong
    refine k29 hq hl hok (Nat.zero_le _) (fun Lr u3 h2n hS hu3 => by rw [hfl, hlost h2n] at hS; cases hS) (fun _ => ?_)
    have hdec : decide ((2 : Int) < (n : Int)) = decide (2 < n) := decide_eq_decide.2 (by omega)
    simp [go_sem, d3]
    rw [hdec]
    refine l12 f2 f3 hn n 0 (decide (2 < n)) (by omega) ?_
    have hs : (decide (2 < n) && (List.range' 0 n).all fun a => (List.range n).all (reachR f n a n)) = false := hstrong
    rw [hs]
    simp [go_sem, d5]
    refine k22 hu1 h7.1 (by omega) (by omega) ?_
    simp [go_sem, d4, d6, hrem, h8e, eqWp_bool, call16]
  | some Lr =>
    have h2n : 2 < n := by
      apply Decidable.byContradiction
      intro h
      rw [hring, if_neg h] at hf; cases hf
    have hfound : rowS f (fun x => f x 0) (n - 1) [0] (clr (pw n - 1) 1) = some Lr := by rw [hring, if_pos h2n] at hf; exact hf
    have hLrl := hrl Lr (List.mem_of_find?_eq_some hf)
    have hLr0 : Lr.isEmpty = false := by
      have := rowsR_mem (List.mem_of_find?_eq_some hf)
      cases Lr with
      | nil => simp at this; omega
      | cons a b => rfl
    rw [hf] at h8 h8e hstrong
    refine k29 hq hl hok (Nat.zero_le _) (fun Lr' u3 _ hS hu3 => ?_) (fun hno => by
      have := hno h2n
      rw [hfl, hfound] at this; cases this)
    rw [hfl, hfound] at hS
    obtain rfl : Lr = Lr' := Option.some.inj hS
    have hdec : decide ((2 : Int) < (n : Int)) = decide (2 < n) := decide_eq_decide.2 (by omega)
    simp [go_sem, d3]
    rw [hdec]
    refine l12 f2 f3 hn n 0 (decide (2 < n)) (by omega) ?_
    have hs : (decide (2 < n) && (List.range' 0 n).all fun a => (List.range n).all (reachR f n a n)) = true := hstrong
    rw [hs]
    have h8' : isL w8 Lr := h8.1
    have h8e' : ∀ (neg : Bool) (K : AV → Heap → List Nat → Prop), eqWp neg .nilS (some w8) (some .nils) H8 K = K (.bool (neg != false)) H8 [] := fun neg K => by
      have := h8e neg K
      simp only [Option.getD_some, hLr0] at this
      exact this
    simp [go_sem, d5]
    refine k22 hu1 h7.1 (by omega) (by omega) ?_
    simp [go_sem, d4, d6, hrem, h8e', eqWp_bool]
    refine k22 hu3 h8' (by omega) (by omega) ?_
    simp [go_sem, call16]
theorem redei_true {p bits : Nat} (hp : p < 256) (hbits : bits < 4294967296) : ∃ f H', acall E f 12 [.agg [.int .u8 (p : Nat), .int .u32 (bits : Nat)]] [] = some (.bool true, H') := by
  obtain ⟨f, v, H', h, rfl⟩ := law12 hp hbits
  exact ⟨f, H', h⟩
end Go.Proofs.Ytnlebofipoepfaa.Code
end
