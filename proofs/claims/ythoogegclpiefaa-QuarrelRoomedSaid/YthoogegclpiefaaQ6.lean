/-
  Parts of the proofs about this chapter, joined: contracts of functions and plain laws.
-/
import Derived.Test.YthoogegclpiefaaAbArg
import Derived.Test.YthoogegclpiefaaQ4
set_option linter.all false
section
namespace Go.Ab
open Go.RowKit Go.ChangeShapes Go.WideShapes
variable {H : Type} {enc : TypeId × Value → H} {P : Program} {W W' : World} {base : Nat} {spare : Nat → Bool} {held : Bool}

theorem flat_vr {n : Nat} {t : TypeId} {v : Value} {d : DataW H} {ps : List MemPlace} {r : Reach} {b0 : Nat}
    (hu : (∃ fs, P.underlying t = some (.struct fs)) ∨ ∃ m e, P.underlying t = some (.array m e)) (hf : flatT P n t = true)
    (hval : Value.okWide P W r b0 t v) (hd : DataW.Trod enc P W 0 spare held t v d ps) : ∃ ys, VR (ctx0 W) (.agg ys) v ∧ Sh P n t ys := by
  have hv : ∃ cs, v = .agg cs := by
    unfold Value.okWide at hval
    rcases hu with ⟨fs, hu⟩ | ⟨m, e, hu⟩
    · rw [hu] at hval
      obtain ⟨cs, h, _⟩ := hval
      exact ⟨cs, h⟩
    · rw [hu] at hval
      obtain ⟨cs, h, _⟩ := hval
      exact ⟨cs, h⟩
  obtain ⟨cs, rfl⟩ := hv
  obtain ⟨fuel, hd⟩ := hd
  obtain ⟨ys, h1, h2⟩ := flat_cel (W := W) n t hf _ _ _ hd
  have hc : (Value.agg cs).cells.toList = cs.toList := rfl
  rw [hc] at h2
  exact ⟨ys, .agg ys cs (by rw [h2.len]; simp) h2.one fun i c u hi hu => h2.vr i c u hi (by simpa using hu), h1⟩

theorem sh_nat {n : Nat} {e : TypeId} {k : IntKind} {ys : List AV} (he : P.underlying e = some (.int k)) (hk : k.min = 0) (h : Sh P (n + 1) e ys) : ∃ a : Nat, ys = [.int k a] ∧ (a : Int) ≤ k.max := by
  unfold Sh at h
  rw [he] at h
  obtain ⟨z, rfl, hw⟩ := h
  simp only [Lit.wf, Bool.and_eq_true, decide_eq_true_eq, hk] at hw
  obtain ⟨a, rfl⟩ := Int.eq_ofNat_of_zero_le hw.1
  exact ⟨a, rfl, hw.2⟩

theorem u8_wf {z : Int} (h : (Lit.int .u8 z).wf = true) : ∃ a : Nat, z = a ∧ a < 256 := by
  simp only [Lit.wf, Bool.and_eq_true, decide_eq_true_eq] at h
  have m0 : IntKind.u8.min = 0 := by decide
  have m1 : IntKind.u8.max = 255 := by decide
  exact ⟨z.toNat, by omega, by omega⟩

/-- a struct of a byte and a word -/
theorem row_vr {t : TypeId} {f0 f1 : Field} {v : Value} {d : DataW H} {ps : List MemPlace} {r : Reach} {b0 : Nat}
    (ht : P.underlying t = some (.struct #[f0, f1])) (o0 : f0.offset = 0) (o1 : f1.offset = 1) (c0 : P.cellsOf f0.type = 1) (c1 : P.cellsOf f1.type = 1) (ct : P.cellsOf t = 2)
    (h0 : P.underlying f0.type = some (.int .u8)) (h1 : P.underlying f1.type = some (.int .u32))
    (hval : Value.okWide P W r b0 t v) (hd : DataW.Trod enc P W 0 spare held t v d ps) :
    ∃ p bits : Nat, p < 256 ∧ bits < 4294967296 ∧ VR (ctx0 W) (.agg [.int .u8 (p : Nat), .int .u32 (bits : Nat)]) v := by
  have hf : flatT P 2 t = true := by
    have g0 : flatT P 1 f0.type = true := by unfold flatT; rw [h0]
    have g1 : flatT P 1 f1.type = true := by unfold flatT; rw [h1]
    unfold flatT; rw [ht]
    simp [rowed, o0, o1, c0, c1, ct, g0, g1]
  obtain ⟨ys, hv, hs⟩ := flat_vr (.inl ⟨_, ht⟩) hf hval hd
  unfold Sh at hs
  rw [ht] at hs
  obtain ⟨hl, hs⟩ := hs
  rw [ct] at hl
  have s0 := hs f0 (by simp)
  have s1 := hs f1 (by simp)
  rw [o0, c0] at s0
  rw [o1, c1] at s1
  obtain ⟨p, hp, hp2⟩ := sh_nat h0 (by decide) s0
  obtain ⟨b, hb, hb2⟩ := sh_nat h1 (by decide) s1
  match ys, hl with
  | [x, y], _ =>
    simp at hp hb
    subst hp hb
    have m1 : IntKind.u8.max = 255 := by decide
    have m2 : IntKind.u32.max = 4294967295 := by decide
    exact ⟨p, b, by omega, by omega, hv⟩

/-- an array of bytes -/
theorem bytes_vr {t e : TypeId} {m : Nat} {v : Value} {d : DataW H} {ps : List MemPlace} {r : Reach} {b0 : Nat}
    (ht : P.underlying t = some (.array m e)) (he : P.underlying e = some (.int .u8)) (ce : P.cellsOf e = 1) (ct : P.cellsOf t = m)
    (hval : Value.okWide P W r b0 t v) (hd : DataW.Trod enc P W 0 spare held t v d ps) :
    ∃ f : Nat → Nat, (∀ i, f i < 256) ∧ VR (ctx0 W) (.agg ((List.range m).map fun i => .int .u8 ((f i : Nat) : Int))) v := by
  have hf : flatT P 2 t = true := by
    have g0 : flatT P 1 e = true := by unfold flatT; rw [he]
    unfold flatT; rw [ht]
    simp [ce, ct, g0]
  obtain ⟨ys, hv, hs⟩ := flat_vr (.inr ⟨_, _, ht⟩) hf hval hd
  unfold Sh at hs
  rw [ht] at hs
  obtain ⟨hl, hs⟩ := hs
  rw [ct] at hl
  have each : ∀ i, i < m → ∃ a : Nat, ys[i]? = some (.int .u8 (a : Nat)) ∧ a < 256 := fun i hi => by
    have := hs i hi
    rw [ce, Nat.mul_one] at this
    obtain ⟨a, ha, ha2⟩ := sh_nat he (by decide) this
    have m1 : IntKind.u8.max = 255 := by decide
    refine ⟨a, ?_, by omega⟩
    have h2 : ((ys.drop i).take 1)[0]? = some (.int .u8 (a : Nat)) := by rw [ha]; rfl
    simpa using h2
  obtain ⟨Y, hY⟩ := Go.Deep.choose_lt each
  refine ⟨fun i => if i < m then Y i else 0, fun i => ?_, ?_⟩
  · simp only
    split
    · rename_i h; exact (hY i h).2
    · decide
  · have : ys = (List.range m).map fun i => AV.int .u8 (((if i < m then Y i else 0 : Nat)) : Int) := by
      apply List.ext_getElem?
      intro i
      by_cases hi : i < m
      · rw [(hY i hi).1]; simp [hi]
      · rw [List.getElem?_eq_none (by omega), List.getElem?_eq_none (by simp; omega)]
    rw [← this]; exact hv
end Go.Ab
end

section
namespace Go.Proofs.Ythoogegclpiefaa.Code
open Go Go.Ab
variable {pure : Bool} {base bar : Nat} {H : Heap} {Q : AV → Heap → Prop}

/-! who quarrels, as 64 cells -/
def gcells (f : Nat → Nat → Bool) : List AV := (List.range 64).map fun i => .bool (f (i / 8) (i % 8))
def upd2 (f : Nat → Nat → Bool) (a b : Nat) (x : Bool) : Nat → Nat → Bool := fun i j => if i = a ∧ j = b then x else f i j
theorem gcells_length {f : Nat → Nat → Bool} : (gcells f).length = 64 := by simp [gcells]
theorem gcells_get {f : Nat → Nat → Bool} {a b : Nat} (ha : a < 8) (hb : b < 8) : (gcells f)[a * 8 + b]? = some (.bool (f a b)) := by
  have h1 : a * 8 + b < 64 := by omega
  have h2 : (a * 8 + b) / 8 = a := by omega
  have h3 : (a * 8 + b) % 8 = b := by omega
  simp only [gcells, List.getElem?_map, List.getElem?_range h1, Option.map_some, h2, h3]
theorem gcells_set {f : Nat → Nat → Bool} {a b : Nat} {x : Bool} (ha : a < 8) (hb : b < 8) : setCells (gcells f) (a * 8 + b) [.bool x] = gcells (upd2 f a b x) := by
  simp only [setCells]
  apply List.ext_getElem?
  intro j
  rw [List.getElem?_set]
  by_cases hj : a * 8 + b = j
  · subst hj
    rw [if_pos rfl, if_pos (by rw [gcells_length]; omega), gcells_get ha hb]
    simp [upd2]
  · rw [if_neg hj]
    by_cases h8 : j < 64
    · simp only [gcells, List.getElem?_map, List.getElem?_range h8, Option.map_some, upd2]
      rw [if_neg (by omega)]
    · simp [gcells, h8]
theorem gcells_plain {f : Nat → Nat → Bool} : ∀ c ∈ gcells f, Plain c := fun c hc => by
  simp only [gcells, List.mem_map] at hc
  obtain ⟨a, _, rfl⟩ := hc
  exact Plain.bool
@[go_sem] theorem gcells_tops {f : Nat → Nat → Bool} : AV.top.tops (gcells f) = 0 := tops_zero fun x hx => by
  simp only [gcells, List.mem_map] at hx
  obtain ⟨a, _, rfl⟩ := hx; rfl
@[go_sem] theorem gcells_noVec {f : Nat → Nat → Bool} : AV.noVec.noVecs (gcells f) = true := by
  unfold gcells
  generalize List.range 64 = l
  induction l with
  | nil => rfl
  | cons x r ih => simpa [AV.noVec.noVecs, AV.noVec] using ih
theorem frz_g {f : Nat → Nat → Bool} {d : Nat} : frz (d + 3) bar H (.agg (gcells f)) = some (.agg (gcells f), H) := by
  rw [frz_agg, plains gcells_plain]
theorem loadG {id ver fz a b s : Nat} {ex : Bool} {f : Nat → Nat → Bool} (hid : H[id]? = some (.row ver (gcells f) fz ex)) (ha : a < 8) (hb : b < 8) :
    aload H ⟨false, s⟩ (.ptr id ver (a * 8 + b)) = some (.bool (f a b)) := by
  rw [aload_ptr hid, part_one, gcells_get ha hb]
theorem loadGG {id ver fz : Nat} {ex : Bool} {f : Nat → Nat → Bool} (hid : H[id]? = some (.row ver (gcells f) fz ex)) :
    aload H ⟨true, 64⟩ (.ptr id ver 0) = some (.agg (gcells f)) := by
  rw [aload_ptr hid, part_agg, if_pos (by rw [gcells_length]; omega), List.drop_zero, List.take_of_length_le (by rw [gcells_length]; omega)]
theorem storeG {K : AV → Heap → List Nat → Prop} {id ver a b : Nat} {ex x : Bool} {f : Nat → Nat → Bool} (hid : H[id]? = some (.row ver (gcells f) 0 ex)) (ha : a < 8) (hb : b < 8) (hbar : bar ≤ id) :
    storeWp base bar 1 (.ptr id ver (a * 8 + b)) (.bool x) H K = K (.tup []) (H.set id (.row ver (gcells (upd2 f a b x)) 0 ex)) [id] := by
  rw [storeWp_ptr (size := 1) hid rfl rfl (by omega) (by rw [gcells_length]; omega) hbar (.inr (by simp [AV.cells, tops_cons, tops_nil, top_bool]))]
  simp only [AV.cells, gcells_set ha hb]
theorem gcells_over {f g : Nat → Nat → Bool} : setCells (gcells f) 0 (gcells g) = gcells g := by
  have : ∀ (news l r : List AV), news.length = r.length → setCells (l ++ r) l.length news = l ++ news := by
    intro news
    induction news with
    | nil => intro l r h; obtain rfl : r = [] := List.length_eq_zero_iff.1 h.symm; simp [setCells]
    | cons x n ih =>
      intro l r h
      cases r with
      | nil => simp at h
      | cons y r =>
        have := ih (l ++ [x]) r (by simpa using h)
        simp only [setCells]
        rw [show (l ++ y :: r).set l.length x = l ++ x :: r by simp [List.set_append]]
        simpa using this
  exact this (gcells g) [] (gcells f) (by rw [gcells_length, gcells_length])
theorem storeGG {K : AV → Heap → List Nat → Prop} {id ver : Nat} {ex : Bool} {f g : Nat → Nat → Bool} (hid : H[id]? = some (.row ver (gcells f) 0 ex)) (hbar : bar ≤ id) :
    storeWp base bar 64 (.ptr id ver 0) (.agg (gcells g)) H K = K (.tup []) (H.set id (.row ver (gcells g) 0 ex)) [id] := by
  rw [storeWp_ptr (size := 64) hid rfl (by simp [AV.cells, gcells_length]) (by omega) (by rw [gcells_length]; omega) hbar (.inr (by simp [AV.cells, gcells_tops]))]
  simp only [AV.cells, gcells_over]

/-! 41: the people of a set -/
theorem shr_i64 {a b : Nat} (ha : a < 256) : abin .shr (.int .i64 (a : Int)) (.int .i64 (b : Int)) = some (.int .i64 ((shr a b : Nat) : Int)) := by
  simp only [abin]
  rw [if_neg (by omega)]
  simp only [Int.toNat_natCast, show IntKind.i64.bits = 64 from rfl]
  congr 2
  rw [show (2 : Int) ^ (min b 64) = ((2 ^ (min b 64) : Nat) : Int) by simp, Int.fdiv_eq_ediv_of_nonneg _ (Int.natCast_nonneg _)]
  rw [← Int.natCast_ediv]
  congr 1
  unfold shr
  by_cases hb : b < 8
  · rw [Nat.min_eq_left (by omega), Nat.min_eq_left (by omega)]
  · rw [Nat.min_eq_right (show 8 ≤ b by omega), Nat.div_eq_of_lt (show a < 2 ^ 8 by omega), Nat.div_eq_of_lt]
    exact Nat.lt_of_lt_of_le (show a < 2 ^ 8 by omega) (Nat.pow_le_pow_right (by decide) (by omega))
theorem and_i64_one {a : Nat} (ha : a < 256) : abin .and (.int .i64 a) (.int .i64 1) = some (.int .i64 ((band a 1 : Nat) : Int)) := by
  have e : (BitVec.ofInt 64 (a : Int) &&& BitVec.ofInt 64 ((1 : Nat) : Int)).toNat = band a 1 := by
    rw [BitVec.toNat_and, ofInt_toNat (w := 64) (by omega), ofInt_toNat (w := 64) (by omega)]; rfl
  simp only [abin, binInt, if_true]
  rw [show IntKind.i64.bits = 64 from rfl]
  have e' : (BitVec.ofInt 64 (a : Int) &&& BitVec.ofInt 64 (1 : Int)).toNat = band a 1 := e
  rw [e', i64_nat (by have := band_lt (a := a) (b := 1) ha; omega)]

theorem l41 {s : Nat} (hs : s < 256) (H0 : Heap) (hb : bar ≤ H0.length) (hbase : base ≤ H0.length) {R : PQ} : ∀ (k x : Nat), x + k = 8 → ∀ (v : AV) (H : Heap), Grow 1 (nats ((List.range x).filter (s.testBit ·))) H0 v H →
    (∀ v' H', Grow 1 (nats (bitsOf s)) H0 v' H' → R (.exit 0) [(0, .int .i64 (s : Nat)), (3, v'), (5, .int .i64 8), (6, .bool false)] H') →
    Wp E base bar (.loop c41_l0) [(0, .int .i64 (s : Nat)), (3, v), (5, .int .i64 (x : Nat))] H R := by
  intro k
  induction k with
  | zero =>
    intro x hx v H g h
    obtain rfl : x = 8 := by omega
    rw [wp_round c41_l0.eq_1]
    simp [go_sem]
    exact h v H g
  | succ k ih =>
    intro x hx v H g h
    have hx8 : x < 8 := by omega
    have hl : ((List.range x).filter (s.testBit ·)).length ≤ 8 := Nat.le_trans (List.length_filter_le _ _) (by simp; omega)
    have hst : (List.range (x + 1)).filter (s.testBit ·) = (List.range x).filter (s.testBit ·) ++ if s.testBit x = true then [x] else [] := by
      rw [List.range_succ, List.filter_append]
      cases hc : s.testBit x <;> simp [hc]
    rw [wp_round c41_l0.eq_1]
    simp [go_sem, natLt, hx8, shr_i64 hs, and_i64_one (shr_lt hs), shr_bit s hs]
    cases hc : s.testBit x
    · rw [hc] at hst
      simp [go_sem, i64_suc (show x < 1000000 by omega)]
      refine ih (x + 1) (by omega) v H ?_ h
      rw [hst]; simpa using g
    · rw [hc] at hst
      simp [go_sem, aop, fillA, setCells, chunks, AV.noVec.noVecs, AV.noVec]
      refine g.nat hb hbase (by omega) fun v' H' tc g' => ?_
      simp [go_sem, i64_suc (show x < 1000000 by omega)]
      refine ih (x + 1) (by omega) v' H' ?_ h
      rw [hst]; simpa using g'
theorem k41 {s : Nat} (hs : s < 256) (hb : bar ≤ H.length) (h : Q (outL 1 (nats (bitsOf s))) H) : WpCall E pure base bar 41 [.int .i64 s] H Q := by
  rw [call41]
  have hb := bar_ok (pure := pure) hb
  simp [go_sem, WpFun, c41] at hb ⊢
  refine l41 hs H hb (Nat.le_refl _) 8 0 rfl _ _ .nil fun v' H' g => ?_
  simp [go_sem]
  refine g.out hb (Nat.le_refl _) ?_
  simpa using h

/-! 39: with how many one quarrels -/
def oftG (f : Nat → Nat → Bool) (n x : Nat) : Nat := ((List.range n).filter (f x)).length
theorem l39 {id ver n x : Nat} {ex : Bool} {fz : Nat} {f : Nat → Nat → Bool} (hid : H[id]? = some (.row ver (gcells f) fz ex)) (hn : n ≤ 8) (hx : x < 8) {R : PQ} : ∀ (k y : Nat), y + k = n →
    R (.exit 0) [(2, .int .i64 (x : Nat)), (3, .ptr id ver 0), (7, .int .i64 (oftG f n x : Nat)), (9, .int .i64 (n : Nat)), (10, .int .i64 (n : Nat)), (11, .bool false)] H →
    Wp E base bar (.loop c39_l0) [(2, .int .i64 (x : Nat)), (3, .ptr id ver 0), (7, .int .i64 (oftG f y x : Nat)), (9, .int .i64 (n : Nat)), (10, .int .i64 (y : Nat))] H R := by
  intro k
  induction k with
  | zero =>
    intro y hy h
    obtain rfl : y = n := by omega
    rw [wp_round c39_l0.eq_1]
    simp [go_sem]
    exact h
  | succ k ih =>
    intro y hy h
    have hlt : y < n := by omega
    have hst : oftG f (y + 1) x = oftG f y x + if f x y = true then 1 else 0 := by
      unfold oftG
      rw [List.range_succ, List.filter_append, List.length_append]
      cases hc : f x y <;> simp [hc]
    have hle : oftG f y x ≤ 8 := Nat.le_trans (List.length_filter_le _ _) (by simp; omega)
    have := ih (y + 1) (by omega) h
    rw [hst] at this
    rw [wp_round c39_l0.eq_1]
    simp [go_sem, hlt, hx, show y < 8 by omega, loadG hid hx (show y < 8 by omega)]
    cases hc : f x y
    · simp [hc] at this
      simp [go_sem, i64_suc (show y < 1000000 by omega)]
      exact this
    · simp [hc] at this
      simp [go_sem, i64_suc (show y < 1000000 by omega), i64_suc (show oftG f y x < 1000000 by omega)]
      exact this
theorem k39 {n x : Nat} {f : Nat → Nat → Bool} (hn : n ≤ 8) (hx : x < 8) (h : Q (.int .i64 (oftG f n x : Nat)) H) : WpCall E pure base bar 39 [.agg (gcells f), .int .i64 n, .int .i64 x] H Q := by
  rw [call39]
  simp [go_sem, WpFun, c39, frz_g]
  refine l39 (n := n) (f := f) (fz := 0) (ex := true) (by simp [own_get0]) hn hx n 0 (by omega) ?_
  simp [go_sem]
  exact h
end Go.Proofs.Ythoogegclpiefaa.Code
end

section
namespace Go.Proofs.Ythoogegclpiefaa.Code
open Go Go.Ab
variable {pure : Bool} {base bar : Nat} {H : Heap} {Q : AV → Heap → Prop}

theorem isL_cut {q : AV} {l : List Nat} (hq : isL q l) {i : Nat} (hi : i < l.length) : ∃ q', aslice H (.slc 1) q none (some (.int .i64 (i : Int))) none = some q' ∧ isL q' (l.take i) := by
  rcases hq with ⟨rfl, rfl⟩ | ⟨ex, rfl⟩
  · simp at hi
  · refine ⟨.lst 1 (ex && i == l.length) (nats (l.take i)), ?_, .inr ⟨_, rfl⟩⟩
    have hl : (nats l).length = l.length := nats_length
    simp [aslice, optBound, bound1, AV.asNat, hl, Nat.le_of_lt hi]
    simp [nats, List.map_take]

/-! 42: each two quarrel -/
def okG (f : Nat → Nat → Bool) : List Nat → List Nat → Bool
  | _, [] => true
  | b, x :: r => b.all (f x) && okG f (b ++ [x]) r

theorem l42a {id ver : Nat} {ex : Bool} {fz : Nat} {f : Nat → Nat → Bool} (hid : H[id]? = some (.row ver (gcells f) fz ex)) {v u : AV} {b : List Nat} (hu : isL u b) (hb : b.length < 1000) (h8 : ∀ y ∈ b, y < 8) {x m i : Nat} (hx : x < 8) {R : PQ} :
    ∀ (k j : Nat), j + k = b.length →
    ((b.drop j).all (f x) = false → R .ret [(4, .bool false)] H) →
    ((b.drop j).all (f x) = true → R (.exit 2) [(1, v), (2, .ptr id ver 0), (9, v), (10, .int .i64 (m : Nat)), (11, .int .i64 (i : Nat)), (6, .int .i64 (x : Nat)), (18, u), (19, .int .i64 (b.length : Nat)), (20, .int .i64 (b.length : Nat)), (21, .bool false)] H) →
    Wp E base bar (.loop c42_l0) [(1, v), (2, .ptr id ver 0), (9, v), (10, .int .i64 (m : Nat)), (11, .int .i64 (i : Nat)), (6, .int .i64 (x : Nat)), (18, u), (19, .int .i64 (b.length : Nat)), (20, .int .i64 (j : Nat))] H R := by
  intro k
  induction k with
  | zero =>
    intro j hj h1 h2
    obtain rfl : j = b.length := by omega
    rw [wp_round c42_l0.eq_1]
    simp [go_sem]
    exact h2 (by simp)
  | succ k ih =>
    intro j hj h1 h2
    have hlt : j < b.length := by omega
    have hy : b[j] < 8 := h8 _ (List.getElem_mem hlt)
    rw [List.drop_eq_getElem_cons hlt, List.all_cons] at h1 h2
    rw [wp_round c42_l0.eq_1]
    simp [go_sem, hlt, hu.ix hlt, hx, hy, loadG hid hx hy]
    cases hc : f x b[j]
    · simp [go_sem]
      exact h1 (by simp [hc])
    · simp only [hc, Bool.true_and] at h1 h2
      simp [go_sem, i64_suc (show j < 1000000 by omega)]
      exact ih (j + 1) (by omega) h1 h2

theorem l42 {id ver : Nat} {ex : Bool} {fz : Nat} {f : Nat → Nat → Bool} (hid : H[id]? = some (.row ver (gcells f) fz ex)) {v : AV} {l : List Nat} (hv : isL v l) (hl : l.length < 1000) (h8 : ∀ y ∈ l, y < 8) {R : PQ} :
    ∀ (k i : Nat), i + k = l.length →
    (okG f (l.take i) (l.drop i) = false → R .ret [(4, .bool false)] H) →
    (okG f (l.take i) (l.drop i) = true → R (.exit 0) [(1, v), (2, .ptr id ver 0), (9, v), (10, .int .i64 (l.length : Nat)), (11, .int .i64 (l.length : Nat)), (12, .bool false)] H) →
    Wp E base bar (.loop c42_l1) [(1, v), (2, .ptr id ver 0), (9, v), (10, .int .i64 (l.length : Nat)), (11, .int .i64 (i : Nat))] H R := by
  intro k
  induction k with
  | zero =>
    intro i hi h1 h2
    obtain rfl : i = l.length := by omega
    rw [wp_round c42_l1.eq_1]
    simp [go_sem]
    exact h2 (by simp [okG])
  | succ k ih =>
    intro i hi h1 h2
    have hlt : i < l.length := by omega
    have hx : l[i] < 8 := h8 _ (List.getElem_mem hlt)
    obtain ⟨u, hu1, hu2⟩ := isL_cut (H := H) hv hlt
    have hst : okG f (l.take i) (l.drop i) = ((l.take i).all (f l[i]) && okG f (l.take (i + 1)) (l.drop (i + 1))) := by
      rw [List.drop_eq_getElem_cons hlt, okG, List.take_succ_eq_append_getElem hlt]
    rw [wp_round c42_l1.eq_1]
    simp [go_sem, hlt, hv.ix hlt, aop, Opd.evo, hu1, hu2.len]
    rw [show ((min i l.length : Nat) : Int) = ((l.take i).length : Nat) by simp]
    refine l42a hid hu2 (by simp; omega) (fun y hy => h8 y (List.mem_of_mem_take hy)) hx (l.take i).length 0 (by omega) (fun hc => ?_) (fun hc => ?_)
    · rw [List.drop_zero] at hc
      rw [hst, hc] at h1
      simp [go_sem]
      exact h1 rfl
    · rw [List.drop_zero] at hc
      rw [hst, hc, Bool.true_and] at h1 h2
      simp [go_sem, i64_suc (show i < 1000000 by omega)]
      exact ih (i + 1) (by omega) h1 h2
theorem k42 {f : Nat → Nat → Bool} {v : AV} {l : List Nat} (hv : isL v l) (hl : l.length < 1000) (h8 : ∀ y ∈ l, y < 8) (h : Q (.bool (okG f [] l)) H) : WpCall E pure base bar 42 [.agg (gcells f), v] H Q := by
  rw [call42]
  simp [go_sem, WpFun, c42, frz_g, hv.frz, hv.len]
  refine l42 (f := f) (fz := 0) (ex := true) (by simp [own_get0]) hv hl h8 l.length 0 (by omega) (fun hc => ?_) (fun hc => ?_)
  · simp only [List.take_zero, List.drop_zero] at hc
    rw [hc] at h
    simp [go_sem]
    exact h
  · simp only [List.take_zero, List.drop_zero] at hc
    rw [hc] at h
    simp [go_sem]
    exact h

/-! a workroom as a field -/
def wf (w : Nat → Nat) : Nat → Nat → Bool := fun a b => (w a).testBit b
theorem okG_iff {f : Nat → Nat → Bool} : ∀ (s b : List Nat), okG f b s = true ↔ (∀ x ∈ s, ∀ y ∈ b, f x y = true) ∧ s.Pairwise fun (x y : Nat) => f y x = true
  | [], b => by simp [okG]
  | x :: r, b => by
    rw [okG, Bool.and_eq_true, List.all_eq_true, okG_iff r, List.pairwise_cons]
    constructor
    · rintro ⟨h1, h2, h3⟩
      refine ⟨fun z hz y hy => ?_, fun y hy => h2 y hy x (by simp), h3⟩
      rcases List.mem_cons.1 hz with rfl | hz
      · exact h1 y hy
      · exact h2 z hz y (List.mem_append_left _ hy)
    · rintro ⟨h1, h2, h3⟩
      refine ⟨fun y hy => h1 x (List.mem_cons_self ..) y hy, fun z hz y hy => ?_, h3⟩
      rcases List.mem_append.1 hy with hy | hy
      · exact h1 z (List.mem_cons_of_mem _ hz) y hy
      · simp only [List.mem_singleton] at hy
        subst hy
        exact h2 z hz
theorem pairwise_of {α : Type} {P : α → α → Prop} {l : List α} (hl : l.Nodup) (h : ∀ x ∈ l, ∀ y ∈ l, x ≠ y → P x y) : l.Pairwise P := by
  induction l with
  | nil => exact .nil
  | cons a r ih =>
    rw [List.nodup_cons] at hl
    refine .cons (fun y hy => h a (List.mem_cons_self ..) y (List.mem_cons_of_mem _ hy) fun hc => hl.1 (hc ▸ hy)) (ih hl.2 fun x hx y hy => h x (List.mem_cons_of_mem _ hx) y (List.mem_cons_of_mem _ hy))
theorem pairwise_all {α : Type} {P : α → α → Prop} (hs : ∀ x y, P x y → P y x) {l : List α} (h : l.Pairwise P) : ∀ x ∈ l, ∀ y ∈ l, x ≠ y → P x y := by
  induction h with
  | nil => intro x hx; simp at hx
  | @cons a r h1 _ ih =>
    intro x hx y hy hxy
    rcases List.mem_cons.1 hx with e1 | hx'
    · subst e1
      rcases List.mem_cons.1 hy with e2 | hy'
      · exact absurd e2.symm hxy
      · exact h1 y hy'
    · rcases List.mem_cons.1 hy with e2 | hy'
      · subst e2
        exact hs _ _ (h1 x hx')
      · exact ih x hx' y hy' hxy
theorem brawl_okG {n : Nat} {w : Nat → Nat} (h : RoomW n w) {s : Nat} (hs : s < 256) : okG (wf w) [] (bitsOf s) = brawlS w s := by
  rw [Bool.eq_iff_iff, okG_iff, brawl_iff h hs]
  have hnd : (bitsOf s).Nodup := (bits_pairwise s).imp fun h => Nat.ne_of_lt h
  have h8 : ∀ i, s.testBit i = true → i < 8 := fun i hi => by
    apply Decidable.byContradiction
    intro hc
    rw [Nat.testBit_lt_two_pow (Nat.lt_of_lt_of_le hs (Nat.pow_le_pow_right (by decide) (Nat.not_lt.1 hc) : 2 ^ 8 ≤ 2 ^ i))] at hi
    cases hi
  constructor
  · rintro ⟨_, h2⟩ x y hx hy hxy
    exact pairwise_all (P := fun x y => wf w y x = true) (fun x y hp => by unfold wf at hp ⊢; rw [h.sym]; exact hp) h2 y (bits_mem.2 ⟨h8 y hy, hy⟩) x (bits_mem.2 ⟨h8 x hx, hx⟩) (Ne.symm hxy)
  · intro h2
    refine ⟨fun _ _ y hy => by simp at hy, pairwise_of hnd fun x hx y hy hxy => ?_⟩
    exact h2 y x (bits_mem.1 hy).2 (bits_mem.1 hx).2 (Ne.symm hxy)
end Go.Proofs.Ythoogegclpiefaa.Code
end

section
namespace Go.Proofs.Ythoogegclpiefaa.Code
open Go Go.Ab
variable {pure : Bool} {base bar : Nat} {H : Heap} {Q : AV → Heap → Prop}

/-! 38: the first largest brawl -/
theorem l38 {id ver n : Nat} {ex : Bool} {w : Nat → Nat} {fz : Nat} (hid : H[id]? = some (.row ver (gcells (wf w)) fz ex)) (hw : RoomW n w) (hn : n ≤ 8) (hb : bar ≤ H.length) {R : PQ} :
    ∀ (k s : Nat) (best : List Nat) (bv : AV), s + k = pw n → isL bv best → best.length ≤ 8 →
    (∀ bv', isL bv' ((List.range' s k).foldl (bestStep w) best) → R (.exit 0) [(1, .int .i64 (n : Nat)), (2, .ptr id ver 0), (5, bv'), (6, .int .i64 (pw n : Nat)), (11, .bool false)] H) →
    Wp E base bar (.loop c38_l0) [(1, .int .i64 (n : Nat)), (2, .ptr id ver 0), (5, bv), (6, .int .i64 (s : Nat))] H R := by
  intro k
  induction k with
  | zero =>
    intro s best bv hs hv hl h
    obtain rfl : s = pw n := by omega
    rw [wp_round c38_l0.eq_1]
    simp [go_sem, shl_i64 (show n < 62 by omega)]
    exact h bv hv
  | succ k ih =>
    intro s best bv hs hv hl h
    have := pw_le hn
    have h8 : s < 256 := by omega
    have hlt : s < pw n := by omega
    have hbl := bits_len s
    rw [wp_round c38_l0.eq_1]
    simp [go_sem, shl_i64 (show n < 62 by omega), hlt]
    refine k41 h8 hb ?_
    have hov : isL (outL 1 (nats (bitsOf s))) (bitsOf s) := isL.out
    generalize outL 1 (nats (bitsOf s)) = ov at hov
    simp only [List.range'_succ, List.foldl_cons] at h
    have hst : bestStep w best s = if best.length ≤ (bitsOf s).length ∧ brawlS w s = true ∧ (best.length < (bitsOf s).length ∨ cmpL (bitsOf s) best < 0) then bitsOf s else best := rfl
    simp [go_sem, loadGG hid]
    refine k42 hov (by omega) (fun y hy => bits_lt hy) ?_
    rw [brawl_okG hw h8]
    cases h2 : brawlS w s
    · simp [go_sem, i64_suc (show s < 1000000 by omega)]
      rw [hst, if_neg (by simp [h2])] at h
      exact ih (s + 1) best bv (by omega) hv hl h
    · simp [go_sem, hov.len, hv.len]
      by_cases h3 : best.length < (bitsOf s).length
      · simp [go_sem, h3, show ¬ (bitsOf s).length ≤ best.length by omega, i64_suc (show s < 1000000 by omega)]
        rw [hst, if_pos ⟨by omega, h2, .inl h3⟩] at h
        exact ih (s + 1) _ _ (by omega) hov hbl h
      · by_cases h1 : (bitsOf s).length = best.length
        · simp [go_sem, h3, natEq, h1, hov.len, hv.len]
          refine k82 hov hv (by omega) (by omega) ?_
          simp [go_sem]
          by_cases h4 : cmpL (bitsOf s) best < 0
          · simp [go_sem, h4, i64_suc (show s < 1000000 by omega)]
            rw [hst, if_pos ⟨by omega, h2, .inr h4⟩] at h
            exact ih (s + 1) _ _ (by omega) hov hbl h
          · simp [go_sem, h4, i64_suc (show s < 1000000 by omega)]
            rw [hst, if_neg (by intro hc; rcases hc.2.2 with h | h <;> contradiction)] at h
            exact ih (s + 1) best bv (by omega) hv hl h
        · simp [go_sem, h3, natEq, h1, hov.len, hv.len, show (bitsOf s).length ≤ best.length by omega, i64_suc (show s < 1000000 by omega)]
          rw [hst, if_neg (by omega)] at h
          exact ih (s + 1) best bv (by omega) hv hl h

theorem k38 {n : Nat} {w : Nat → Nat} (hw : RoomW n w) (hn : n ≤ 8) (hb : bar ≤ H.length) (h : ∀ v, isL v (largestS n w) → Q v H) :
    WpCall E pure base bar 38 [.agg (gcells (wf w)), .int .i64 n] H Q := by
  rw [call38]
  have hb' := bar_ok (pure := pure) hb
  simp [go_sem, WpFun, c38, frz_g] at hb' ⊢
  generalize (if pure = true then H.length else bar) = bar' at hb' ⊢
  have h1 : 1 ≤ pw n := Nat.one_le_two_pow
  refine l38 (w := w) (fz := 0) (ex := true) (by simp [own_get0]) hw hn (by simp; omega) (pw n - 1) 1 [] .nils (by omega) .nil (by simp) fun v hv => ?_
  simp [go_sem]
  refine leaveL hv ?_
  simpa using h v hv

/-! 40: is it parted -/
def testG (f : Nat → Nat → Bool) (a b c : Nat) : Bool := decide (a ≠ b) && (decide (b ≠ c) && (!f a b && (!f b c && f a c)))
def partG (f : Nat → Nat → Bool) (n : Nat) : Bool := (List.range n).all fun a => (List.range n).all fun b => (List.range n).all fun c => !testG f a b c
theorem l40c {id ver n a b : Nat} {ex : Bool} {fz : Nat} {f : Nat → Nat → Bool} (hid : H[id]? = some (.row ver (gcells f) fz ex)) (hn : n ≤ 8) (ha : a < n) (hb : b < n) {R : PQ} : ∀ (k c : Nat), c + k = n →
    (((List.range' c k).all fun c => !testG f a b c) = false → R .ret [(4, .bool false)] H) →
    (((List.range' c k).all fun c => !testG f a b c) = true → R (.exit 4) [(1, .int .i64 (n : Nat)), (2, .ptr id ver 0), (8, .int .i64 (n : Nat)), (9, .int .i64 (a : Nat)), (5, .int .i64 (a : Nat)), (12, .int .i64 (n : Nat)), (13, .int .i64 (b : Nat)), (6, .int .i64 (b : Nat)), (16, .int .i64 (n : Nat)), (17, .int .i64 (n : Nat)), (18, .bool false)] H) →
    Wp E base bar (.loop c40_l0) [(1, .int .i64 (n : Nat)), (2, .ptr id ver 0), (8, .int .i64 (n : Nat)), (9, .int .i64 (a : Nat)), (5, .int .i64 (a : Nat)), (12, .int .i64 (n : Nat)), (13, .int .i64 (b : Nat)), (6, .int .i64 (b : Nat)), (16, .int .i64 (n : Nat)), (17, .int .i64 (c : Nat))] H R := by
  intro k
  induction k with
  | zero =>
    intro c hc h1 h2
    obtain rfl : c = n := by omega
    rw [wp_round c40_l0.eq_1]
    simp [go_sem]
    exact h2 (by simp)
  | succ k ih =>
    intro c hc h1 h2
    have hlt : c < n := by omega
    simp only [List.range'_succ, List.all_cons] at h1 h2
    have ht : testG f a b c = (decide (a ≠ b) && (decide (b ≠ c) && (!f a b && (!f b c && f a c)))) := rfl
    have g1 := loadG hid (show a < 8 by omega) (show b < 8 by omega) (s := 1)
    have g2 := loadG hid (show b < 8 by omega) (show c < 8 by omega) (s := 1)
    have g3 := loadG hid (show a < 8 by omega) (show c < 8 by omega) (s := 1)
    have next : testG f a b c = false → Wp E base bar (.loop c40_l0) [(1, .int .i64 (n : Nat)), (2, .ptr id ver 0), (8, .int .i64 (n : Nat)), (9, .int .i64 (a : Nat)), (5, .int .i64 (a : Nat)), (12, .int .i64 (n : Nat)), (13, .int .i64 (b : Nat)), (6, .int .i64 (b : Nat)), (16, .int .i64 (n : Nat)), (17, .int .i64 ((c + 1 : Nat) : Int))] H R := fun he => by
      simp only [he, Bool.not_false, Bool.true_and] at h1 h2
      exact ih (c + 1) (by omega) h1 h2
    rw [wp_round c40_l0.eq_1]
    by_cases hab : a = b
    · have := next (by rw [ht]; simp [hab])
      simp [go_sem, hlt, natEq, hab, i64_suc (show c < 1000000 by omega)]
      subst hab
      exact this
    · by_cases hbc : b = c
      · have := next (by rw [ht]; simp [hbc])
        simp [go_sem, hlt, natEq, hab, hbc, i64_suc (show c < 1000000 by omega)]
        subst hbc
        exact this
      · cases e1 : f a b
        · rw [e1] at g1
          cases e2 : f b c
          · rw [e2] at g2
            cases e3 : f a c
            · rw [e3] at g3
              have := next (by rw [ht]; simp [e3])
              simp [go_sem, hlt, natEq, hab, hbc, i64_suc (show c < 1000000 by omega), show a < 8 by omega, show b < 8 by omega, show c < 8 by omega, g1, g2, g3]
              exact this
            · rw [e3] at g3
              simp [go_sem, hlt, natEq, hab, hbc, show a < 8 by omega, show b < 8 by omega, show c < 8 by omega, g1, g2, g3]
              exact h1 (by rw [ht]; simp [e1, e2, e3, hab, hbc])
          · rw [e2] at g2
            have := next (by rw [ht]; simp [e2])
            simp [go_sem, hlt, natEq, hab, hbc, i64_suc (show c < 1000000 by omega), show a < 8 by omega, show b < 8 by omega, show c < 8 by omega, g1, g2]
            exact this
        · rw [e1] at g1
          have := next (by rw [ht]; simp [e1])
          simp [go_sem, hlt, natEq, hab, hbc, i64_suc (show c < 1000000 by omega), show a < 8 by omega, show b < 8 by omega, g1]
          exact this
theorem l40b {id ver n a : Nat} {ex : Bool} {fz : Nat} {f : Nat → Nat → Bool} (hid : H[id]? = some (.row ver (gcells f) fz ex)) (hn : n ≤ 8) (ha : a < n) {R : PQ} : ∀ (k b : Nat), b + k = n →
    (((List.range' b k).all fun b => (List.range n).all fun c => !testG f a b c) = false → R .ret [(4, .bool false)] H) →
    (((List.range' b k).all fun b => (List.range n).all fun c => !testG f a b c) = true → R (.exit 2) [(1, .int .i64 (n : Nat)), (2, .ptr id ver 0), (8, .int .i64 (n : Nat)), (9, .int .i64 (a : Nat)), (5, .int .i64 (a : Nat)), (12, .int .i64 (n : Nat)), (13, .int .i64 (n : Nat)), (14, .bool false)] H) →
    Wp E base bar (.loop c40_l1) [(1, .int .i64 (n : Nat)), (2, .ptr id ver 0), (8, .int .i64 (n : Nat)), (9, .int .i64 (a : Nat)), (5, .int .i64 (a : Nat)), (12, .int .i64 (n : Nat)), (13, .int .i64 (b : Nat))] H R := by
  intro k
  induction k with
  | zero =>
    intro b hb h1 h2
    obtain rfl : b = n := by omega
    rw [wp_round c40_l1.eq_1]
    simp [go_sem]
    exact h2 (by simp)
  | succ k ih =>
    intro b hb h1 h2
    have hlt : b < n := by omega
    simp only [List.range'_succ, List.all_cons] at h1 h2
    rw [wp_round c40_l1.eq_1]
    simp [go_sem, hlt]
    refine l40c hid hn ha hlt n 0 (by omega) (fun he => ?_) (fun he => ?_)
    · rw [← List.range_eq_range'] at he
      simp [go_sem]
      exact h1 (by simp [he])
    · rw [← List.range_eq_range'] at he
      simp only [he, Bool.true_and] at h1 h2
      simp [go_sem, i64_suc (show b < 1000000 by omega)]
      exact ih (b + 1) (by omega) h1 h2
theorem l40a {id ver n : Nat} {ex : Bool} {fz : Nat} {f : Nat → Nat → Bool} (hid : H[id]? = some (.row ver (gcells f) fz ex)) (hn : n ≤ 8) {R : PQ} : ∀ (k a : Nat), a + k = n →
    (((List.range' a k).all fun a => (List.range n).all fun b => (List.range n).all fun c => !testG f a b c) = false → R .ret [(4, .bool false)] H) →
    (((List.range' a k).all fun a => (List.range n).all fun b => (List.range n).all fun c => !testG f a b c) = true → R (.exit 0) [(1, .int .i64 (n : Nat)), (2, .ptr id ver 0), (8, .int .i64 (n : Nat)), (9, .int .i64 (n : Nat)), (10, .bool false)] H) →
    Wp E base bar (.loop c40_l2) [(1, .int .i64 (n : Nat)), (2, .ptr id ver 0), (8, .int .i64 (n : Nat)), (9, .int .i64 (a : Nat))] H R := by
  intro k
  induction k with
  | zero =>
    intro a ha h1 h2
    obtain rfl : a = n := by omega
    rw [wp_round c40_l2.eq_1]
    simp [go_sem]
    exact h2 (by simp)
  | succ k ih =>
    intro a ha h1 h2
    have hlt : a < n := by omega
    simp only [List.range'_succ, List.all_cons] at h1 h2
    rw [wp_round c40_l2.eq_1]
    simp [go_sem, hlt]
    refine l40b hid hn hlt n 0 (by omega) (fun he => ?_) (fun he => ?_)
    · rw [← List.range_eq_range'] at he
      simp [go_sem]
      exact h1 (by simp [he])
    · rw [← List.range_eq_range'] at he
      simp only [he, Bool.true_and] at h1 h2
      simp [go_sem, i64_suc (show a < 1000000 by omega)]
      exact ih (a + 1) (by omega) h1 h2
theorem k40 {n : Nat} {f : Nat → Nat → Bool} (hn : n ≤ 8) (h : Q (.bool (partG f n)) H) : WpCall E pure base bar 40 [.agg (gcells f), .int .i64 n] H Q := by
  rw [call40]
  simp [go_sem, WpFun, c40, frz_g]
  refine l40a (f := f) (fz := 0) (ex := true) (by simp [own_get0]) hn n 0 (by omega) (fun he => ?_) (fun he => ?_)
  · rw [← List.range_eq_range'] at he
    rw [show partG f n = false from he] at h
    simp [go_sem]
    exact h
  · rw [← List.range_eq_range'] at he
    rw [show partG f n = true from he] at h
    simp [go_sem]
    exact h
end Go.Proofs.Ythoogegclpiefaa.Code
end

section
namespace Go.Proofs.Ythoogegclpiefaa.Code
open Go Go.Ab
variable {pure : Bool} {base bar : Nat} {H : Heap} {Q : AV → Heap → Prop}

/-! 36: are quarrels just those of a field -/
def rowE (f : Nat → Nat → Bool) (a b k : Nat) : List ZZ := ((List.range' b k).filter (f a)).map fun (y : Nat) => ((a : Int), (y : Int))
def fromE (f : Nat → Nat → Bool) (n a k : Nat) : List ZZ := (List.range' a k).flatMap fun x => rowE f x (x + 1) (n - (x + 1))
theorem fromE_all {f : Nat → Nat → Bool} {n : Nat} : fromE f n 0 n = enumR n f := by
  unfold fromE enumR rowE
  rw [List.range_eq_range']

theorem l36a {id ver hid n a : Nat} {ex : Bool} {fz : Nat} {f : Nat → Nat → Bool} {q : AV} {l : List ZZ} (hg : H[id]? = some (.row ver (gcells f) fz ex)) (hh : H[hid]? = some (.row 0 [.int .i64 (n : Nat), q] 0 true))
    (hq : isP q l) (hl : l.length < 1000) (hn : n ≤ 8) (ha : a < n) {R : PQ} : ∀ (k b i : Nat), b + k = n → i ≤ l.length → a < b →
    ((∀ t, l.drop i ≠ rowE f a b k ++ t) → R .ret [(4, .bool false)] H) →
    (∀ i', i' ≤ l.length → l.drop i = rowE f a b k ++ l.drop i' → R (.exit 2) [(2, .ptr hid 0 0), (3, .ptr id ver 0), (5, .int .i64 (i' : Nat)), (9, .int .i64 (n : Nat)), (10, .int .i64 (a : Nat)), (6, .int .i64 (a : Nat)), (7, .int .i64 (n : Nat)), (18, .bool false)] H) →
    Wp E base bar (.loop c36_l0) [(2, .ptr hid 0 0), (3, .ptr id ver 0), (5, .int .i64 (i : Nat)), (9, .int .i64 (n : Nat)), (10, .int .i64 (a : Nat)), (6, .int .i64 (a : Nat)), (7, .int .i64 (b : Nat))] H R := by
  intro k
  induction k with
  | zero =>
    intro b i hb hi hab h1 h2
    obtain rfl : b = n := by omega
    rw [wp_round c36_l0.eq_1]
    simp [go_sem, aload, hh, Ab.part]
    exact h2 i hi (by simp [rowE])
  | succ k ih =>
    intro b i hb hi hab h1 h2
    have hlt : b < n := by omega
    have hst : rowE f a b (k + 1) = (if f a b = true then [((a : Int), (b : Int))] else []) ++ rowE f a (b + 1) k := by
      unfold rowE
      rw [List.range'_succ, List.filter_cons]
      split <;> simp
    rw [hst] at h1 h2
    have lq : aload H ⟨false, 1⟩ (.ptr hid 0 1) = some q := by simp [aload, hh, Ab.part]
    have ln : aload H ⟨false, 1⟩ (.ptr hid 0 0) = some (.int .i64 (n : Nat)) := by simp [aload, hh, Ab.part]
    rw [wp_round c36_l0.eq_1]
    simp [go_sem, ln, hlt, show a < 8 by omega, show b < 8 by omega, loadG hg (show a < 8 by omega) (show b < 8 by omega)]
    cases hc : f a b
    · simp only [hc, Bool.false_eq_true, if_false, List.nil_append] at h1 h2
      simp [go_sem, i64_suc (show b < 1000000 by omega)]
      exact ih (b + 1) i (by omega) hi (by omega) h1 h2
    · simp only [hc, if_true] at h1 h2
      by_cases hil : i < l.length
      · obtain ⟨⟨p1, p2⟩, hp⟩ : ∃ p, l[i] = p := ⟨_, rfl⟩
        rw [List.drop_eq_getElem_cons hil, hp] at h1 h2
        by_cases hpe : p1 = (a : Int) ∧ p2 = (b : Int)
        · obtain ⟨rfl, rfl⟩ := hpe
          simp [go_sem, lq, hq.len, show ¬ (l.length ≤ i) by omega, hq.ix hil, hp, zc, eqWp_flat2, fillA, setCells, i64_suc (show b < 1000000 by omega), i64_suc (show i < 1000000 by omega)]
          refine ih (b + 1) (i + 1) (by omega) (by omega) (by omega) (fun hne => h1 fun t ht => hne t ?_) (fun i' hi' he => h2 i' hi' ?_)
          · simpa using ht
          · simpa using he
        · have hc' : (p1 == (a : Int) && p2 == (b : Int)) = false := by simpa using fun h => by simpa using fun h2 => hpe ⟨h, h2⟩
          simp [go_sem, lq, hq.len, show ¬ (l.length ≤ i) by omega, hq.ix hil, hp, zc, eqWp_flat2, fillA, setCells, hc']
          refine h1 fun t ht => hpe ?_
          simp only [List.cons_append, List.nil_append, List.cons.injEq, Prod.mk.injEq] at ht
          exact ht.1
      · simp [go_sem, lq, hq.len, show l.length ≤ i by omega]
        refine h1 fun t ht => ?_
        rw [List.drop_eq_nil_of_le (by omega)] at ht
        simp at ht
theorem l36 {id ver hid n : Nat} {ex : Bool} {fz : Nat} {f : Nat → Nat → Bool} {q : AV} {l : List ZZ} (hg : H[id]? = some (.row ver (gcells f) fz ex)) (hh : H[hid]? = some (.row 0 [.int .i64 (n : Nat), q] 0 true))
    (hq : isP q l) (hl : l.length < 1000) (hn : n ≤ 8) {R : PQ} : ∀ (k a i : Nat), a + k = n → i ≤ l.length →
    ((∀ t, l.drop i ≠ fromE f n a k ++ t) → R .ret [(4, .bool false)] H) →
    (∀ i', i' ≤ l.length → l.drop i = fromE f n a k ++ l.drop i' → R (.exit 0) [(2, .ptr hid 0 0), (3, .ptr id ver 0), (5, .int .i64 (i' : Nat)), (9, .int .i64 (n : Nat)), (10, .int .i64 (n : Nat)), (11, .bool false)] H) →
    Wp E base bar (.loop c36_l1) [(2, .ptr hid 0 0), (3, .ptr id ver 0), (5, .int .i64 (i : Nat)), (9, .int .i64 (n : Nat)), (10, .int .i64 (a : Nat))] H R := by
  intro k
  induction k with
  | zero =>
    intro a i ha hi h1 h2
    obtain rfl : a = n := by omega
    rw [wp_round c36_l1.eq_1]
    simp [go_sem]
    exact h2 i hi (by simp [fromE])
  | succ k ih =>
    intro a i ha hi h1 h2
    have hlt : a < n := by omega
    have hst : fromE f n a (k + 1) = rowE f a (a + 1) (n - (a + 1)) ++ fromE f n (a + 1) k := by
      unfold fromE
      rw [List.range'_succ, List.flatMap_cons]
    rw [hst] at h1 h2
    rw [wp_round c36_l1.eq_1]
    simp [go_sem, hlt, i64_suc (show a < 1000000 by omega)]
    refine l36a hg hh hq hl hn hlt (n - (a + 1)) (a + 1) i (by omega) hi (by omega) (fun hne => ?_) (fun i' hi' he => ?_)
    · simp [go_sem]
      exact h1 fun t ht => hne (fromE f n (a + 1) k ++ t) (by rw [ht, List.append_assoc])
    · rw [he] at h1 h2
      simp [go_sem, i64_suc (show a < 1000000 by omega)]
      refine ih (a + 1) i' (by omega) hi' (fun hne => h1 fun t ht => ?_) (fun i2 hi2 he2 => h2 i2 hi2 ?_)
      · rw [List.append_assoc] at ht
        exact hne t (List.append_cancel_left ht)
      · rw [he2, List.append_assoc]
theorem k36 {n : Nat} {f : Nat → Nat → Bool} {q : AV} {l : List ZZ} (hq : isP q l) (hl : l.length < 1000) (hn : n ≤ 8) (h : Q (.bool (decide (l = enumR n f))) H) : WpCall E pure base bar 36 [.agg [.int .i64 (n : Nat), q], .agg (gcells f)] H Q := by
  rw [call36]
  simp [go_sem, WpFun, c36, frz_g, hq.frz, aload, own_get, own_get0, Ab.part]
  refine l36 (n := n) (f := f) (fz := 0) (ex := true) (by simp [own_get]) (by simp [own_get0]) hq hl hn n 0 0 (by omega) (by omega) (fun hne => ?_) (fun i' hi' he => ?_)
  · rw [List.drop_zero, fromE_all] at hne
    rw [decide_eq_false (fun hc => hne [] (by rw [List.append_nil]; exact hc))] at h
    simp [go_sem]
    exact h
  · rw [List.drop_zero, fromE_all] at he
    simp [go_sem, aload, own_get0, Ab.part, hq.len, natEq]
    have : decide (l = enumR n f) = decide (i' = l.length) := by
      rw [decide_eq_decide]
      constructor
      · intro hc
        have := congrArg List.length he
        rw [List.length_append, List.length_drop, ← hc] at this
        omega
      · intro hc
        rw [hc, List.drop_length, List.append_nil] at he
        exact he
    rw [this] at h
    have e : ((i' : Int) == (l.length : Int)) = decide (i' = l.length) := by rw [Bool.eq_iff_iff]; simp; omega
    rw [e]
    exact h
theorem k36t {n : Nat} {f : Nat → Nat → Bool} {q : AV} {l : List ZZ} (hq : isP q l) (hl : l.length < 1000) (hn : n ≤ 8) (he : l = enumR n f) (h : Q (.bool true) H) : WpCall E pure base bar 36 [.agg [.int .i64 (n : Nat), q], .agg (gcells f)] H Q :=
  k36 hq hl hn (by rw [decide_eq_true he]; exact h)
end Go.Proofs.Ythoogegclpiefaa.Code
end

section
namespace Go.Proofs.Ythoogegclpiefaa.Code
open Go Go.Ab
variable {pure : Bool} {base bar : Nat} {H : Heap} {Q : AV → Heap → Prop}

/-! 35: the house of a row -/
theorem shr_u32 {a b : Nat} (hb : b < 32) : abin .shr (.int .u32 (a : Int)) (.int .i64 (b : Int)) = some (.int .u32 ((a / 2 ^ b : Nat) : Int)) := by
  simp only [abin]
  rw [if_neg (by omega)]
  simp only [Int.toNat_natCast, show IntKind.u32.bits = 32 from rfl]
  congr 2
  rw [Nat.min_eq_left (by omega), show (2 : Int) ^ b = ((2 ^ b : Nat) : Int) by simp, Int.fdiv_eq_ediv_of_nonneg _ (Int.natCast_nonneg _)]
  exact (Int.natCast_ediv _ _).symm
theorem and_u32_one {a : Nat} (ha : a < 4294967296) : abin .and (.int .u32 a) (.int .u32 1) = some (.int .u32 ((a % 2 : Nat) : Int)) := by
  have e : (BitVec.ofInt 32 (a : Int) &&& BitVec.ofInt 32 ((1 : Nat) : Int)).toNat = a % 2 := by
    rw [BitVec.toNat_and, ofInt_toNat (w := 32) ha, ofInt_toNat (w := 32) (by omega), Nat.and_one_is_mod]
  simp only [abin, binInt, if_true]
  rw [show IntKind.u32.bits = 32 from rfl]
  have e' : (BitVec.ofInt 32 (a : Int) &&& BitVec.ofInt 32 (1 : Int)).toNat = a % 2 := e
  rw [e', Go.IntWalk.u32_in _ (by omega)]

def shrN (a b : Nat) : Nat := a / 2 ^ b
theorem shrN_bit {a b : Nat} : shrN a b % 2 = (a.testBit b).toNat := (Nat.toNat_testBit ..).symm
theorem shrN_le {a b : Nat} : shrN a b ≤ a := Nat.div_le_self _ _
def tri : Nat → Nat
  | 0 => 0
  | b + 1 => tri b + b
theorem tri_le : ∀ b, b ≤ 8 → tri b ≤ 28 := by decide

structure MadeTo (n bits b a : Nat) (l : List ZZ) (w : Nat → Nat) : Prop where
  room : openF n (fun _ => 0) l = .room w
  len : l.length ≤ tri b + a
  bit : ∀ x y, x < y → (y < b ∨ y = b ∧ x < a) → (w x).testBit y = bits.testBit (tri y + x)
  out : ∀ x y, x < y → ¬ (y < b ∨ y = b ∧ x < a) → (w x).testBit y = false
structure MadeOK (n bits : Nat) (l : List ZZ) (w : Nat → Nat) : Prop where
  room : openS n l = .room w
  len : l.length ≤ 28
  bit : ∀ x y, x < y → y < n → (w x).testBit y = bits.testBit (tri y + x)

theorem openF_snoc {n : Int} {p : ZZ} : ∀ {l : List ZZ} {w w' : Nat → Nat}, openF n w l = .room w' → openF n w (l ++ [p]) = openF n w' [p]
  | [], w, w', h => by
    simp only [openF, Opened.room.injEq] at h
    subst h; rfl
  | (a, b) :: r, w, w', h => by
    rw [List.cons_append]
    simp only [openF] at h ⊢
    split at h
    · cases h
    rename_i h1
    split at h
    · cases h
    rename_i h2
    split at h
    · cases h
    rename_i h3
    rw [if_neg h1, if_neg h2, if_neg h3]
    have := openF_snoc (p := p) h
    simpa only [openF] using this
theorem MadeTo.zero {n bits : Nat} : MadeTo n bits 0 0 [] (fun _ => 0) := ⟨rfl, Nat.zero_le _, fun x y _ h => by omega, fun x y _ _ => by simp⟩
theorem MadeTo.skip {n bits b a : Nat} {l : List ZZ} {w : Nat → Nat} (h : MadeTo n bits b a l w) (hab : a < b) (hb : bits.testBit (tri b + a) = false) : MadeTo n bits b (a + 1) l w :=
  ⟨h.room, by have := h.len; omega, fun x y hxy hc => by
    by_cases he : y = b ∧ x = a
    · obtain ⟨rfl, rfl⟩ := he
      rw [hb]; exact h.out x y hxy (by omega)
    · exact h.bit x y hxy (by omega), fun x y hxy hc => h.out x y hxy (by omega)⟩
theorem MadeTo.put {n bits b a : Nat} {l : List ZZ} {w : Nat → Nat} (h : MadeTo n bits b a l w) (hab : a < b) (hbn : b < n) (hb : bits.testBit (tri b + a) = true) : MadeTo n bits b (a + 1) (l ++ [((a : Int), (b : Int))]) (joinW w a b) := by
  refine ⟨?_, by have := h.len; simp; omega, fun x y hxy hc => ?_, fun x y hxy hc => ?_⟩
  · rw [openF_snoc h.room]
    simp only [openF]
    rw [if_neg (by omega), if_neg (by omega), Int.toNat_natCast, Int.toNat_natCast, if_neg (by rw [h.out a b hab (by omega)]; simp)]
  · rw [joinW_bit (by omega)]
    by_cases he : y = b ∧ x = a
    · obtain ⟨rfl, rfl⟩ := he
      simp [hb]
    · rw [h.bit x y hxy (by omega)]
      have e1 : (decide (x = a) && decide (y = b)) = false := by simp; omega
      have e2 : (decide (x = b) && decide (y = a)) = false := by simp; omega
      rw [e1, e2]; simp
  · rw [joinW_bit (by omega), h.out x y hxy (by omega)]
    have e1 : (decide (x = a) && decide (y = b)) = false := by simp; omega
    have e2 : (decide (x = b) && decide (y = a)) = false := by simp; omega
    rw [e1, e2]; simp
theorem MadeTo.next {n bits b : Nat} {l : List ZZ} {w : Nat → Nat} (h : MadeTo n bits b b l w) : MadeTo n bits (b + 1) 0 l w :=
  ⟨h.room, by have := h.len; simp [tri]; omega, fun x y hxy hc => h.bit x y hxy (by omega), fun x y hxy hc => h.out x y hxy (by omega)⟩
theorem MadeTo.done {n bits : Nat} {l : List ZZ} {w : Nat → Nat} (h : MadeTo n bits n 0 l w) (h1 : 1 ≤ n) (h8 : n ≤ 8) : MadeOK n bits l w :=
  ⟨by unfold openS; rw [if_pos (by simp [within]; omega)]; exact h.room, by have := h.len; have := tri_le n h8; omega, fun x y hxy hy => h.bit x y hxy (by omega)⟩
theorem wf_join {w : Nat → Nat} {a b : Nat} (hab : a ≠ b) : upd2 (upd2 (wf w) a b true) b a true = wf (joinW w a b) := by
  funext x y
  unfold wf upd2
  rw [joinW_bit hab]
  by_cases h1 : x = b ∧ y = a
  · obtain ⟨rfl, rfl⟩ := h1; simp
  · rw [if_neg h1]
    by_cases h2 : x = a ∧ y = b
    · obtain ⟨rfl, rfl⟩ := h2; simp
    · rw [if_neg h2]
      have e1 : (decide (x = a) && decide (y = b)) = false := by simp; omega
      have e2 : (decide (x = b) && decide (y = a)) = false := by simp; omega
      rw [e1, e2]; simp
theorem wf_zero : (fun _ _ => false) = wf (fun _ => 0) := by
  funext x y; simp [wf]

@[go_sem] theorem gz : AV.agg [.bool false, .bool false, .bool false, .bool false, .bool false, .bool false, .bool false, .bool false, .bool false, .bool false, .bool false, .bool false, .bool false, .bool false, .bool false, .bool false, .bool false, .bool false, .bool false, .bool false, .bool false, .bool false, .bool false, .bool false, .bool false, .bool false, .bool false, .bool false, .bool false, .bool false, .bool false, .bool false, .bool false, .bool false, .bool false, .bool false, .bool false, .bool false, .bool false, .bool false, .bool false, .bool false, .bool false, .bool false, .bool false, .bool false, .bool false, .bool false, .bool false, .bool false, .bool false, .bool false, .bool false, .bool false, .bool false, .bool false, .bool false, .bool false, .bool false, .bool false, .bool false, .bool false, .bool false, .bool false] = .agg (gcells (wf (fun _ => 0))) := by
  rw [← wf_zero]; rfl

/-- five blocks: the row that came in, two results, the house, who quarrels -/
def HM (H : Heap) (r : List AV) (n : Nat) (v : AV) (f : Nat → Nat → Bool) : Heap :=
  H ++ [.row 0 r 0 true, .row 0 [.int .i64 0, .nils] 0 true, .row 0 (gcells (wf (fun _ => 0))) 0 true, .row 0 [.int .i64 (n : Int), v] 0 true, .row 0 (gcells f) 0 true]
theorem HM_len {r : List AV} {n : Nat} {v : AV} {f : Nat → Nat → Bool} : (HM H r n v f).length = H.length + 5 := by simp [HM]
theorem HM_r {r : List AV} {n : Nat} {v : AV} {f : Nat → Nat → Bool} : (HM H r n v f)[H.length]? = some (.row 0 r 0 true) := by simp [HM, own_get0]
theorem HM_1 {r : List AV} {n : Nat} {v : AV} {f : Nat → Nat → Bool} : (HM H r n v f)[H.length + 1]? = some (.row 0 [.int .i64 0, .nils] 0 true) := by simp [HM, own_get]
theorem HM_2 {r : List AV} {n : Nat} {v : AV} {f : Nat → Nat → Bool} : (HM H r n v f)[H.length + 2]? = some (.row 0 (gcells (wf (fun _ => 0))) 0 true) := by simp [HM, own_get]
theorem HM_h {r : List AV} {n : Nat} {v : AV} {f : Nat → Nat → Bool} : (HM H r n v f)[H.length + 3]? = some (.row 0 [.int .i64 (n : Int), v] 0 true) := by simp [HM, own_get]
theorem HM_f {r : List AV} {n : Nat} {v : AV} {f : Nat → Nat → Bool} : (HM H r n v f)[H.length + 4]? = some (.row 0 (gcells f) 0 true) := by simp [HM, own_get]
theorem HM_seth {r : List AV} {n : Nat} {v v' : AV} {f : Nat → Nat → Bool} : (HM H r n v f).set (H.length + 3) (.row 0 [.int .i64 (n : Int), v'] 0 true) = HM H r n v' f := by simp [HM, own_set]
theorem HM_setf {r : List AV} {n : Nat} {v : AV} {f f' : Nat → Nat → Bool} : (HM H r n v f).set (H.length + 4) (.row 0 (gcells f') 0 true) = HM H r n v f' := by simp [HM, own_set]

theorem l35a {n bits b : Nat} {p : AV} {H0 : Heap} (hbits : bits < 4294967296) (hn : n ≤ 8) (hb : b < n) (hbar : bar ≤ H0.length) {R : PQ} :
    ∀ (k a : Nat), a + k = b → ∀ (l : List ZZ) (w : Nat → Nat) (v : AV) (Hc : Heap), MadeTo n bits b a l w → Grow 2 (prs l) (HM H0 [p, .int .u32 (bits : Nat)] n v (wf w)) v Hc →
    (∀ l' w' v' Hc', MadeTo n bits b b l' w' → Grow 2 (prs l') (HM H0 [p, .int .u32 (bits : Nat)] n v' (wf w')) v' Hc' →
      R (.exit 2) [(2, .ptr H0.length 0 0), (4, .ptr (H0.length + 1) 0 0), (5, .ptr (H0.length + 2) 0 0), (6, .ptr (H0.length + 3) 0 0), (7, .ptr (H0.length + 4) 0 0), (8, .int .i64 ((tri b + b : Nat) : Int)), (19, .int .i64 (n : Nat)), (20, .int .i64 (b : Nat)), (9, .int .i64 (b : Nat)), (23, .int .i64 (b : Nat)), (24, .int .i64 (b : Nat)), (25, .bool false)] Hc') →
    Wp E H0.length bar (.loop c35_l0) [(2, .ptr H0.length 0 0), (4, .ptr (H0.length + 1) 0 0), (5, .ptr (H0.length + 2) 0 0), (6, .ptr (H0.length + 3) 0 0), (7, .ptr (H0.length + 4) 0 0), (8, .int .i64 ((tri b + a : Nat) : Int)), (19, .int .i64 (n : Nat)), (20, .int .i64 (b : Nat)), (9, .int .i64 (b : Nat)), (23, .int .i64 (b : Nat)), (24, .int .i64 (a : Nat))] Hc R := by
  intro k
  induction k with
  | zero =>
    intro a ha l w v Hc hm g h
    obtain rfl : a = b := by omega
    rw [wp_round c35_l0.eq_1]
    simp [go_sem]
    exact_mod_cast h l w v Hc hm g
  | succ k ih =>
    intro a ha l w v Hc hm g h
    have hlt : a < b := by omega
    have ht : tri b + a < 28 := by have := tri_le (b + 1) (by omega); simp only [tri] at this; omega
    have hll := hm.len
    have lb : aload Hc ⟨false, 1⟩ (.ptr H0.length 0 1) = some (.int .u32 (bits : Nat)) := by rw [aload_ptr (g.get HM_r)]; rfl
    have lv : aload Hc ⟨false, 1⟩ (.ptr (H0.length + 3) 0 1) = some v := by rw [aload_ptr (g.get HM_h)]; rfl
    have hgl := g.len
    rw [HM_len] at hgl
    have e1 : abin .shr (.int .u32 (bits : Int)) (.int .i64 ((tri b : Int) + (a : Int))) = some (.int .u32 ((shrN bits (tri b + a) : Nat) : Int)) := by
      have := shr_u32 (a := bits) (b := tri b + a) (by omega)
      rwa [Int.natCast_add] at this
    have e2 := and_u32_one (a := shrN bits (tri b + a)) (Nat.lt_of_le_of_lt shrN_le hbits)
    rw [shrN_bit] at e2
    have e4 : IntKind.i64.wrap ((tri b : Int) + (a : Int) + 1) = (tri b : Int) + ((a : Int) + 1) := by
      have := i64_suc (i := tri b + a) (by omega)
      rw [Int.natCast_add] at this
      rw [this]; omega
    rw [wp_round c35_l0.eq_1]
    cases hc : bits.testBit (tri b + a)
    · rw [hc] at e2
      have := ih (a + 1) (by omega) l w v Hc (hm.skip hlt hc) g h
      simp [go_sem, hlt, lb, e1, e2, e4, i64_suc (show a < 1000000 by omega)]
      simpa using this
    · rw [hc] at e2
      simp [go_sem, hlt, lb, e1, e2, lv, aop, fillA, setCells, chunks]
      refine g.pair (p := ((a : Int), (b : Int))) (by rw [HM_len]; omega) (by rw [HM_len]; omega) (by omega) fun v' H' tc g' => ?_
      obtain ⟨s1, s2⟩ := grow_slot g'
      simp [go_sem]
      rw [storeWp_ptr (size := 1) (g'.get HM_h) s1 (by rw [s2]; rfl) (by omega) (by simp) (by omega) (.inl (by omega))]
      have g2 := g'.set (i := H0.length + 3) (b := .row 0 [.int .i64 (n : Int), v'] 0 true) (by rw [HM_len]; omega)
      rw [HM_seth] at g2
      simp [go_sem, s2, show a < 8 by omega, show b < 8 by omega]
      rw [storeG (g2.get HM_f) (by omega) (by omega) (by omega)]
      have g3 := g2.set (i := H0.length + 4) (b := .row 0 (gcells (upd2 (wf w) a b true)) 0 true) (by rw [HM_len]; omega)
      rw [HM_setf] at g3
      simp [go_sem, show a < 8 by omega, show b < 8 by omega]
      rw [storeG (g3.get HM_f) (by omega) (by omega) (by omega)]
      have g4 := g3.set (i := H0.length + 4) (b := .row 0 (gcells (upd2 (upd2 (wf w) a b true) b a true)) 0 true) (by rw [HM_len]; omega)
      rw [HM_setf, wf_join (by omega)] at g4
      rw [wf_join (by omega)]
      have := ih (a + 1) (by omega) _ _ v' _ (hm.put hlt hb hc) g4 h
      simp [go_sem, e4, i64_suc (show a < 1000000 by omega)]
      simpa using this

theorem l35 {n bits : Nat} {p : AV} {H0 : Heap} (hbits : bits < 4294967296) (hn : n ≤ 8) (hbar : bar ≤ H0.length) {R : PQ} :
    ∀ (k b : Nat), b + k = n → ∀ (l : List ZZ) (w : Nat → Nat) (v : AV) (Hc : Heap), MadeTo n bits b 0 l w → Grow 2 (prs l) (HM H0 [p, .int .u32 (bits : Nat)] n v (wf w)) v Hc →
    (∀ l' w' v' Hc', MadeTo n bits n 0 l' w' → Grow 2 (prs l') (HM H0 [p, .int .u32 (bits : Nat)] n v' (wf w')) v' Hc' →
      R (.exit 0) [(2, .ptr H0.length 0 0), (4, .ptr (H0.length + 1) 0 0), (5, .ptr (H0.length + 2) 0 0), (6, .ptr (H0.length + 3) 0 0), (7, .ptr (H0.length + 4) 0 0), (8, .int .i64 ((tri n : Nat) : Int)), (19, .int .i64 (n : Nat)), (20, .int .i64 (n : Nat)), (21, .bool false)] Hc') →
    Wp E H0.length bar (.loop c35_l1) [(2, .ptr H0.length 0 0), (4, .ptr (H0.length + 1) 0 0), (5, .ptr (H0.length + 2) 0 0), (6, .ptr (H0.length + 3) 0 0), (7, .ptr (H0.length + 4) 0 0), (8, .int .i64 ((tri b : Nat) : Int)), (19, .int .i64 (n : Nat)), (20, .int .i64 (b : Nat))] Hc R := by
  intro k
  induction k with
  | zero =>
    intro b hb l w v Hc hm g h
    obtain rfl : b = n := by omega
    rw [wp_round c35_l1.eq_1]
    simp [go_sem]
    exact h l w v Hc hm g
  | succ k ih =>
    intro b hb l w v Hc hm g h
    have hlt : b < n := by omega
    rw [wp_round c35_l1.eq_1]
    simp [go_sem, hlt]
    refine l35a hbits hn hlt hbar b 0 (by omega) l w v Hc hm g fun l' w' v' Hc' hm' g' => ?_
    have := ih (b + 1) (by omega) l' w' v' Hc' hm'.next g' h
    simp [go_sem, i64_suc (show b < 1000000 by omega)]
    simpa [tri] using this

theorem k35 {p bits most n : Nat} (hp : p < 256) (hbits : bits < 4294967296) (h1 : 1 ≤ most) (h8 : most ≤ 8) (hbar : bar ≤ H.length) (hn : n = 1 + p % most)
    (h : ∀ q l w, isP q l → MadeOK n bits l w → Q (.tup [.agg [.int .i64 (n : Nat), q], .agg (gcells (wf w))]) H) :
    WpCall E pure base bar 35 [.agg [.int .u8 (p : Nat), .int .u32 (bits : Nat)], .int .i64 (most : Nat)] H Q := by
  rw [call35]
  have hb' := bar_ok (pure := pure) hbar
  have hm : (p : Int).tmod (most : Int) = (p : Int) % (most : Int) := Go.IntWalk.rem_in _ _ (by omega)
  have hmod : p % most < most := Nat.mod_lt _ (by omega)
  have hw : IntKind.i64.wrap (1 + (p : Int) % (most : Int)) = (n : Int) := by
    rw [show (1 : Int) + (p : Int) % (most : Int) = (n : Int) by rw [hn]; simp, i64_nat (by omega)]
  simp [go_sem, WpFun, c35] at hb' ⊢
  generalize (if pure = true then H.length else bar) = bar' at hb' ⊢
  simp [go_sem, aload, own_get0, own_get, Ab.part, i64_nat (show p < 9223372036854775808 by omega), abin_rem (show (most : Int) ≠ 0 by omega), hm, hw, storeWp, astore, own_set, setCells, show bar' ≤ H.length + 3 by omega]
  refine l35 hbits (show n ≤ 8 by omega) hb' n 0 (by omega) [] _ .nils _ .zero .nil fun l w v Hc hmade g => ?_
  obtain ⟨s1, s2⟩ := grow_slot g
  simp [go_sem, aload_ptr (g.get HM_h), loadGG (g.get HM_f)]
  have hm1 := hmade.done (by omega) (by omega)
  rw [storeWp_ptr (size := 2) (g.get HM_1) rfl rfl (by omega) (by simp) (by omega) (.inl (by omega))]
  have g2 := g.set (i := H.length + 1) (b := .row 0 [.int .i64 (n : Int), v] 0 true) (by rw [HM_len]; omega)
  have e2 : ((HM H [.int .u8 (p : Int), .int .u32 (bits : Int)] n v (wf w)).set (H.length + 1) (.row 0 [.int .i64 (n : Int), v] 0 true))[H.length + 2]? = some (.row 0 (gcells (wf (fun _ => 0))) 0 true) := by simp [HM, own_set, own_get]
  simp [go_sem]
  rw [storeGG (g2.get e2) (by omega)]
  have g3 := g2.set (i := H.length + 2) (b := .row 0 (gcells (wf w)) 0 true) (by simp [HM_len])
  have e3 : (((HM H [.int .u8 (p : Int), .int .u32 (bits : Int)] n v (wf w)).set (H.length + 1) (.row 0 [.int .i64 (n : Int), v] 0 true)).set (H.length + 2) (.row 0 (gcells (wf w)) 0 true))[H.length + 1]? = some (.row 0 [.int .i64 (n : Int), v] 0 true) := by simp [HM, own_set, own_get]
  have e4 : (((HM H [.int .u8 (p : Int), .int .u32 (bits : Int)] n v (wf w)).set (H.length + 1) (.row 0 [.int .i64 (n : Int), v] 0 true)).set (H.length + 2) (.row 0 (gcells (wf w)) 0 true))[H.length + 2]? = some (.row 0 (gcells (wf w)) 0 true) := by simp [HM, own_set, own_get]
  have hl3 : (((HM H [.int .u8 (p : Int), .int .u32 (bits : Int)] n v (wf w)).set (H.length + 1) (.row 0 [.int .i64 (n : Int), v] 0 true)).set (H.length + 2) (.row 0 (gcells (wf w)) 0 true)).length = H.length + 5 := by simp [HM_len]
  obtain ⟨H2, f1, f2, f3, f4⟩ := g3.frz (d := 4) (bar := bar') (by decide) ⟨_, prs_length⟩ prs_plain (by rw [hl3]; omega)
  have e5 : H2.take H.length = H := by
    have := congrArg (List.take H.length) f4
    rw [List.take_take, hl3, Nat.min_eq_left (by omega)] at this
    rw [this]; simp [HM, own_set]
  rw [show 4 + 3 = 7 from rfl] at f1
  simp [go_sem, aload_ptr (g3.get e3), loadGG (g3.get e4), f1]
  rw [plains (d := 5) gcells_plain]
  simp [go_sem, isP.out.top, e5]
  exact h _ l w isP.out hm1
end Go.Proofs.Ythoogegclpiefaa.Code
end

section
namespace Go.Proofs.Ythoogegclpiefaa.Code
open Go Go.Ab
variable {pure : Bool} {base bar : Nat} {H : Heap} {Q : AV → Heap → Prop}

theorem part_odd {n : Nat} {w : Nat → Nat} (h : RoomW n w) (hn : n ≤ 8) : partG (wf w) n = (oddS n w).isNone := by
  cases ho : oddS n w with
  | some t =>
    obtain ⟨a, b, c⟩ := t
    obtain ⟨ha, hb, hc, hab, hbc, hac, q1, q2, q3⟩ := odd_some h ho
    simp only [Option.isNone_some]
    cases hp : partG (wf w) n
    · rfl
    · simp only [partG, List.all_eq_true, List.mem_range] at hp
      have := hp a ha b hb c hc
      simp [testG, wf, hab, hbc, q1, q2, q3] at this
  | none =>
    simp only [Option.isNone_none]
    simp only [partG, List.all_eq_true, List.mem_range]
    intro a ha b hb c hc
    cases ht : testG (wf w) a b c
    · rfl
    · simp only [testG, wf, Bool.and_eq_true, decide_eq_true_eq, Bool.not_eq_true', ne_eq] at ht
      obtain ⟨h1, h2, h3, h4, h5⟩ := ht
      exfalso
      unfold oddS at ho
      rw [List.findSome?_eq_none_iff] at ho
      have := ho a (List.mem_range.2 ha)
      unfold oddB at this
      rw [List.findSome?_eq_none_iff] at this
      have := this b (List.mem_range.2 hb)
      simp only [oddC, Option.map_eq_none_iff] at this
      rw [if_neg (by simp [h1, h3]), List.head?_eq_none_iff] at this
      have hm : c ∈ bitsOf (band (clr (w a) (w b)) (pw n - 1)) := bits_mem.2 ⟨by omega, by rw [testBit_band, testBit_clr (h.lt a), testBit_all, h5, h4]; simp [hc]⟩
      rw [this] at hm
      simp at hm
theorem oft_deg {n x : Nat} {w : Nat → Nat} (h : RoomW n w) (hn : n ≤ 8) : oftG (wf w) n x = degW w x := by
  unfold degW bitsOf oftG
  obtain ⟨d, hd⟩ : ∃ d, 8 = n + d := ⟨8 - n, by omega⟩
  rw [hd, filter_range_cut d fun c hc1 hc2 => by
    cases hc : (w x).testBit c
    · rfl
    · have := (h.dom x c hc).2; omega]
  rfl

theorem degSum_len {n : Int} {m : Nat} {l : List ZZ} {w : Nat → Nat} (hm : n = m) (h : openS n l = .room w) : degSum m w = 2 * l.length := by
  obtain ⟨h1, h2, h3, h4, h5, h6⟩ := openS_facts hm h
  unfold degSum
  rw [sumN_congr (f := degW w) (g := degF l) fun x hx => h5 x (by omega)]
  exact degF_sum (openF_valid h6)
theorem u8_i64 {a : Nat} (h : a < 256) : IntKind.i64.wrap (a : Int) = a := i64_nat (by omega)
theorem remN {a b : Nat} (hb : 1 ≤ b) : abin .rem (.int .i64 (a : Int)) (.int .i64 (b : Int)) = some (.int .i64 ((a % b : Nat) : Int)) := by
  rw [abin_rem (by omega)]
  exact congrArg (fun z => some (AV.int .i64 z)) (Go.IntWalk.up_tmod rfl rfl)

end Go.Proofs.Ythoogegclpiefaa.Code
end
