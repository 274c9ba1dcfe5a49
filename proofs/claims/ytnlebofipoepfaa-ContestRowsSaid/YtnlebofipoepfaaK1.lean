/-
  Parts of the proofs about this chapter, joined: contracts of functions and plain laws.
-/
import Derived.Test.YtnlebofipoepfaaAbArg
import Derived.Test.YtnlebofipoepfaaCall
import Derived.Test.YtnlebofipoepfaaAbO
set_option linter.all false
section
namespace Go.Ab
open Go.RowKit Go.ChangeShapes Go.WideShapes
variable {H : Type} {enc : TypeId × Value → H} {P : Program} {W W' : World} {base : Nat} {spare : Nat → Bool} {held : Bool}

theorem flat_vr {n : Nat} {t : TypeId} {v : Value} {d : DataW H} {ps : List MemPlace} {r : Reach} {b0 : Nat}
    (hu : (∃ fs, P.underlying t = some (.struct fs)) ∨ ∃ m e, P.underlying t = some (.array m e)) (hf : flatT P n t = true)
    (hval : Value.okWide P W r b0 t v) (hd : DataW.Trod enc P W 0 spare held t v d ps) : ∃ ys, VR (ctx0 W) (.agg ys) v ∧ Sh P n t ys := by
  have hv : ∃ cs, v = .agg cs := by
    unfold Value.okWide at hval
    rcases hu with ⟨fs, hu⟩ | ⟨m, e, hu⟩
    · rw [hu] at hval
      obtain ⟨cs, h, _⟩ := hval
      exact ⟨cs, h⟩
    · rw [hu] at hval
      obtain ⟨cs, h, _⟩ := hval
      exact ⟨cs, h⟩
  obtain ⟨cs, rfl⟩ := hv
  obtain ⟨fuel, hd⟩ := hd
  obtain ⟨ys, h1, h2⟩ := flat_cel (W := W) n t hf _ _ _ hd
  have hc : (Value.agg cs).cells.toList = cs.toList := rfl
  rw [hc] at h2
  exact ⟨ys, .agg ys cs (by rw [h2.len]; simp) h2.one fun i c u hi hu => h2.vr i c u hi (by simpa using hu), h1⟩

theorem sh_nat {n : Nat} {e : TypeId} {k : IntKind} {ys : List AV} (he : P.underlying e = some (.int k)) (hk : k.min = 0) (h : Sh P (n + 1) e ys) : ∃ a : Nat, ys = [.int k a] ∧ (a : Int) ≤ k.max := by
  unfold Sh at h
  rw [he] at h
  obtain ⟨z, rfl, hw⟩ := h
  simp only [Lit.wf, Bool.and_eq_true, decide_eq_true_eq, hk] at hw
  obtain ⟨a, rfl⟩ := Int.eq_ofNat_of_zero_le hw.1
  exact ⟨a, rfl, hw.2⟩

theorem u8_wf {z : Int} (h : (Lit.int .u8 z).wf = true) : ∃ a : Nat, z = a ∧ a < 256 := by
  simp only [Lit.wf, Bool.and_eq_true, decide_eq_true_eq] at h
  have m0 : IntKind.u8.min = 0 := by decide
  have m1 : IntKind.u8.max = 255 := by decide
  exact ⟨z.toNat, by omega, by omega⟩

/-- a struct of a byte and a word -/
theorem row_vr {t : TypeId} {f0 f1 : Field} {v : Value} {d : DataW H} {ps : List MemPlace} {r : Reach} {b0 : Nat}
    (ht : P.underlying t = some (.struct #[f0, f1])) (o0 : f0.offset = 0) (o1 : f1.offset = 1) (c0 : P.cellsOf f0.type = 1) (c1 : P.cellsOf f1.type = 1) (ct : P.cellsOf t = 2)
    (h0 : P.underlying f0.type = some (.int .u8)) (h1 : P.underlying f1.type = some (.int .u32))
    (hval : Value.okWide P W r b0 t v) (hd : DataW.Trod enc P W 0 spare held t v d ps) :
    ∃ p bits : Nat, p < 256 ∧ bits < 4294967296 ∧ VR (ctx0 W) (.agg [.int .u8 (p : Nat), .int .u32 (bits : Nat)]) v := by
  have hf : flatT P 2 t = true := by
    have g0 : flatT P 1 f0.type = true := by unfold flatT; rw [h0]
    have g1 : flatT P 1 f1.type = true := by unfold flatT; rw [h1]
    unfold flatT; rw [ht]
    simp [rowed, o0, o1, c0, c1, ct, g0, g1]
  obtain ⟨ys, hv, hs⟩ := flat_vr (.inl ⟨_, ht⟩) hf hval hd
  unfold Sh at hs
  rw [ht] at hs
  obtain ⟨hl, hs⟩ := hs
  rw [ct] at hl
  have s0 := hs f0 (by simp)
  have s1 := hs f1 (by simp)
  rw [o0, c0] at s0
  rw [o1, c1] at s1
  obtain ⟨p, hp, hp2⟩ := sh_nat h0 (by decide) s0
  obtain ⟨b, hb, hb2⟩ := sh_nat h1 (by decide) s1
  match ys, hl with
  | [x, y], _ =>
    simp at hp hb
    subst hp hb
    have m1 : IntKind.u8.max = 255 := by decide
    have m2 : IntKind.u32.max = 4294967295 := by decide
    exact ⟨p, b, by omega, by omega, hv⟩

/-- an array of bytes -/
theorem bytes_vr {t e : TypeId} {m : Nat} {v : Value} {d : DataW H} {ps : List MemPlace} {r : Reach} {b0 : Nat}
    (ht : P.underlying t = some (.array m e)) (he : P.underlying e = some (.int .u8)) (ce : P.cellsOf e = 1) (ct : P.cellsOf t = m)
    (hval : Value.okWide P W r b0 t v) (hd : DataW.Trod enc P W 0 spare held t v d ps) :
    ∃ f : Nat → Nat, (∀ i, f i < 256) ∧ VR (ctx0 W) (.agg ((List.range m).map fun i => .int .u8 ((f i : Nat) : Int))) v := by
  have hf : flatT P 2 t = true := by
    have g0 : flatT P 1 e = true := by unfold flatT; rw [he]
    unfold flatT; rw [ht]
    simp [ce, ct, g0]
  obtain ⟨ys, hv, hs⟩ := flat_vr (.inr ⟨_, _, ht⟩) hf hval hd
  unfold Sh at hs
  rw [ht] at hs
  obtain ⟨hl, hs⟩ := hs
  rw [ct] at hl
  have each : ∀ i, i < m → ∃ a : Nat, ys[i]? = some (.int .u8 (a : Nat)) ∧ a < 256 := fun i hi => by
    have := hs i hi
    rw [ce, Nat.mul_one] at this
    obtain ⟨a, ha, ha2⟩ := sh_nat he (by decide) this
    have m1 : IntKind.u8.max = 255 := by decide
    refine ⟨a, ?_, by omega⟩
    have h2 : ((ys.drop i).take 1)[0]? = some (.int .u8 (a : Nat)) := by rw [ha]; rfl
    simpa using h2
  obtain ⟨Y, hY⟩ := Go.Deep.choose_lt each
  refine ⟨fun i => if i < m then Y i else 0, fun i => ?_, ?_⟩
  · simp only
    split
    · rename_i h; exact (hY i h).2
    · decide
  · have : ys = (List.range m).map fun i => AV.int .u8 (((if i < m then Y i else 0 : Nat)) : Int) := by
      apply List.ext_getElem?
      intro i
      by_cases hi : i < m
      · rw [(hY i hi).1]; simp [hi]
      · rw [List.getElem?_eq_none (by omega), List.getElem?_eq_none (by simp; omega)]
    rw [← this]; exact hv
end Go.Ab
end

section
namespace Go.Proofs.Ytnlebofipoepfaa.Code
open Go Go.Ab
attribute [go_sem ↓] wpop_app
variable {pure : Bool} {base bar : Nat} {H : Heap} {Q : AV → Heap → Prop}

/-- is a number from a to b -/
def within (a b n : Int) : Bool := decide (a ≤ n) && decide (n ≤ b)
theorem k61 {n a b : Int} : WpCall E pure base bar 61 [.int .i64 a, .int .i64 n, .int .i64 b] H Q ↔ Q (.bool (within a b n)) H := by
  rw [call61]
  simp [go_sem, WpFun, c61]
  unfold within
  by_cases h : a ≤ n <;> simp [h]

def tz8 (s : Nat) : Nat := ((List.range 8).find? (s.testBit ·)).getD 8
theorem tz8_tab : ∀ i, i < 256 → c88_b0[i]? = some (tz8 i).toUInt8 := by decide +kernel
theorem tz8_lt (s : Nat) : tz8 s ≤ 8 := by
  unfold tz8
  cases h : (List.range 8).find? (s.testBit ·) with
  | none => simp
  | some i => have := List.mem_of_find?_eq_some h; simp at this; simp; omega

theorem k88 {s : Nat} (hs : s < 256) : WpCall E pure base bar 88 [.int .u8 s] H Q ↔ Q (.int .i64 (tz8 s)) H := by
  rw [call88]
  have h2 := tz8_lt s
  simp [go_sem, WpFun, c88, aop, AV.asNat, tz8_tab s hs]
  rw [show ((tz8 s : Nat) : Int) % 256 = tz8 s by omega, i64_nat (by omega)]

/-- the people of a set -/
def bitsOf (s : Nat) : List Nat := (List.range 8).filter (s.testBit ·)
theorem bits_step : ∀ s, s < 256 → s ≠ 0 → bitsOf s = tz8 s :: bitsOf (band s (s - 1)) ∧ band s (s - 1) < s := by decide +kernel
theorem bits_zero : bitsOf 0 = [] := by decide
theorem bits_len (s : Nat) : (bitsOf s).length ≤ 8 := by
  unfold bitsOf
  exact Nat.le_trans (List.length_filter_le _ _) (by simp)

theorem u8_sub1 {s : Nat} (hs : s < 256) (h0 : s ≠ 0) : IntKind.u8.wrap ((s : Int) - 1) = ((s - 1 : Nat) : Int) := by
  rw [show (s : Int) - 1 = ((s - 1 : Nat) : Int) by omega, u8_nat (by omega)]

theorem l71 (H0 : Heap) (hb : bar ≤ H0.length) (hbase : base ≤ H0.length) {R : PQ} : ∀ (s : Nat), s < 256 → ∀ (done : List Nat) (v : AV) (H : Heap), Grow 1 (nats done) H0 v H → done.length + (bitsOf s).length ≤ 1000 →
    (∀ v' H', Grow 1 (nats (done ++ bitsOf s)) H0 v' H' → R (.exit 0) [(0, .int .u8 0), (3, v'), (5, .bool false)] H') →
    Wp E base bar (.loop c71_l0) [(0, .int .u8 s), (3, v)] H R := by
  intro s
  induction s using Nat.strongRecOn with
  | _ s ih =>
    intro hs done v H hg hl h
    rw [wp_round c71_l0.eq_1]
    simp [go_sem]
    by_cases h0 : s = 0
    · subst h0
      simp [go_sem]
      exact h v H (by simpa [bits_zero] using hg)
    · have e := bits_step s hs h0
      simp [go_sem, h0, k88 hs, aop, fillA, setCells, chunks, AV.noVec.noVecs, AV.noVec]
      rw [e.1] at hl
      simp at hl
      refine hg.nat hb hbase (by omega) fun v' H' tc g' => ?_
      simp [go_sem, u8_sub1 hs h0, and_u8 hs (show s - 1 < 256 by omega)]
      refine ih _ e.2 (by omega) _ _ _ g' (by simp; omega) fun v'' H'' g'' => h _ _ ?_
      rw [e.1]; simpa using g''

theorem k71 {s : Nat} (hs : s < 256) (hb : bar ≤ H.length) (h : Q (outL 1 (nats (bitsOf s))) H) : WpCall E pure base bar 71 [.int .u8 s] H Q := by
  rw [call71]
  have hb := bar_ok (pure := pure) hb
  simp [go_sem, WpFun, c71] at hb ⊢
  refine l71 H hb (Nat.le_refl _) s hs [] _ _ .nil (by have := bits_len s; simp; omega) fun v' H' g => ?_
  simp [go_sem]
  refine g.out hb (Nat.le_refl _) ?_
  simpa using h
theorem k65 {s x : Nat} (hs : s < 256) : WpCall E pure base bar 65 [.int .u8 s, .int .i64 x] H Q ↔ Q (.bool (s.testBit x)) H := by
  rw [call65]
  simp [go_sem, WpFun, c65, shr_u8, and_u8_one, shr_lt hs, shr_bit s hs]
  cases s.testBit x <;> simp
theorem upd_lt {w : Nat → Nat} {i x : Nat} (hw : ∀ j, w j < 256) (hx : x < 256) : ∀ j, upd w i x j < 256 := fun j => by unfold upd; split <;> simp [*]
theorem k72_tab : ∀ i, i < 256 → c72_b0[i]? = some (bitsOf i).length.toUInt8 := by decide +kernel
theorem k72 {s : Nat} (hs : s < 256) : WpCall E pure base bar 72 [.int .u8 s] H Q ↔ Q (.int .i64 ((bitsOf s).length : Nat)) H := by
  rw [call72]
  have h2 := bits_len s
  have e : (((bitsOf s).length : Nat) : Int) % 256 = (bitsOf s).length := by omega
  simp [go_sem, WpFun, c72, aop, AV.asNat, k72_tab s hs, e, i64_nat (show (bitsOf s).length < 9223372036854775808 by omega)]
theorem i64_suc {i : Nat} (h : i < 1000000) : IntKind.i64.wrap ((i : Int) + 1) = ((i + 1 : Nat) : Int) := by
  rw [show (i : Int) + 1 = ((i + 1 : Nat) : Int) by omega, i64_nat (by omega)]

theorem bits_lt {s x : Nat} (h : x ∈ bitsOf s) : x < 8 := by simp [bitsOf] at h; exact h.1
/-- each two of a set quarrel -/
theorem shl_i64 {n : Nat} (hn : n < 62) : abin .shl (.int .i64 1) (.int .i64 (n : Int)) = some (.int .i64 ((pw n : Nat) : Int)) := by
  have h2 : (2 : Nat) ^ n < 9223372036854775808 := Nat.lt_of_lt_of_le (Nat.pow_lt_pow_right (by decide) hn) (by decide)
  simp only [abin]
  rw [if_neg (by omega), Int.toNat_natCast, show min n IntKind.i64.bits = n from Nat.min_eq_left (by simp [IntKind.bits]; omega)]
  rw [show (1 : Int) * 2 ^ n = ((2 ^ n : Nat) : Int) by simp, i64_nat h2]; rfl

theorem pw_le {n : Nat} (hn : n ≤ 8) : pw n ≤ 256 := Nat.pow_le_pow_right (by decide) hn

theorem natEq {a b : Nat} : ((a : Int) = (b : Int)) ↔ a = b := by omega
theorem natLt {a : Nat} : ((a : Int) < 8) ↔ a < 8 := by omega
/-- with how many others each one quarrels -/
theorem l22 {a b : AV} {x y : List Nat} (ha : isL a x) (hb : isL b y) (hx : x.length < 100000) (hxy : x.length = y.length) {R : PQ} : ∀ (k i : Nat), i + k = x.length →
    (x.drop i ≠ y.drop i → R .ret [(4, .bool false)] H) →
    (x.drop i = y.drop i → R (.exit 0) [(0, a), (1, b), (5, .int .i64 (x.length : Nat)), (14, .bool false)] H) →
    Wp E base bar (.loop c22_l0) [(0, a), (1, b), (5, .int .i64 (i : Nat))] H R := by
  intro k
  induction k with
  | zero =>
    intro i hi h1 h2
    obtain rfl : i = x.length := by omega
    rw [wp_round c22_l0.eq_1]
    simp [go_sem, ha.len]
    exact h2 (by rw [List.drop_length, hxy, List.drop_length])
  | succ k ih =>
    intro i hi h1 h2
    have hlt : i < x.length := by omega
    have hlt2 : i < y.length := by omega
    rw [wp_round c22_l0.eq_1]
    rw [List.drop_eq_getElem_cons hlt, List.drop_eq_getElem_cons hlt2, List.cons.injEq] at h2
    rw [List.drop_eq_getElem_cons hlt, List.drop_eq_getElem_cons hlt2, ne_eq, List.cons.injEq] at h1
    simp [go_sem, hlt, ha.len, ha.ix hlt, hb.ix hlt2]
    by_cases hc : x[i] = y[i]
    · simp only [hc, true_and] at h1 h2
      simp [go_sem, show ((x[i] : Nat) : Int) = (y[i] : Nat) by omega, i64_suc (show i < 1000000 by omega)]
      exact ih (i + 1) (by omega) h1 h2
    · simp [go_sem, show ¬ ((x[i] : Nat) : Int) = (y[i] : Nat) by omega]
      exact h1 (fun he => hc he.1)

theorem k22 {a b : AV} {x y : List Nat} (ha : isL a x) (hb : isL b y) (hx : x.length < 100000) (hy : y.length < 100000) (h : Q (.bool (decide (x = y))) H) : WpCall E pure base bar 22 [a, b] H Q := by
  rw [call22]
  simp [go_sem, WpFun, c22, ha.frz, hb.frz, ha.len, hb.len]
  by_cases hl : x.length = y.length
  · simp [go_sem, natEq, hl]
    refine l22 ha hb hx hl x.length 0 (by omega) ?_ ?_
    · intro he
      rw [show decide (x = y) = false by simpa using he] at h
      simp [go_sem]
      exact h
    · intro he
      rw [show decide (x = y) = true by simpa using he] at h
      simp [go_sem]
      exact h
  · rw [show decide (x = y) = false by simp; intro hc; exact hl (by rw [hc])] at h
    simp [go_sem, show ¬ ((x.length : Nat) : Int) = (y.length : Nat) by omega]
    exact h
theorem bits_mem {s x : Nat} : x ∈ bitsOf s ↔ x < 8 ∧ s.testBit x = true := by simp [bitsOf]
theorem bits_pairwise (s : Nat) : (bitsOf s).Pairwise (· < ·) := by
  unfold bitsOf
  exact List.Pairwise.filter _ (by decide)

theorem findSome_congr {α β : Type} {f g : α → Option β} : ∀ {l : List α}, (∀ x ∈ l, f x = g x) → l.findSome? f = l.findSome? g
  | [], _ => rfl
  | x :: r, h => by
    rw [List.findSome?_cons, List.findSome?_cons, h x (List.mem_cons_self ..), findSome_congr fun y hy => h y (List.mem_cons_of_mem _ hy)]
theorem find_congr {α : Type} {f g : α → Bool} : ∀ {l : List α}, (∀ x ∈ l, f x = g x) → l.find? f = l.find? g
  | [], _ => rfl
  | x :: r, h => by
    rw [List.find?_cons, List.find?_cons, h x (List.mem_cons_self ..), find_congr fun y hy => h y (List.mem_cons_of_mem _ hy)]
theorem find_range_cut {p : Nat → Bool} {m : Nat} : ∀ (d : Nat), (∀ c, m ≤ c → c < m + d → p c = false) → (List.range (m + d)).find? p = (List.range m).find? p
  | 0, _ => rfl
  | d + 1, h => by
    rw [← Nat.add_assoc, List.range_succ, List.find?_append, find_range_cut d fun c h1 h2 => h c h1 (by omega)]
    have : [m + d].find? p = none := by simp [h (m + d) (by omega) (by omega)]
    rw [this, Option.or_none]
theorem filter_range_cut {p : Nat → Bool} {m : Nat} : ∀ (d : Nat), (∀ c, m ≤ c → c < m + d → p c = false) → (List.range (m + d)).filter p = (List.range m).filter p
  | 0, _ => rfl
  | d + 1, h => by
    rw [← Nat.add_assoc, List.range_succ, List.filter_append, filter_range_cut d fun c h1 h2 => h c h1 (by omega)]
    have : [m + d].filter p = [] := by simp [h (m + d) (by omega) (by omega)]
    rw [this, List.append_nil]

theorem testBit_all {m i : Nat} : (pw m - 1).testBit i = decide (i < m) := by unfold pw; exact Nat.testBit_two_pow_sub_one ..

theorem bits_cut : ∀ s, s < 256 → ∀ b, b < 8 → (bitsOf (clr s (pw b))).length + (if s.testBit b = true then 1 else 0) = (bitsOf s).length := by decide +kernel
theorem bits_put : ∀ s, s < 256 → ∀ b, b < 8 → s.testBit b = false → (bitsOf (bor s (pw b))).length = (bitsOf s).length + 1 := by decide +kernel
theorem pairwise_of {α : Type} {P : α → α → Prop} {l : List α} (hl : l.Nodup) (h : ∀ x ∈ l, ∀ y ∈ l, x ≠ y → P x y) : l.Pairwise P := by
  induction l with
  | nil => exact .nil
  | cons a r ih =>
    rw [List.nodup_cons] at hl
    refine .cons (fun y hy => h a (List.mem_cons_self ..) y (List.mem_cons_of_mem _ hy) fun hc => hl.1 (hc ▸ hy)) (ih hl.2 fun x hx y hy => h x (List.mem_cons_of_mem _ hx) y (List.mem_cons_of_mem _ hy))
theorem pairwise_all {α : Type} {P : α → α → Prop} (hs : ∀ x y, P x y → P y x) {l : List α} (h : l.Pairwise P) : ∀ x ∈ l, ∀ y ∈ l, x ≠ y → P x y := by
  induction h with
  | nil => intro x hx; simp at hx
  | @cons a r h1 _ ih =>
    intro x hx y hy hxy
    rcases List.mem_cons.1 hx with e1 | hx'
    · subst e1
      rcases List.mem_cons.1 hy with e2 | hy'
      · exact absurd e2.symm hxy
      · exact h1 y hy'
    · rcases List.mem_cons.1 hy with e2 | hy'
      · subst e2
        exact hs _ _ (h1 x hx')
      · exact ih x hx' y hy' hxy
theorem sub_len : ∀ {l m : List Nat}, l.Nodup → (∀ x ∈ l, x ∈ m) → l.length ≤ m.length
  | [], _, _, _ => by simp
  | x :: r, m, hn, h => by
    rw [List.nodup_cons] at hn
    have hx := h x (List.mem_cons_self ..)
    have h2 : ∀ y ∈ r, y ∈ m.erase x := fun y hy => by
      have hne : y ≠ x := fun hc => hn.1 (hc ▸ hy)
      exact (List.mem_erase_of_ne hne).2 (h y (List.mem_cons_of_mem _ hy))
    have := sub_len hn.2 h2
    rw [List.length_erase_of_mem hx] at this
    have := List.length_pos_of_mem hx
    rw [List.length_cons]; omega
theorem map_nodup {α β : Type} {f : α → β} {l : List α} (hn : l.Nodup) (h : ∀ x ∈ l, ∀ y ∈ l, f x = f y → x = y) : (l.map f).Nodup := by
  induction l with
  | nil => exact .nil
  | cons a r ih =>
    rw [List.nodup_cons] at hn
    rw [List.map_cons, List.nodup_cons]
    refine ⟨fun hc => ?_, ih hn.2 fun x hx y hy => h x (List.mem_cons_of_mem _ hx) y (List.mem_cons_of_mem _ hy)⟩
    obtain ⟨y, hy, he⟩ := List.mem_map.1 hc
    have := h y (List.mem_cons_of_mem _ hy) a (List.mem_cons_self ..) he
    exact hn.1 (this ▸ hy)

/-! the greatest of a list -/
def maxL (l : List Nat) : Nat := l.foldl max 0
theorem foldl_max : ∀ (l : List Nat) (a : Nat), a ≤ l.foldl max a ∧ (∀ x ∈ l, x ≤ l.foldl max a) ∧ (l.foldl max a = a ∨ l.foldl max a ∈ l)
  | [], a => ⟨Nat.le_refl _, by simp, .inl rfl⟩
  | x :: r, a => by
    obtain ⟨h1, h2, h3⟩ := foldl_max r (max a x)
    refine ⟨Nat.le_trans (Nat.le_max_left ..) h1, fun y hy => ?_, ?_⟩
    · rcases List.mem_cons.1 hy with rfl | hy
      · exact Nat.le_trans (Nat.le_max_right ..) h1
      · exact h2 y hy
    · rw [List.foldl_cons]
      rcases h3 with h3 | h3
      · rw [h3]
        rcases Nat.le_total a x with h | h
        · right; rw [Nat.max_eq_right h]; exact List.mem_cons_self ..
        · left; exact Nat.max_eq_left h
      · right; exact List.mem_cons_of_mem _ h3
theorem maxL_le {l : List Nat} {x : Nat} (h : x ∈ l) : x ≤ maxL l := (foldl_max l 0).2.1 x h
theorem maxL_mem {l : List Nat} (h : l ≠ []) : maxL l ∈ l := by
  rcases (foldl_max l 0).2.2 with h2 | h2
  · cases l with
    | nil => exact absurd rfl h
    | cons a r =>
      have := maxL_le (List.mem_cons_self (a := a) (l := r))
      have h3 : maxL (a :: r) = 0 := h2
      rw [h3] at this ⊢
      rw [show a = 0 by omega]; exact List.mem_cons_self ..
  · exact h2

def sumN (f : Nat → Nat) : Nat → Nat
  | 0 => 0
  | n + 1 => sumN f n + f n
theorem sumN_congr {f g : Nat → Nat} : ∀ {n : Nat}, (∀ x, x < n → f x = g x) → sumN f n = sumN g n
  | 0, _ => rfl
  | n + 1, h => by rw [sumN, sumN, sumN_congr fun x hx => h x (by omega), h n (by omega)]
theorem sumN_add {f g : Nat → Nat} : ∀ {n : Nat}, sumN (fun x => f x + g x) n = sumN f n + sumN g n
  | 0 => rfl
  | n + 1 => by simp only [sumN]; rw [sumN_add]; omega
theorem sumN_zero : ∀ {n : Nat}, sumN (fun _ => 0) n = 0
  | 0 => rfl
  | n + 1 => by rw [sumN, sumN_zero]
theorem sumN_one {a : Nat} : ∀ {n : Nat}, sumN (fun x => if x = a then 1 else 0) n = if a < n then 1 else 0
  | 0 => rfl
  | n + 1 => by
    rw [sumN, sumN_one]
    by_cases h : n = a
    · subst h; simp
    · by_cases h2 : a < n
      · simp [h, h2, show a < n + 1 by omega]
      · simp [h, h2, show ¬ a < n + 1 by omega]
theorem sumN_at {a c : Nat} : ∀ {n : Nat}, sumN (fun x => if x = a then c else 0) n = if a < n then c else 0
  | 0 => rfl
  | n + 1 => by
    rw [sumN, sumN_at]
    by_cases h : n = a
    · subst h; simp
    · by_cases h2 : a < n
      · simp [h, h2, show a < n + 1 by omega]
      · simp [h, h2, show ¬ a < n + 1 by omega]
theorem sumN_le {f : Nat → Nat} {c : Nat} : ∀ {n : Nat}, (∀ x, x < n → f x ≤ c) → sumN f n ≤ n * c
  | 0, _ => by simp [sumN]
  | n + 1, h => by
    have h1 := sumN_le (n := n) (fun x hx => h x (by omega))
    have h2 := h n (by omega)
    rw [sumN, Nat.succ_mul]; omega
theorem foldl_sumN {f : Nat → Nat} : ∀ {n : Nat}, ((List.range n).map f).foldl (· + ·) 0 = sumN f n
  | 0 => rfl
  | n + 1 => by
    rw [List.range_succ, List.map_append, List.foldl_append, foldl_sumN]
    rfl
theorem filter_sumN {p : Nat → Bool} : ∀ {n : Nat}, ((List.range n).filter p).length = sumN (fun x => if p x = true then 1 else 0) n
  | 0 => rfl
  | n + 1 => by
    rw [List.range_succ, List.filter_append, List.length_append, filter_sumN, sumN]
    cases h : p n <;> simp [h]

theorem eqWp_flat2 {neg : Bool} {k1 k2 : IntKind} {a b c d : Int} {K : AV → Heap → List Nat → Prop} :
    eqWp neg (.flat [false, false]) (some (.agg [.int k1 a, .int k2 b])) (some (.agg [.int k1 c, .int k2 d])) H K = K (.bool (if neg then !(a == c && b == d) else (a == c && b == d))) H [] := by
  cases h1 : (a == c) <;> cases h2 : (b == d) <;> simp [eqWp, aeq, eqCells, eqCell, h1, h2]

/-- do two quarrel in a list -/
theorem isP.cut {q : AV} {l : List ZZ} (hq : isP q l) {i : Nat} (hi : i < l.length) : ∃ q', aslice H (.slc 2) q none (some (.int .i64 (i : Int))) none = some q' ∧ isP q' (l.take i) := by
  rcases hq with ⟨rfl, rfl⟩ | ⟨ex, rfl⟩
  · simp at hi
  · refine ⟨.lst 2 (ex && i == l.length) (prA (l.take i)), ?_, .inr ⟨_, rfl⟩⟩
    have hl : (prA l).length = l.length := by simp [prA]
    simp [aslice, optBound, bound1, AV.asNat, hl, Nat.le_of_lt hi]
    simp [prA, List.map_take]

theorem shr_u32 {a b : Nat} (hb : b < 32) : abin .shr (.int .u32 (a : Int)) (.int .i64 (b : Int)) = some (.int .u32 ((a / 2 ^ b : Nat) : Int)) := by
  simp only [abin]
  rw [if_neg (by omega)]
  simp only [Int.toNat_natCast, show IntKind.u32.bits = 32 from rfl]
  congr 2
  rw [Nat.min_eq_left (by omega), show (2 : Int) ^ b = ((2 ^ b : Nat) : Int) by simp, Int.fdiv_eq_ediv_of_nonneg _ (Int.natCast_nonneg _)]
  exact (Int.natCast_ediv _ _).symm
theorem and_u32_one {a : Nat} (ha : a < 4294967296) : abin .and (.int .u32 a) (.int .u32 1) = some (.int .u32 ((a % 2 : Nat) : Int)) := by
  have e : (BitVec.ofInt 32 (a : Int) &&& BitVec.ofInt 32 ((1 : Nat) : Int)).toNat = a % 2 := by
    rw [BitVec.toNat_and, ofInt_toNat (w := 32) ha, ofInt_toNat (w := 32) (by omega), Nat.and_one_is_mod]
  simp only [abin, binInt, if_true]
  rw [show IntKind.u32.bits = 32 from rfl]
  have e' : (BitVec.ofInt 32 (a : Int) &&& BitVec.ofInt 32 (1 : Int)).toNat = a % 2 := e
  rw [e', Go.IntWalk.u32_in _ (by omega)]

def shrN (a b : Nat) : Nat := a / 2 ^ b
theorem shrN_bit {a b : Nat} : shrN a b % 2 = (a.testBit b).toNat := (Nat.toNat_testBit ..).symm
theorem shrN_le {a b : Nat} : shrN a b ≤ a := Nat.div_le_self _ _
def tri : Nat → Nat
  | 0 => 0
  | b + 1 => tri b + b
theorem tri_le : ∀ b, b ≤ 8 → tri b ≤ 28 := by decide

theorem lt_pw {n s : Nat} (h : ∀ i, s.testBit i = true → i < n) : s < pw n := by
  unfold pw
  apply Nat.lt_pow_two_of_testBit
  intro i hi
  cases hc : s.testBit i
  · rfl
  · have := h i hc; omega
theorem bit_lt {n s i : Nat} (h : s < pw n) (hb : s.testBit i = true) : i < n := by
  apply Decidable.byContradiction
  intro hc
  rw [Nat.testBit_lt_two_pow (Nat.lt_of_lt_of_le h (Nat.pow_le_pow_right (by decide) (Nat.not_lt.1 hc) : 2 ^ n ≤ 2 ^ i))] at hb
  cases hb

end Go.Proofs.Ytnlebofipoepfaa.Code
end

section
namespace Go.Proofs.Ytnlebofipoepfaa.Code
open Go Go.Ab
variable {pure : Bool} {base bar : Nat} {H : Heap} {Q : AV → Heap → Prop}

section
variable {K : AV → Heap → List Nat → Prop}
/-- a row of a number and seven sets -/
def bcells (n : Nat) (w : Nat → Nat) : List AV := .int .i64 (n : Int) :: (List.range 7).map fun a => .int .u8 ((w a : Nat) : Int)
theorem bcells_length {n : Nat} {w : Nat → Nat} : (bcells n w).length = 8 := by simp [bcells]
theorem bcells_n {n : Nat} {w : Nat → Nat} : (bcells n w)[0]? = some (.int .i64 (n : Int)) := rfl
theorem bcells_get {n i : Nat} {w : Nat → Nat} (hi : i < 7) : (bcells n w)[1 + i]? = some (.int .u8 ((w i : Nat) : Int)) := by
  rw [Nat.add_comm]; simp [bcells, hi]
theorem bcells_set {n i x : Nat} {w : Nat → Nat} (hi : i < 7) : setCells (bcells n w) (1 + i) [.int .u8 (x : Int)] = bcells n (upd w i x) := by
  simp only [setCells]
  apply List.ext_getElem?
  intro j
  rw [List.getElem?_set]
  rcases j with _ | j
  · rw [if_neg (by omega)]; rfl
  · by_cases hj : 1 + i = j + 1
    · obtain rfl : i = j := by omega
      rw [if_pos (by omega)]
      simp [bcells, upd, hi]; omega
    · rw [if_neg hj]
      by_cases h8 : j < 7
      · simp [bcells, upd, h8, show ¬ j = i by omega]
      · simp [bcells, h8]
theorem bcells_plain {n : Nat} {w : Nat → Nat} : ∀ c ∈ bcells n w, Plain c := fun c hc => by
  simp only [bcells, List.mem_cons, List.mem_map] at hc
  rcases hc with rfl | ⟨a, _, rfl⟩ <;> exact Plain.int
theorem bcells_tops {n : Nat} {w : Nat → Nat} : AV.top.tops (bcells n w) = 0 := tops_zero fun x hx => by
  simp only [bcells, List.mem_cons, List.mem_map] at hx
  rcases hx with rfl | ⟨a, _, rfl⟩ <;> rfl
theorem storeB {base id ver n i x : Nat} {ex : Bool} {w : Nat → Nat} (hid : H[id]? = some (.row ver (bcells n w) 0 ex)) (hi : i < 7) (hb : bar ≤ id) :
    storeWp base bar 1 (.ptr id ver (1 + i)) (.int .u8 (x : Int)) H K = K (.tup []) (H.set id (.row ver (bcells n (upd w i x)) 0 ex)) [id] := by
  rw [storeWp_ptr (size := 1) hid rfl rfl (by omega) (by rw [bcells_length]; omega) hb (.inr (by simp [AV.cells, tops_cons, tops_nil, top_int]))]
  simp only [AV.cells, bcells_set hi]
theorem loadB {id ver n i s : Nat} {ex : Bool} {w : Nat → Nat} {fz : Nat} (hid : H[id]? = some (.row ver (bcells n w) fz ex)) (hi : i < 7) :
    aload H ⟨false, s⟩ (.ptr id ver (1 + i)) = some (.int .u8 ((w i : Nat) : Int)) := by
  rw [aload_ptr hid, part_one, bcells_get hi]
theorem loadBN {id ver n s : Nat} {ex : Bool} {w : Nat → Nat} {fz : Nat} (hid : H[id]? = some (.row ver (bcells n w) fz ex)) :
    aload H ⟨false, s⟩ (.ptr id ver 0) = some (.int .i64 (n : Int)) := by
  rw [aload_ptr hid, part_one, bcells_n]
end
/-! who beat whom, as 49 cells -/
def gcells (f : Nat → Nat → Bool) : List AV := (List.range 49).map fun i => .bool (f (i / 7) (i % 7))
def upd2 (f : Nat → Nat → Bool) (a b : Nat) (x : Bool) : Nat → Nat → Bool := fun i j => if i = a ∧ j = b then x else f i j
theorem gcells_length {f : Nat → Nat → Bool} : (gcells f).length = 49 := by simp [gcells]
theorem gcells_get {f : Nat → Nat → Bool} {a b : Nat} (ha : a < 7) (hb : b < 7) : (gcells f)[a * 7 + b]? = some (.bool (f a b)) := by
  have h1 : a * 7 + b < 49 := by omega
  have h2 : (a * 7 + b) / 7 = a := by omega
  have h3 : (a * 7 + b) % 7 = b := by omega
  simp only [gcells, List.getElem?_map, List.getElem?_range h1, Option.map_some, h2, h3]
theorem gcells_set {f : Nat → Nat → Bool} {a b : Nat} {x : Bool} (ha : a < 7) (hb : b < 7) : setCells (gcells f) (a * 7 + b) [.bool x] = gcells (upd2 f a b x) := by
  simp only [setCells]
  apply List.ext_getElem?
  intro j
  rw [List.getElem?_set]
  by_cases hj : a * 7 + b = j
  · subst hj
    rw [if_pos rfl, if_pos (by rw [gcells_length]; omega), gcells_get ha hb]
    simp [upd2]
  · rw [if_neg hj]
    by_cases h8 : j < 49
    · simp only [gcells, List.getElem?_map, List.getElem?_range h8, Option.map_some, upd2]
      rw [if_neg (by omega)]
    · simp [gcells, h8]
theorem gcells_plain {f : Nat → Nat → Bool} : ∀ c ∈ gcells f, Plain c := fun c hc => by
  simp only [gcells, List.mem_map] at hc
  obtain ⟨a, _, rfl⟩ := hc
  exact Plain.bool
@[go_sem] theorem gcells_tops {f : Nat → Nat → Bool} : AV.top.tops (gcells f) = 0 := tops_zero fun x hx => by
  simp only [gcells, List.mem_map] at hx
  obtain ⟨a, _, rfl⟩ := hx; rfl
@[go_sem] theorem gcells_noVec {f : Nat → Nat → Bool} : AV.noVec.noVecs (gcells f) = true := by
  unfold gcells
  generalize List.range 49 = l
  induction l with
  | nil => rfl
  | cons x r ih => simpa [AV.noVec.noVecs, AV.noVec] using ih
theorem frz_g {f : Nat → Nat → Bool} {d : Nat} : frz (d + 3) bar H (.agg (gcells f)) = some (.agg (gcells f), H) := by
  rw [frz_agg, plains gcells_plain]
theorem loadG {id ver fz a b s : Nat} {ex : Bool} {f : Nat → Nat → Bool} (hid : H[id]? = some (.row ver (gcells f) fz ex)) (ha : a < 7) (hb : b < 7) :
    aload H ⟨false, s⟩ (.ptr id ver (a * 7 + b)) = some (.bool (f a b)) := by
  rw [aload_ptr hid, part_one, gcells_get ha hb]
theorem loadGG {id ver fz : Nat} {ex : Bool} {f : Nat → Nat → Bool} (hid : H[id]? = some (.row ver (gcells f) fz ex)) :
    aload H ⟨true, 49⟩ (.ptr id ver 0) = some (.agg (gcells f)) := by
  rw [aload_ptr hid, part_agg, if_pos (by rw [gcells_length]; omega), List.drop_zero, List.take_of_length_le (by rw [gcells_length]; omega)]
theorem storeG {K : AV → Heap → List Nat → Prop} {id ver a b : Nat} {ex x : Bool} {f : Nat → Nat → Bool} (hid : H[id]? = some (.row ver (gcells f) 0 ex)) (ha : a < 7) (hb : b < 7) (hbar : bar ≤ id) :
    storeWp base bar 1 (.ptr id ver (a * 7 + b)) (.bool x) H K = K (.tup []) (H.set id (.row ver (gcells (upd2 f a b x)) 0 ex)) [id] := by
  rw [storeWp_ptr (size := 1) hid rfl rfl (by omega) (by rw [gcells_length]; omega) hbar (.inr (by simp [AV.cells, tops_cons, tops_nil, top_bool]))]
  simp only [AV.cells, gcells_set ha hb]
theorem gcells_over {f g : Nat → Nat → Bool} : setCells (gcells f) 0 (gcells g) = gcells g := by
  have : ∀ (news l r : List AV), news.length = r.length → setCells (l ++ r) l.length news = l ++ news := by
    intro news
    induction news with
    | nil => intro l r h; obtain rfl : r = [] := List.length_eq_zero_iff.1 h.symm; simp [setCells]
    | cons x n ih =>
      intro l r h
      cases r with
      | nil => simp at h
      | cons y r =>
        have := ih (l ++ [x]) r (by simpa using h)
        simp only [setCells]
        rw [show (l ++ y :: r).set l.length x = l ++ x :: r by simp [List.set_append]]
        simpa using this
  exact this (gcells g) [] (gcells f) (by rw [gcells_length, gcells_length])
theorem storeGG {K : AV → Heap → List Nat → Prop} {id ver : Nat} {ex : Bool} {f g : Nat → Nat → Bool} (hid : H[id]? = some (.row ver (gcells f) 0 ex)) (hbar : bar ≤ id) :
    storeWp base bar 49 (.ptr id ver 0) (.agg (gcells g)) H K = K (.tup []) (H.set id (.row ver (gcells g) 0 ex)) [id] := by
  rw [storeWp_ptr (size := 49) hid rfl (by simp [AV.cells, gcells_length]) (by omega) (by rw [gcells_length]; omega) hbar (.inr (by simp [AV.cells, gcells_tops]))]
  simp only [AV.cells, gcells_over]


/-! who is met: seven cells -/
def mcells (f : Nat → Bool) : List AV := (List.range 7).map fun i => .bool (f i)
def updB (f : Nat → Bool) (a : Nat) (x : Bool) : Nat → Bool := fun i => if i = a then x else f i
theorem mcells_length {f : Nat → Bool} : (mcells f).length = 7 := by simp [mcells]
theorem mcells_get {f : Nat → Bool} {a : Nat} (ha : a < 7) : (mcells f)[a]? = some (.bool (f a)) := by simp [mcells, ha]
theorem mcells_set {f : Nat → Bool} {a : Nat} {x : Bool} (ha : a < 7) : setCells (mcells f) a [.bool x] = mcells (updB f a x) := by
  simp only [setCells]
  apply List.ext_getElem?
  intro j
  rw [List.getElem?_set]
  by_cases hj : a = j
  · subst hj
    rw [if_pos rfl, if_pos (by rw [mcells_length]; omega), mcells_get ha]
    simp [updB]
  · rw [if_neg hj]
    by_cases h8 : j < 7
    · simp [mcells, h8, updB, show ¬ j = a by omega]
    · simp [mcells, h8]
theorem mcells_plain {f : Nat → Bool} : ∀ c ∈ mcells f, Plain c := fun c hc => by
  simp only [mcells, List.mem_map] at hc
  obtain ⟨a, _, rfl⟩ := hc
  exact Plain.bool
@[go_sem] theorem mcells_tops {f : Nat → Bool} : AV.top.tops (mcells f) = 0 := tops_zero fun x hx => by
  simp only [mcells, List.mem_map] at hx
  obtain ⟨a, _, rfl⟩ := hx; rfl
@[go_sem] theorem mcells_noVec {f : Nat → Bool} : AV.noVec.noVecs (mcells f) = true := by
  unfold mcells
  generalize List.range 7 = l
  induction l with
  | nil => rfl
  | cons x r ih => simpa [AV.noVec.noVecs, AV.noVec] using ih
theorem frz_m {f : Nat → Bool} {d : Nat} : frz (d + 3) bar H (.agg (mcells f)) = some (.agg (mcells f), H) := by
  rw [frz_agg, plains mcells_plain]
theorem loadM {id ver fz a s : Nat} {ex : Bool} {f : Nat → Bool} (hid : H[id]? = some (.row ver (mcells f) fz ex)) (ha : a < 7) :
    aload H ⟨false, s⟩ (.ptr id ver a) = some (.bool (f a)) := by
  rw [aload_ptr hid, part_one, mcells_get ha]
theorem loadMM {id ver fz : Nat} {ex : Bool} {f : Nat → Bool} (hid : H[id]? = some (.row ver (mcells f) fz ex)) :
    aload H ⟨true, 7⟩ (.ptr id ver 0) = some (.agg (mcells f)) := by
  rw [aload_ptr hid, part_agg, if_pos (by rw [mcells_length]; omega), List.drop_zero, List.take_of_length_le (by rw [mcells_length]; omega)]
theorem storeM {K : AV → Heap → List Nat → Prop} {id ver a : Nat} {ex x : Bool} {f : Nat → Bool} (hid : H[id]? = some (.row ver (mcells f) 0 ex)) (ha : a < 7) (hbar : bar ≤ id) :
    storeWp base bar 1 (.ptr id ver a) (.bool x) H K = K (.tup []) (H.set id (.row ver (mcells (updB f a x)) 0 ex)) [id] := by
  rw [storeWp_ptr (size := 1) hid rfl rfl (by omega) (by rw [mcells_length]; omega) hbar (.inr (by simp [AV.cells, tops_cons, tops_nil, top_bool]))]
  simp only [AV.cells, mcells_set ha]
theorem mcells_over {f g : Nat → Bool} : setCells (mcells f) 0 (mcells g) = mcells g := rfl
theorem storeMM {K : AV → Heap → List Nat → Prop} {id ver : Nat} {ex : Bool} {f g : Nat → Bool} (hid : H[id]? = some (.row ver (mcells f) 0 ex)) (hbar : bar ≤ id) :
    storeWp base bar 7 (.ptr id ver 0) (.agg (mcells g)) H K = K (.tup []) (H.set id (.row ver (mcells g) 0 ex)) [id] := by
  rw [storeWp_ptr (size := 7) hid rfl (by simp [AV.cells, mcells_length]) (by omega) (by rw [mcells_length]; omega) hbar (.inr (by simp [AV.cells, mcells_tops]))]
  simp only [AV.cells, mcells_over]
@[go_sem] theorem mz : AV.agg [.bool false, .bool false, .bool false, .bool false, .bool false, .bool false, .bool false] = .agg (mcells fun _ => false) := rfl
@[go_sem] theorem gz : AV.agg [.bool false, .bool false, .bool false, .bool false, .bool false, .bool false, .bool false, .bool false, .bool false, .bool false, .bool false, .bool false, .bool false, .bool false, .bool false, .bool false, .bool false, .bool false, .bool false, .bool false, .bool false, .bool false, .bool false, .bool false, .bool false, .bool false, .bool false, .bool false, .bool false, .bool false, .bool false, .bool false, .bool false, .bool false, .bool false, .bool false, .bool false, .bool false, .bool false, .bool false, .bool false, .bool false, .bool false, .bool false, .bool false, .bool false, .bool false, .bool false, .bool false] = .agg (gcells fun _ _ => false) := rfl
end Go.Proofs.Ytnlebofipoepfaa.Code
end

section
namespace Go.Proofs.Ytnlebofipoepfaa.Code
open Go Go.Ab
variable {pure : Bool} {base bar : Nat} {H : Heap} {Q : AV → Heap → Prop}

/-- have two met -/
def qin (l : List ZZ) (a b : Int) : Bool := l.any fun p => (p.1 == a && p.2 == b) || (p.1 == b && p.2 == a)
def chkF (n : Int) : List ZZ → List ZZ → Int
  | _, [] => 0
  | b, p :: r => if p.1 < 0 ∨ p.2 < 0 ∨ n ≤ p.1 ∨ n ≤ p.2 then 2 else if p.1 = p.2 then 13 else if qin b p.1 p.2 = true then 6 else chkF n (b ++ [p]) r
def halfN (n : Nat) : Nat := n * (n - 1) / 2
/-- the error of a contest -/
def checkS (n : Int) (l : List ZZ) : Int := if within 1 7 n = true then (if chkF n [] l = 0 then (if l.length < halfN n.toNat then 21 else 0) else chkF n [] l) else 1

theorem l23a {n : Int} {q q' : AV} {b : List ZZ} {p1 p2 : Int} (hq : isP q' b) (hqt : q.top = 0) (hb : b.length < 1000) {len i : Nat} (hbar : bar ≤ H.length) {R : PQ} : ∀ (k j : Nat), j + k = b.length →
    (qin (b.drop j) p1 p2 = true → ∀ H', H'.take H.length = H → R .ret [(2, .int .i64 6)] H') →
    (qin (b.drop j) p1 p2 = false → R (.exit 3) [(1, .ptr H.length 0 0), (12, q), (13, .int .i64 (len : Nat)), (14, .int .i64 (i : Nat)), (4, .ptr (H.length + 1) 0 0), (45, q'), (46, .int .i64 (b.length : Nat)), (47, .int .i64 (b.length : Nat)), (48, .bool false)] (H ++ [.row 0 [.int .i64 n, q] 0 true, .row 0 [.int .i64 p1, .int .i64 p2] 0 true])) →
    Wp E base bar (.loop c23_l0) [(1, .ptr H.length 0 0), (12, q), (13, .int .i64 (len : Nat)), (14, .int .i64 (i : Nat)), (4, .ptr (H.length + 1) 0 0), (45, q'), (46, .int .i64 (b.length : Nat)), (47, .int .i64 (j : Nat))] (H ++ [.row 0 [.int .i64 n, q] 0 true, .row 0 [.int .i64 p1, .int .i64 p2] 0 true]) R := by
  intro k
  induction k with
  | zero =>
    intro j hj h1 h2
    obtain rfl : j = b.length := by omega
    rw [wp_round c23_l0.eq_1]
    simp [go_sem]
    exact h2 (by simp [qin])
  | succ k ih =>
    intro j hj h1 h2
    have hlt : j < b.length := by omega
    obtain ⟨⟨a, c⟩, hp⟩ : ∃ p, b[j] = p := ⟨_, rfl⟩
    have hst : qin (b.drop j) p1 p2 = ((a == p1 && c == p2 || a == p2 && c == p1) || qin (b.drop (j + 1)) p1 p2) := by
      rw [List.drop_eq_getElem_cons hlt, hp]; simp [qin]
    rw [hst] at h1 h2
    rw [wp_round c23_l0.eq_1]
    simp [go_sem, hlt, hq.ix hlt, hp, zc, storeWp, astore, own_get, own_set, setCells, show bar ≤ H.length + 2 by omega, aload, Ab.part, eqWp_flat2]
    by_cases c1 : a = p1 ∧ c = p2
    · obtain ⟨rfl, rfl⟩ := c1
      simp [go_sem]
      exact h1 (by simp) _ (by simp)
    · have e1 : (a == p1 && c == p2) = false := by simpa using fun h => by simpa using fun h2 => c1 ⟨h, h2⟩
      by_cases c2 : a = p2 ∧ c = p1
      · obtain ⟨rfl, rfl⟩ := c2
        simp [go_sem, e1, own_get, aload, Ab.part, fillA, setCells, eqWp_flat2]
        exact h1 (by simp) _ (by simp)
      · have e2 : (a == p2 && c == p1) = false := by simpa using fun h => by simpa using fun h2 => c2 ⟨h, h2⟩
        simp only [e1, e2, Bool.false_or] at h1 h2
        simp [go_sem, e1, e2, own_get, aload, Ab.part, fillA, setCells, eqWp_flat2, i64_suc (show j < 1000000 by omega)]
        rw [if_pos (fun h h2 => c1 ⟨h, h2⟩), if_neg c2]
        exact ⟨by rw [hqt, hq.top]; omega, ih (j + 1) (by omega) h1 h2⟩
theorem l23 {n : Int} {q : AV} {l : List ZZ} (hq : isP q l) (hl : l.length < 1000) (hbar : bar ≤ H.length) {R : PQ} : ∀ (k i : Nat), i + k = l.length →
    (∀ e H', chkF n (l.take i) (l.drop i) = e → e ≠ 0 → H'.take H.length = H → R .ret [(2, .int .i64 e)] H') →
    (chkF n (l.take i) (l.drop i) = 0 → R (.exit 0) [(1, .ptr H.length 0 0), (12, q), (13, .int .i64 (l.length : Nat)), (14, .int .i64 (l.length : Nat)), (15, .bool false)] (H ++ [.row 0 [.int .i64 n, q] 0 true])) →
    Wp E base bar (.loop c23_l1) [(1, .ptr H.length 0 0), (12, q), (13, .int .i64 (l.length : Nat)), (14, .int .i64 (i : Nat))] (H ++ [.row 0 [.int .i64 n, q] 0 true]) R := by
  intro k
  induction k with
  | zero =>
    intro i hi h1 h2
    obtain rfl : i = l.length := by omega
    rw [wp_round c23_l1.eq_1]
    simp [go_sem]
    exact h2 (by rw [List.drop_length]; rfl)
  | succ k ih =>
    intro i hi h1 h2
    have hlt : i < l.length := by omega
    rw [wp_round c23_l1.eq_1]
    rw [List.drop_eq_getElem_cons hlt] at h1 h2
    obtain ⟨⟨a, b⟩, hp⟩ : ∃ p, l[i] = p := ⟨_, rfl⟩
    rw [hp] at h1 h2
    simp only [chkF] at h1 h2
    obtain ⟨q', hq1, hq2⟩ := isP.cut (H := H ++ [Blk.row 0 [.int .i64 n, q] 0 true, .row 0 [.int .i64 a, .int .i64 b] 0 true]) hq hlt
    have ht : ∀ L : Heap, (H ++ L).take H.length = H := fun L => by simp
    simp [go_sem, hlt, hq.ix hlt, hp, zc, storeWp, astore, own_get, own_set, setCells, show bar ≤ H.length + 1 by omega, aload, Ab.part, aop]
    by_cases h0 : a < 0 ∨ b < 0 ∨ n ≤ a ∨ n ≤ b
    · have g1 := h1 2 (H ++ [Blk.row 0 [.int .i64 n, q] 0 true, .row 0 [.int .i64 a, .int .i64 b] 0 true]) (by rw [if_pos h0]) (by decide) (ht _)
      by_cases h3 : 0 ≤ (if b < a then b else a)
      · have h4 : n ≤ (if a < b then b else a) := by split at h3 <;> split <;> omega
        simp [h3, h4, go_sem, own_get, own_get0, aload, Ab.part, aop]
        exact g1
      · simp [h3, go_sem]
        exact g1
    · rw [if_neg h0] at h1 h2
      have h3 : 0 ≤ (if b < a then b else a) := by split <;> omega
      have h4 : ¬ n ≤ (if a < b then b else a) := by split <;> omega
      by_cases hab : a = b
      · have g1 := h1 13 (H ++ [Blk.row 0 [.int .i64 n, q] 0 true, .row 0 [.int .i64 a, .int .i64 b] 0 true]) (by rw [if_pos hab]) (by decide) (ht _)
        simp [h3, h4, go_sem, own_get, own_get0, aload, Ab.part, aop, hab]
        subst hab
        rw [if_pos (show 0 ≤ a by omega), if_neg (show ¬ n ≤ a by omega)]
        exact g1
      · rw [if_neg hab] at h1 h2
        simp [h3, h4, go_sem, own_get, own_get0, aload, Ab.part, aop, hab, Opd.evo, hq1, hq2.len]
        rw [show ((min i l.length : Nat) : Int) = ((l.take i).length : Nat) by simp]
        refine l23a hq2 hq.top (by simp; omega) hbar (l.take i).length 0 (by omega) (fun hc H' hH => ?_) (fun hc => ?_)
        · rw [List.drop_zero] at hc
          rw [if_pos hc] at h1
          simp [go_sem]
          exact h1 6 H' rfl (by decide) hH
        · rw [List.drop_zero] at hc
          rw [if_neg (by simp [hc])] at h1 h2
          have hs : l.take i ++ [(a, b)] = l.take (i + 1) := by rw [List.take_succ_eq_append_getElem hlt, hp]
          rw [hs] at h1 h2
          simp [go_sem, hq.top, i64_suc (show i < 1000000 by omega)]
          exact ih (i + 1) (by omega) h1 h2
def prN (n : Nat) : Nat := n * (n - 1)
theorem k23 {n : Int} {q : AV} {l : List ZZ} (hq : isP q l) (hl : l.length < 1000) (hbar : bar ≤ H.length) (h : Q (.int .i64 (checkS n l)) H) : WpCall E pure base bar 23 [.agg [.int .i64 n, q]] H Q := by
  rw [call23]
  have hb' := bar_ok (pure := pure) hbar
  have ln : aload (H ++ [Blk.row 0 [.int .i64 n, q] 0 true]) ⟨false, 1⟩ (.ptr H.length 0 0) = some (.int .i64 n) := by simp [aload, own_get0, Ab.part]
  have lq : aload (H ++ [Blk.row 0 [.int .i64 n, q] 0 true]) ⟨false, 1⟩ (.ptr H.length 0 1) = some q := by simp [aload, own_get0, Ab.part]
  simp [go_sem, WpFun, c23, hq.frz, ln, k61] at hb' ⊢
  generalize (if pure = true then H.length else bar) = bar' at hb' ⊢
  unfold checkS at h
  cases hr : within 1 7 n
  · rw [hr, if_neg (by decide)] at h
    simp [go_sem]
    exact h
  · rw [hr, if_pos rfl] at h
    have hr' := hr
    simp [within] at hr'
    simp [go_sem, lq, hq.len]
    refine l23 hq hl hb' l.length 0 (by omega) (fun e H' he hne ht => ?_) (fun he => ?_)
    · simp only [List.take_zero, List.drop_zero] at he
      rw [he, if_neg hne] at h
      simp [go_sem, ht]
      exact h
    · simp only [List.take_zero, List.drop_zero] at he
      rw [he, if_pos rfl] at h
      obtain ⟨n, rfl⟩ := Int.eq_ofNat_of_zero_le (show 0 ≤ n by omega)
      rw [Int.toNat_natCast] at h
      have e1 : IntKind.i64.wrap ((n : Int) - 1) = ((n - 1 : Nat) : Int) := by
        rw [show (n : Int) - 1 = ((n - 1 : Nat) : Int) by omega, i64_nat (by omega)]
      have hpr : prN n ≤ 42 := by
        unfold prN
        have h7 : n ≤ 7 := by omega
        exact Nat.mul_le_mul h7 (show n - 1 ≤ 6 by omega)
      have e2 : IntKind.i64.wrap ((n : Int) * ((n - 1 : Nat) : Int)) = ((prN n : Nat) : Int) := by
        rw [show (n : Int) * ((n - 1 : Nat) : Int) = ((prN n : Nat) : Int) by unfold prN; exact (Int.natCast_mul ..).symm, i64_nat (by omega)]
      have e3 : abin .quo (.int .i64 ((prN n : Nat) : Int)) (.int .i64 2) = some (.int .i64 ((halfN n : Nat) : Int)) := by
        rw [abin_quo (by decide), Go.IntWalk.i64_quo _ _ ⟨by omega, by omega, by omega⟩]
        rfl
      generalize hnn : n - 1 = m at *
      simp [go_sem, lq, ln, hq.len, e1, e2, e3]
      by_cases hlen : l.length < halfN n
      · rw [if_pos hlen] at h
        simp [go_sem, hlen]
        exact h
      · rw [if_neg hlen] at h
        simp [go_sem, hlen]
        exact h
end Go.Proofs.Ytnlebofipoepfaa.Code
end

section
namespace Go.Proofs.Ytnlebofipoepfaa.Code
open Go Go.Ab
variable {pure : Bool} {base bar : Nat} {H : Heap} {Q : AV → Heap → Prop}

/-- a board: whom each one beat -/
structure BoardW (n : Nat) (w : Nat → Nat) : Prop where
  le : n ≤ 7
  lt : ∀ x, w x < 256
  dom : ∀ x y, (w x).testBit y = true → x < n ∧ y < n
  irr : ∀ x, (w x).testBit x = false
  one : ∀ x y, x < n → y < n → x ≠ y → (w x).testBit y = !(w y).testBit x
theorem BoardW.small {n : Nat} {w : Nat → Nat} (h : BoardW n w) (x : Nat) : w x < 128 := lt_pw (n := 7) fun i hi => by have := (h.dom x i hi).2; have := h.le; omega

/-! 58: some and all whom these beat -/
def fartS (w : Nat → Nat) (s : Nat) : Nat := (bitsOf s).foldl (fun o x => bor o (w x)) s
theorem foldl_bor {w : Nat → Nat} {y : Nat} : ∀ {l : List Nat} {o : Nat}, (l.foldl (fun o x => bor o (w x)) o).testBit y = true ↔ o.testBit y = true ∨ ∃ x ∈ l, (w x).testBit y = true
  | [], o => by simp
  | x :: r, o => by
    rw [List.foldl_cons, foldl_bor, testBit_bor, Bool.or_eq_true]
    constructor
    · rintro ((h | h) | ⟨z, hz, h⟩)
      · exact .inl h
      · exact .inr ⟨x, List.mem_cons_self .., h⟩
      · exact .inr ⟨z, List.mem_cons_of_mem _ hz, h⟩
    · rintro (h | ⟨z, hz, h⟩)
      · exact .inl (.inl h)
      · rcases List.mem_cons.1 hz with rfl | hz
        · exact .inl (.inr h)
        · exact .inr ⟨z, hz, h⟩
theorem foldl_bor_lt {w : Nat → Nat} (hw : ∀ x, w x < 256) : ∀ {l : List Nat} {o : Nat}, o < 256 → l.foldl (fun o x => bor o (w x)) o < 256
  | [], o, h => h
  | x :: r, o, h => foldl_bor_lt hw (l := r) (o := bor o (w x)) (bor_lt h (hw x))
theorem fart_bit {n s y : Nat} {w : Nat → Nat} (hs : s < 128) : (fartS w s).testBit y = true ↔ s.testBit y = true ∨ ∃ x, s.testBit x = true ∧ (w x).testBit y = true := by
  unfold fartS
  rw [foldl_bor]
  constructor
  · rintro (h | ⟨x, hx, h⟩)
    · exact .inl h
    · exact .inr ⟨x, (bits_mem.1 hx).2, h⟩
  · rintro (h | ⟨x, hx, h⟩)
    · exact .inl h
    · exact .inr ⟨x, bits_mem.2 ⟨by have := bit_lt (n := 7) hs hx; omega, hx⟩, h⟩
theorem fart_lt {n s : Nat} {w : Nat → Nat} (hb : BoardW n w) (hs : s < 128) : fartS w s < 128 := lt_pw (n := 7) fun i hi => by
  rcases (fart_bit (n := n) hs).1 hi with h | ⟨x, _, h⟩
  · exact bit_lt (n := 7) hs h
  · have := (hb.dom x i h).2; have := hb.le; omega
theorem l58 {id ver n : Nat} {ex : Bool} {w : Nat → Nat} {fz : Nat} {lv : AV} {l : List Nat} (hid : H[id]? = some (.row ver (bcells n w) fz ex)) (hw : ∀ x, w x < 256) (hv : isL lv l) (hl : l.length < 1000) (h7 : ∀ x ∈ l, x < 7) {R : PQ} :
    ∀ (k i o : Nat), i + k = l.length → o < 256 →
    R (.exit 0) [(0, .ptr id ver 0), (5, .int .u8 ((l.drop i).foldl (fun o x => bor o (w x)) o : Nat)), (10, lv), (11, .int .i64 (l.length : Nat)), (12, .int .i64 (l.length : Nat)), (13, .bool false)] H →
    Wp E base bar (.loop c58_l0) [(0, .ptr id ver 0), (5, .int .u8 (o : Nat)), (10, lv), (11, .int .i64 (l.length : Nat)), (12, .int .i64 (i : Nat))] H R := by
  intro k
  induction k with
  | zero =>
    intro i o hi ho h
    obtain rfl : i = l.length := by omega
    rw [List.drop_length] at h
    rw [wp_round c58_l0.eq_1]
    simp [go_sem]
    exact h
  | succ k ih =>
    intro i o hi ho h
    have hlt : i < l.length := by omega
    have hx := h7 _ (List.getElem_mem hlt)
    rw [List.drop_eq_getElem_cons hlt, List.foldl_cons] at h
    rw [wp_round c58_l0.eq_1]
    simp [go_sem, hlt, hv.ix hlt, hx, loadB hid hx, or_u8 ho (hw _), i64_suc (show i < 1000000 by omega)]
    exact ih (i + 1) _ (by omega) (bor_lt ho (hw _)) h
theorem k58 {id ver n s : Nat} {ex : Bool} {w : Nat → Nat} {fz : Nat} (hid : H[id]? = some (.row ver (bcells n w) fz ex)) (hw : ∀ x, w x < 256) (hs : s < 128) (hb : bar ≤ H.length) (h : Q (.int .u8 (fartS w s : Nat)) H) :
    WpCall E pure base bar 58 [.ptr id ver 0, .int .u8 s] H Q := by
  rw [call58]
  have hb' := bar_ok (pure := pure) hb
  simp [go_sem, WpFun, c58] at hb' ⊢
  refine k71 (by omega) hb' ?_
  have hl := bits_len s
  simp [go_sem, isL.out.len]
  refine l58 hid hw isL.out (by omega) (fun x hx => bit_lt (n := 7) hs (bits_mem.1 hx).2) (bitsOf s).length 0 s (by omega) (by omega) ?_
  rw [List.drop_zero]
  simp [go_sem]
  exact h

/-! 64: all to whom chains lead -/
inductive Rch (w : Nat → Nat) (x : Nat) : Nat → Prop
  | refl : Rch w x x
  | step {y z : Nat} : Rch w x y → (w y).testBit z = true → Rch w x z
theorem Rch.trans {w : Nat → Nat} {x y z : Nat} (h : Rch w x y) (k : Rch w y z) : Rch w x z := by
  induction k with
  | refl => exact h
  | step _ h2 ih => exact .step ih h2
theorem more_bits : ∀ s, s < 128 → ∀ t, t < 128 → band s t = s → s ≠ t → (bitsOf s).length < (bitsOf t).length := by decide +kernel
theorem sub_band {s t : Nat} (h : ∀ y, s.testBit y = true → t.testBit y = true) : band s t = s := by
  apply Nat.eq_of_testBit_eq
  intro i
  rw [testBit_band]
  cases hs : s.testBit i
  · rfl
  · rw [h i hs]; rfl
theorem l64 {id ver n x : Nat} {ex : Bool} {w : Nat → Nat} {fz : Nat} (hid : H[id]? = some (.row ver (bcells n w) fz ex)) (hbd : BoardW n w) (hb : bar ≤ H.length) {R : PQ} :
    ∀ (k s : Nat), (bitsOf s).length + k = 8 → s < 128 → (∀ y, s.testBit y = true → Rch w x y) → s.testBit x = true →
    (∀ t, t < 128 → (∀ y, t.testBit y = true ↔ Rch w x y) → R (.exit 0) [(0, .ptr id ver 0), (5, .int .u8 (t : Nat)), (6, .int .u8 (t : Nat)), (14, .bool false)] H) →
    Wp E base bar (.loop c64_l0) [(0, .ptr id ver 0), (5, .int .u8 (s : Nat)), (6, .int .u8 (fartS w s : Nat))] H R := by
  intro k
  induction k using Nat.strongRecOn with
  | _ k ih =>
    intro s hk hs hr hx h
    have hfl := fart_lt hbd hs
    rw [wp_round c64_l0.eq_1]
    by_cases he : fartS w s = s
    · have := h s hs fun y => ⟨hr y, fun hy => by
        induction hy with
        | refl => exact hx
        | step _ h2 ih2 =>
          rw [← he]
          exact (fart_bit (n := n) hs).2 (.inr ⟨_, ih2, h2⟩)⟩
      simp [go_sem, natEq, he]
      exact this
    · have hlen := more_bits s hs _ hfl (sub_band fun y hy => (fart_bit (n := n) hs).2 (.inl hy)) (Ne.symm he)
      have hl8 := bits_len (fartS w s)
      have next := ih (8 - (bitsOf (fartS w s)).length) (by omega) (fartS w s) (by omega) hfl (fun y hy => by
        rcases (fart_bit (n := n) hs).1 hy with h | ⟨z, hz, h⟩
        · exact hr y h
        · exact .step (hr z hz) h) ((fart_bit (n := n) hs).2 (.inl hx)) h
      simp [go_sem, natEq, he]
      refine k58 hid hbd.lt hfl hb ?_
      simp [go_sem]
      exact next
theorem k64 {id ver n x : Nat} {ex : Bool} {w : Nat → Nat} {fz : Nat} (hid : H[id]? = some (.row ver (bcells n w) fz ex)) (hbd : BoardW n w) (hx : x < 7) (hb : bar ≤ H.length)
    (h : ∀ t, t < 128 → (∀ y, t.testBit y = true ↔ Rch w x y) → Q (.int .u8 (t : Nat)) H) : WpCall E pure base bar 64 [.ptr id ver 0, .int .i64 x] H Q := by
  rw [call64]
  have hb' := bar_ok (pure := pure) hb
  have hp : pw x < 128 := Nat.pow_lt_pow_right (by decide) hx
  have hl := bits_len (pw x)
  simp [go_sem, WpFun, c64, shl_u8 (show x < 8 by omega)] at hb' ⊢
  refine k58 hid hbd.lt hp hb' ?_
  simp [go_sem]
  refine l64 (x := x) hid hbd hb' (8 - (bitsOf (pw x)).length) (pw x) (by omega) hp (fun y hy => ?_) (by simp [testBit_pw]) fun t ht hy => ?_
  · rw [testBit_pw] at hy
    obtain rfl : x = y := by simpa using hy
    exact .refl
  · simp [go_sem]
    exact h t ht hy
/-! 59: all -/
theorem k59 {id ver n : Nat} {ex : Bool} {w : Nat → Nat} {fz : Nat} (hid : H[id]? = some (.row ver (bcells n w) fz ex)) (hn : n ≤ 7) : WpCall E pure base bar 59 [.ptr id ver 0] H Q ↔ Q (.int .u8 ((pw n - 1 : Nat) : Int)) H := by
  have hp : pw n ≤ 128 := Nat.pow_le_pow_right (by decide) hn
  have h1 : 1 ≤ pw n := Nat.one_le_two_pow
  have e : IntKind.u8.wrap (((pw n : Nat) : Int) - 1) = ((pw n - 1 : Nat) : Int) := by
    rw [show ((pw n : Nat) : Int) - 1 = ((pw n - 1 : Nat) : Int) by omega, u8_nat (by omega)]
  generalize hm : pw n - 1 = m at *
  rw [call59]
  simp [go_sem, WpFun, c59, loadBN hid, shl_u8 (show n < 8 by omega), e]
end Go.Proofs.Ytnlebofipoepfaa.Code
end

section
namespace Go.Proofs.Ytnlebofipoepfaa.Code
open Go Go.Ab
variable {pure : Bool} {base bar : Nat} {H : Heap} {Q : AV → Heap → Prop}

/-! 44: the contest of games by numbers -/
/-- the meetings so far, and who beat whom -/
structure MadeTo (n bits a b : Nat) (l : List ZZ) (f : Nat → Nat → Bool) : Prop where
  chk : chkF n [] l = 0
  len : l.length = tri a + b
  beat : ∀ x y, f x y = true ↔ ((x : Int), (y : Int)) ∈ l
  won : ∀ x y, y < x → (x < a ∨ x = a ∧ y < b) → f x y = !bits.testBit (tri x + y) ∧ f y x = bits.testBit (tri x + y)
  out : ∀ x y, y < x → ¬ (x < a ∨ x = a ∧ y < b) → f x y = false ∧ f y x = false
  irr : ∀ x, f x x = false
  nat : ∀ p ∈ l, ∃ x y : Nat, p = ((x : Int), (y : Int))
theorem chkF_snoc {n : Int} {p : ZZ} : ∀ {l b : List ZZ}, chkF n b l = 0 → 0 ≤ p.1 → 0 ≤ p.2 → p.1 < n → p.2 < n → p.1 ≠ p.2 → qin (b ++ l) p.1 p.2 = false → chkF n b (l ++ [p]) = 0
  | [], b, _, h1, h2, h3, h4, h5, h6 => by
    simp only [List.append_nil] at h6
    simp only [List.nil_append, chkF]
    rw [if_neg (by omega), if_neg h5, if_neg (by simp [h6])]
  | o :: r, b, h, h1, h2, h3, h4, h5, h6 => by
    rw [List.cons_append]
    simp only [chkF] at h ⊢
    split at h
    · cases h
    rename_i g1
    split at h
    · cases h
    rename_i g2
    split at h
    · cases h
    rename_i g3
    rw [if_neg g1, if_neg g2, if_neg g3]
    exact chkF_snoc h h1 h2 h3 h4 h5 (by simpa using h6)
theorem qin_mem {l : List ZZ} {a b : Int} : qin l a b = true ↔ (a, b) ∈ l ∨ (b, a) ∈ l := by
  simp only [qin, List.any_eq_true, Bool.or_eq_true, Bool.and_eq_true, beq_iff_eq]
  constructor
  · rintro ⟨⟨x, y⟩, hp, (⟨h1, h2⟩ | ⟨h1, h2⟩)⟩
    · simp only at h1 h2; subst h1 h2; exact .inl hp
    · simp only at h1 h2; subst h1 h2; exact .inr hp
  · rintro (h | h)
    · exact ⟨_, h, .inl ⟨rfl, rfl⟩⟩
    · exact ⟨_, h, .inr ⟨rfl, rfl⟩⟩
theorem MadeTo.zero {n bits : Nat} : MadeTo n bits 0 0 [] (fun _ _ => false) := ⟨rfl, rfl, by simp, fun x y _ h => by omega, fun _ _ _ _ => ⟨rfl, rfl⟩, fun _ => rfl, by simp⟩
theorem MadeTo.put {n bits a b x y : Nat} {l : List ZZ} {f : Nat → Nat → Bool} (h : MadeTo n bits a b l f) (hab : b < a) (han : a < n)
    (hxy : (bits.testBit (tri a + b) = true ∧ x = b ∧ y = a) ∨ (bits.testBit (tri a + b) = false ∧ x = a ∧ y = b)) : MadeTo n bits a (b + 1) (l ++ [((x : Int), (y : Int))]) (upd2 f x y true) := by
  have ho := h.out a b hab (by omega)
  have hno : ((a : Int), (b : Int)) ∉ l ∧ ((b : Int), (a : Int)) ∉ l := ⟨fun hc => (by rw [(h.beat a b).2 hc] at ho; cases ho.1), fun hc => (by rw [(h.beat b a).2 hc] at ho; cases ho.2)⟩
  refine ⟨chkF_snoc h.chk (by omega) (by omega) (by simp only; omega) (by simp only; omega) (by simp only; omega) ?_, by simp [h.len]; omega, fun u v => ?_, fun u v huv hc => ?_, fun u v huv hc => ?_, fun u => ?_, fun p hp => ?_⟩
  · cases hq : qin ([] ++ l) (x : Int) (y : Int)
    · rfl
    · rw [List.nil_append, qin_mem] at hq
      rcases hxy with ⟨_, rfl, rfl⟩ | ⟨_, rfl, rfl⟩
      · rcases hq with hq | hq
        · exact absurd hq hno.2
        · exact absurd hq hno.1
      · rcases hq with hq | hq
        · exact absurd hq hno.1
        · exact absurd hq hno.2
  · unfold upd2
    rw [List.mem_append, List.mem_singleton, Prod.mk.injEq]
    split
    · rename_i he; obtain ⟨rfl, rfl⟩ := he; simp
    · rename_i he
      rw [h.beat]
      constructor
      · exact .inl
      · rintro (hm | ⟨h1, h2⟩)
        · exact hm
        · exact absurd ⟨by omega, by omega⟩ he
  · unfold upd2
    by_cases he : u = a ∧ v = b
    · obtain ⟨rfl, rfl⟩ := he
      rcases hxy with ⟨hb, rfl, rfl⟩ | ⟨hb, rfl, rfl⟩
      · rw [if_neg (by omega), if_pos ⟨rfl, rfl⟩, hb, ho.1]; exact ⟨rfl, rfl⟩
      · rw [if_pos ⟨rfl, rfl⟩, if_neg (by omega), hb, ho.2]; exact ⟨rfl, rfl⟩
    · rw [if_neg (by rcases hxy with ⟨_, rfl, rfl⟩ | ⟨_, rfl, rfl⟩ <;> omega), if_neg (by rcases hxy with ⟨_, rfl, rfl⟩ | ⟨_, rfl, rfl⟩ <;> omega)]
      exact h.won u v huv (by omega)
  · unfold upd2
    rw [if_neg (by rcases hxy with ⟨_, rfl, rfl⟩ | ⟨_, rfl, rfl⟩ <;> omega), if_neg (by rcases hxy with ⟨_, rfl, rfl⟩ | ⟨_, rfl, rfl⟩ <;> omega)]
    exact h.out u v huv (by omega)
  · unfold upd2
    rw [if_neg (by rcases hxy with ⟨_, rfl, rfl⟩ | ⟨_, rfl, rfl⟩ <;> omega)]
    exact h.irr u
  · rcases List.mem_append.1 hp with hp | hp
    · exact h.nat p hp
    · rw [List.mem_singleton] at hp; exact ⟨x, y, hp⟩
theorem MadeTo.next {n bits a : Nat} {l : List ZZ} {f : Nat → Nat → Bool} (h : MadeTo n bits a a l f) : MadeTo n bits (a + 1) 0 l f :=
  ⟨h.chk, by rw [h.len]; simp [tri], h.beat, fun x y hxy hc => h.won x y hxy (by omega), fun x y hxy hc => h.out x y hxy (by omega), h.irr, h.nat⟩
/-- the contest of games, and who beat whom -/
structure MadeC (n bits : Nat) (l : List ZZ) (f : Nat → Nat → Bool) : Prop where
  le : n ≤ 7
  pos : 1 ≤ n
  chk : chkF n [] l = 0
  len : l.length = halfN n
  beat : ∀ x y, f x y = true ↔ ((x : Int), (y : Int)) ∈ l
  won : ∀ x y, y < x → x < n → f x y = !bits.testBit (tri x + y) ∧ f y x = bits.testBit (tri x + y)
  dom : ∀ x y, f x y = true → x < n ∧ y < n
  irr : ∀ x, f x x = false
  nat : ∀ p ∈ l, ∃ x y : Nat, p = ((x : Int), (y : Int))
theorem tri_half : ∀ n, n ≤ 7 → tri n = halfN n := by decide
theorem MadeTo.done {n bits : Nat} {l : List ZZ} {f : Nat → Nat → Bool} (h : MadeTo n bits n 0 l f) (h1 : 1 ≤ n) (h7 : n ≤ 7) : MadeC n bits l f :=
  ⟨h7, h1, h.chk, by rw [h.len, ← tri_half n h7]; rfl, h.beat, fun x y hxy hx => h.won x y hxy (by omega), fun x y hb => by
    rcases Nat.lt_trichotomy x y with hlt | heq | hlt
    · have hy : y < n := by
        apply Decidable.byContradiction
        intro hc
        rw [(h.out y x hlt (by omega)).2] at hb; cases hb
      omega
    · subst heq; rw [h.irr] at hb; cases hb
    · have hx : x < n := by
        apply Decidable.byContradiction
        intro hc
        rw [(h.out x y hlt (by omega)).1] at hb; cases hb
      omega, h.irr, h.nat⟩
theorem MadeC.one {n bits : Nat} {l : List ZZ} {f : Nat → Nat → Bool} (h : MadeC n bits l f) {x y : Nat} (hx : x < n) (hy : y < n) (hne : x ≠ y) : f x y = !f y x := by
  rcases Nat.lt_or_gt_of_ne hne with hlt | hlt
  · obtain ⟨h1, h2⟩ := h.won y x hlt hy
    rw [h1, h2]; simp
  · obtain ⟨h1, h2⟩ := h.won x y hlt hx
    rw [h1, h2]
theorem MadeC.check {n bits : Nat} {l : List ZZ} {f : Nat → Nat → Bool} (h : MadeC n bits l f) : checkS (n : Int) l = 0 := by
  have := h.le; have := h.pos
  unfold checkS
  rw [if_pos (by simp [within]; omega), if_pos h.chk, Int.toNat_natCast, if_neg (by rw [h.len]; omega)]
end Go.Proofs.Ytnlebofipoepfaa.Code
end

section
namespace Go.Proofs.Ytnlebofipoepfaa.Code
open Go Go.Ab
variable {pure : Bool} {base bar : Nat} {H : Heap} {Q : AV → Heap → Prop}

theorem grow_slot {cells : List AV} {H0 : Heap} {v : AV} (g : Grow 2 cells H0 v H) : v.isTup = false ∧ v.cells = [v] := by
  rcases g with ⟨_, rfl, _⟩ | ⟨_, _, _, _, rfl, _⟩ <;> exact ⟨rfl, rfl⟩
/-- five blocks: the row that came in, two results, the contest, who beat whom -/
def HM (H : Heap) (r : List AV) (n : Nat) (v : AV) (f : Nat → Nat → Bool) : Heap :=
  H ++ [.row 0 r 0 true, .row 0 [.int .i64 0, .nils] 0 true, .row 0 (gcells fun _ _ => false) 0 true, .row 0 [.int .i64 (n : Int), v] 0 true, .row 0 (gcells f) 0 true]
theorem HM_len {r : List AV} {n : Nat} {v : AV} {f : Nat → Nat → Bool} : (HM H r n v f).length = H.length + 5 := by simp [HM]
theorem HM_r {r : List AV} {n : Nat} {v : AV} {f : Nat → Nat → Bool} : (HM H r n v f)[H.length]? = some (.row 0 r 0 true) := by simp [HM, own_get0]
theorem HM_1 {r : List AV} {n : Nat} {v : AV} {f : Nat → Nat → Bool} : (HM H r n v f)[H.length + 1]? = some (.row 0 [.int .i64 0, .nils] 0 true) := by simp [HM, own_get]
theorem HM_2 {r : List AV} {n : Nat} {v : AV} {f : Nat → Nat → Bool} : (HM H r n v f)[H.length + 2]? = some (.row 0 (gcells fun _ _ => false) 0 true) := by simp [HM, own_get]
theorem HM_h {r : List AV} {n : Nat} {v : AV} {f : Nat → Nat → Bool} : (HM H r n v f)[H.length + 3]? = some (.row 0 [.int .i64 (n : Int), v] 0 true) := by simp [HM, own_get]
theorem HM_f {r : List AV} {n : Nat} {v : AV} {f : Nat → Nat → Bool} : (HM H r n v f)[H.length + 4]? = some (.row 0 (gcells f) 0 true) := by simp [HM, own_get]
theorem HM_seth {r : List AV} {n : Nat} {v v' : AV} {f : Nat → Nat → Bool} : (HM H r n v f).set (H.length + 3) (.row 0 [.int .i64 (n : Int), v'] 0 true) = HM H r n v' f := by simp [HM, own_set]
theorem HM_setf {r : List AV} {n : Nat} {v : AV} {f f' : Nat → Nat → Bool} : (HM H r n v f).set (H.length + 4) (.row 0 (gcells f') 0 true) = HM H r n v f' := by simp [HM, own_set]

theorem l44a {n bits a : Nat} {p : AV} {H0 : Heap} (hbits : bits < 4294967296) (hn : n ≤ 7) (ha : a < n) (hbar : bar ≤ H0.length) {R : PQ} :
    ∀ (k b : Nat), b + k = a → ∀ (l : List ZZ) (f : Nat → Nat → Bool) (v : AV) (Hc : Heap), MadeTo n bits a b l f → Grow 2 (prs l) (HM H0 [p, .int .u32 (bits : Nat)] n v f) v Hc →
    (∀ l' f' v' Hc', MadeTo n bits a a l' f' → Grow 2 (prs l') (HM H0 [p, .int .u32 (bits : Nat)] n v' f') v' Hc' →
      R (.exit 2) [(2, .ptr H0.length 0 0), (4, .ptr (H0.length + 1) 0 0), (5, .ptr (H0.length + 2) 0 0), (6, .ptr (H0.length + 3) 0 0), (7, .ptr (H0.length + 4) 0 0), (8, .int .i64 ((tri a + a : Nat) : Int)), (21, .int .i64 (n : Nat)), (22, .int .i64 (a : Nat)), (9, .int .i64 (a : Nat)), (25, .int .i64 (a : Nat)), (26, .int .i64 (a : Nat)), (27, .bool false)] Hc') →
    Wp E H0.length bar (.loop c44_l0) [(2, .ptr H0.length 0 0), (4, .ptr (H0.length + 1) 0 0), (5, .ptr (H0.length + 2) 0 0), (6, .ptr (H0.length + 3) 0 0), (7, .ptr (H0.length + 4) 0 0), (8, .int .i64 ((tri a + b : Nat) : Int)), (21, .int .i64 (n : Nat)), (22, .int .i64 (a : Nat)), (9, .int .i64 (a : Nat)), (25, .int .i64 (a : Nat)), (26, .int .i64 (b : Nat))] Hc R := by
  intro k
  induction k with
  | zero =>
    intro b hb l f v Hc hm g h
    obtain rfl : b = a := by omega
    rw [wp_round c44_l0.eq_1]
    simp [go_sem]
    exact_mod_cast h l f v Hc hm g
  | succ k ih =>
    intro b hb l f v Hc hm g h
    have hlt : b < a := by omega
    have ht : tri a + b < 28 := by have := tri_le (a + 1) (by omega); simp only [tri] at this; omega
    have hll := hm.len
    have lb : aload Hc ⟨false, 1⟩ (.ptr H0.length 0 1) = some (.int .u32 (bits : Nat)) := by rw [aload_ptr (g.get HM_r)]; rfl
    have lv : aload Hc ⟨false, 1⟩ (.ptr (H0.length + 3) 0 1) = some v := by rw [aload_ptr (g.get HM_h)]; rfl
    have hgl := g.len
    rw [HM_len] at hgl
    have e1 : abin .shr (.int .u32 (bits : Int)) (.int .i64 ((tri a : Int) + (b : Int))) = some (.int .u32 ((shrN bits (tri a + b) : Nat) : Int)) := by
      have := shr_u32 (a := bits) (b := tri a + b) (by omega)
      rwa [Int.natCast_add] at this
    have e2 := and_u32_one (a := shrN bits (tri a + b)) (Nat.lt_of_le_of_lt shrN_le hbits)
    rw [shrN_bit] at e2
    have e4 : IntKind.i64.wrap ((tri a : Int) + (b : Int) + 1) = (tri a : Int) + ((b : Int) + 1) := by
      have := i64_suc (i := tri a + b) (by omega)
      rw [Int.natCast_add] at this
      rw [this]; omega
    rw [wp_round c44_l0.eq_1]
    have key : ∀ x y : Nat, x < 7 → y < 7 → ((bits.testBit (tri a + b) = true ∧ x = b ∧ y = a) ∨ (bits.testBit (tri a + b) = false ∧ x = a ∧ y = b)) → ∀ v' H', Grow 2 (prs (l ++ [((x : Int), (y : Int))])) (HM H0 [p, .int .u32 (bits : Nat)] n v f) v' H' →
        (H'.set (H0.length + 3) (.row 0 [.int .i64 (n : Int), v'] 0 true))[H0.length + 4]? = some (.row 0 (gcells f) 0 true) ∧
        Wp E H0.length bar (.loop c44_l0) [(2, .ptr H0.length 0 0), (4, .ptr (H0.length + 1) 0 0), (5, .ptr (H0.length + 2) 0 0), (6, .ptr (H0.length + 3) 0 0), (7, .ptr (H0.length + 4) 0 0), (8, .int .i64 ((tri a : Int) + ((b : Int) + 1))), (21, .int .i64 (n : Nat)), (22, .int .i64 (a : Nat)), (9, .int .i64 (a : Nat)), (25, .int .i64 (a : Nat)), (26, .int .i64 ((b : Int) + 1))]
          ((H'.set (H0.length + 3) (.row 0 [.int .i64 (n : Int), v'] 0 true)).set (H0.length + 4) (.row 0 (gcells (upd2 f x y true)) 0 true)) R := fun x y hx hy hxy v' H' g' => by
      have g2 := g'.set (i := H0.length + 3) (b := .row 0 [.int .i64 (n : Int), v'] 0 true) (by rw [HM_len]; omega)
      rw [HM_seth] at g2
      have g3 := g2.set (i := H0.length + 4) (b := .row 0 (gcells (upd2 f x y true)) 0 true) (by rw [HM_len]; omega)
      rw [HM_setf] at g3
      refine ⟨g2.get HM_f, ?_⟩
      have := ih (b + 1) (by omega) _ _ v' _ (hm.put hlt ha hxy) g3 h
      exact_mod_cast this
    cases hc : bits.testBit (tri a + b)
    · rw [hc] at e2
      simp [go_sem, hlt, lb, e1, e2, lv, aop, fillA, setCells, chunks]
      refine g.pair (p := ((a : Int), (b : Int))) (by rw [HM_len]; omega) (by rw [HM_len]; omega) (by omega) fun v' H' tc g' => ?_
      obtain ⟨s1, s2⟩ := grow_slot g'
      obtain ⟨k1, k2⟩ := key a b (by omega) (by omega) (.inr ⟨hc, rfl, rfl⟩) v' H' g'
      simp [go_sem]
      rw [storeWp_ptr (size := 1) (g'.get HM_h) s1 (by rw [s2]; rfl) (by omega) (by simp) (by omega) (.inl (by omega))]
      simp [go_sem, s2, show a < 7 by omega, show b < 7 by omega]
      rw [storeG k1 (by omega) (by omega) (by omega)]
      simp [go_sem, e4, i64_suc (show b < 1000000 by omega)]
      exact k2
    · rw [hc] at e2
      simp [go_sem, hlt, lb, e1, e2, lv, aop, fillA, setCells, chunks]
      refine g.pair (p := ((b : Int), (a : Int))) (by rw [HM_len]; omega) (by rw [HM_len]; omega) (by omega) fun v' H' tc g' => ?_
      obtain ⟨s1, s2⟩ := grow_slot g'
      obtain ⟨k1, k2⟩ := key b a (by omega) (by omega) (.inl ⟨hc, rfl, rfl⟩) v' H' g'
      simp [go_sem]
      rw [storeWp_ptr (size := 1) (g'.get HM_h) s1 (by rw [s2]; rfl) (by omega) (by simp) (by omega) (.inl (by omega))]
      simp [go_sem, s2, show a < 7 by omega, show b < 7 by omega]
      rw [storeG k1 (by omega) (by omega) (by omega)]
      simp [go_sem, e4, i64_suc (show b < 1000000 by omega)]
      exact k2

theorem l44 {n bits : Nat} {p : AV} {H0 : Heap} (hbits : bits < 4294967296) (hn : n ≤ 7) (hbar : bar ≤ H0.length) {R : PQ} :
    ∀ (k a : Nat), a + k = n → ∀ (l : List ZZ) (f : Nat → Nat → Bool) (v : AV) (Hc : Heap), MadeTo n bits a 0 l f → Grow 2 (prs l) (HM H0 [p, .int .u32 (bits : Nat)] n v f) v Hc →
    (∀ l' f' v' Hc', MadeTo n bits n 0 l' f' → Grow 2 (prs l') (HM H0 [p, .int .u32 (bits : Nat)] n v' f') v' Hc' →
      R (.exit 0) [(2, .ptr H0.length 0 0), (4, .ptr (H0.length + 1) 0 0), (5, .ptr (H0.length + 2) 0 0), (6, .ptr (H0.length + 3) 0 0), (7, .ptr (H0.length + 4) 0 0), (8, .int .i64 ((tri n : Nat) : Int)), (21, .int .i64 (n : Nat)), (22, .int .i64 (n : Nat)), (23, .bool false)] Hc') →
    Wp E H0.length bar (.loop c44_l1) [(2, .ptr H0.length 0 0), (4, .ptr (H0.length + 1) 0 0), (5, .ptr (H0.length + 2) 0 0), (6, .ptr (H0.length + 3) 0 0), (7, .ptr (H0.length + 4) 0 0), (8, .int .i64 ((tri a : Nat) : Int)), (21, .int .i64 (n : Nat)), (22, .int .i64 (a : Nat))] Hc R := by
  intro k
  induction k with
  | zero =>
    intro a ha l f v Hc hm g h
    obtain rfl : a = n := by omega
    rw [wp_round c44_l1.eq_1]
    simp [go_sem]
    exact h l f v Hc hm g
  | succ k ih =>
    intro a ha l f v Hc hm g h
    have hlt : a < n := by omega
    rw [wp_round c44_l1.eq_1]
    simp [go_sem, hlt]
    refine l44a hbits hn hlt hbar a 0 (by omega) l f v Hc hm g fun l' f' v' Hc' hm' g' => ?_
    have := ih (a + 1) (by omega) l' f' v' Hc' hm'.next g' h
    simp [go_sem, i64_suc (show a < 1000000 by omega)]
    simpa [tri] using this

theorem k44 {p bits most n : Nat} (hp : p < 256) (hbits : bits < 4294967296) (h1 : 1 ≤ most) (h7 : most ≤ 7) (hbar : bar ≤ H.length) (hn : n = 1 + p % most)
    (h : ∀ q l f, isP q l → MadeC n bits l f → Q (.tup [.agg [.int .i64 (n : Nat), q], .agg (gcells f)]) H) :
    WpCall E pure base bar 44 [.agg [.int .u8 (p : Nat), .int .u32 (bits : Nat)], .int .i64 (most : Nat)] H Q := by
  rw [call44]
  have hb' := bar_ok (pure := pure) hbar
  have hm : (p : Int).tmod (most : Int) = (p : Int) % (most : Int) := Go.IntWalk.rem_in _ _ (by omega)
  have hmod : p % most < most := Nat.mod_lt _ (by omega)
  have hw : IntKind.i64.wrap (1 + (p : Int) % (most : Int)) = (n : Int) := by
    rw [show (1 : Int) + (p : Int) % (most : Int) = (n : Int) by rw [hn]; simp, i64_nat (by omega)]
  simp [go_sem, WpFun, c44] at hb' ⊢
  generalize (if pure = true then H.length else bar) = bar' at hb' ⊢
  simp [go_sem, aload, own_get0, own_get, Ab.part, i64_nat (show p < 9223372036854775808 by omega), abin_rem (show (most : Int) ≠ 0 by omega), hm, hw, storeWp, astore, own_set, setCells, show bar' ≤ H.length + 3 by omega]
  refine l44 hbits (show n ≤ 7 by omega) hb' n 0 (by omega) [] _ .nils _ .zero .nil fun l f v Hc hmade g => ?_
  obtain ⟨s1, s2⟩ := grow_slot g
  simp [go_sem, aload_ptr (g.get HM_h), loadGG (g.get HM_f)]
  have hm1 := hmade.done (by omega) (by omega)
  rw [storeWp_ptr (size := 2) (g.get HM_1) rfl rfl (by omega) (by simp) (by omega) (.inl (by omega))]
  have g2 := g.set (i := H.length + 1) (b := .row 0 [.int .i64 (n : Int), v] 0 true) (by rw [HM_len]; omega)
  have e2 : ((HM H [.int .u8 (p : Int), .int .u32 (bits : Int)] n v f).set (H.length + 1) (.row 0 [.int .i64 (n : Int), v] 0 true))[H.length + 2]? = some (.row 0 (gcells (fun _ _ => false)) 0 true) := by simp [HM, own_set, own_get]
  simp [go_sem]
  rw [storeGG (g2.get e2) (by omega)]
  have g3 := g2.set (i := H.length + 2) (b := .row 0 (gcells f) 0 true) (by simp [HM_len])
  have e3 : (((HM H [.int .u8 (p : Int), .int .u32 (bits : Int)] n v f).set (H.length + 1) (.row 0 [.int .i64 (n : Int), v] 0 true)).set (H.length + 2) (.row 0 (gcells f) 0 true))[H.length + 1]? = some (.row 0 [.int .i64 (n : Int), v] 0 true) := by simp [HM, own_set, own_get]
  have e4 : (((HM H [.int .u8 (p : Int), .int .u32 (bits : Int)] n v f).set (H.length + 1) (.row 0 [.int .i64 (n : Int), v] 0 true)).set (H.length + 2) (.row 0 (gcells f) 0 true))[H.length + 2]? = some (.row 0 (gcells f) 0 true) := by simp [HM, own_set, own_get]
  have hl3 : (((HM H [.int .u8 (p : Int), .int .u32 (bits : Int)] n v f).set (H.length + 1) (.row 0 [.int .i64 (n : Int), v] 0 true)).set (H.length + 2) (.row 0 (gcells f) 0 true)).length = H.length + 5 := by simp [HM_len]
  obtain ⟨H2, f1, f2, f3, f4⟩ := g3.frz (d := 4) (bar := bar') (by decide) ⟨_, prs_length⟩ prs_plain (by rw [hl3]; omega)
  have e5 : H2.take H.length = H := by
    have := congrArg (List.take H.length) f4
    rw [List.take_take, hl3, Nat.min_eq_left (by omega)] at this
    rw [this]; simp [HM, own_set]
  rw [show 4 + 3 = 7 from rfl] at f1
  simp [go_sem, aload_ptr (g3.get e3), loadGG (g3.get e4), f1]
  rw [plains (d := 5) gcells_plain]
  simp [go_sem, isP.out.top, e5]
  exact h _ l f isP.out hm1
end Go.Proofs.Ytnlebofipoepfaa.Code
end

section
namespace Go.Proofs.Ytnlebofipoepfaa.Code
open Go Go.Ab
variable {pure : Bool} {base bar : Nat} {H : Heap} {Q : AV → Heap → Prop}

/-! 56: the board of a contest, or its error -/
def winW (w : Nat → Nat) (p : ZZ) : Nat → Nat := upd w p.1.toNat (bor (w p.1.toNat) (pw p.2.toNat))
def boardF (l : List ZZ) (w : Nat → Nat) : Nat → Nat := l.foldl winW w
theorem chkF_valid {n : Int} : ∀ {l b : List ZZ}, chkF n b l = 0 → ∀ p ∈ l, 0 ≤ p.1 ∧ 0 ≤ p.2 ∧ p.1 < n ∧ p.2 < n ∧ p.1 ≠ p.2
  | [], _, _, p, hp => by simp at hp
  | o :: r, b, h, p, hp => by
    simp only [chkF] at h
    split at h
    · cases h
    rename_i g1
    split at h
    · cases h
    rename_i g2
    split at h
    · cases h
    rcases List.mem_cons.1 hp with rfl | hp
    · exact ⟨by omega, by omega, by omega, by omega, g2⟩
    · exact chkF_valid h p hp
theorem winW_lt {w : Nat → Nat} {p : ZZ} (hw : ∀ x, w x < 256) (h2 : p.2.toNat < 8) : ∀ x, winW w p x < 256 := upd_lt hw (bor_lt (hw _) (pw_lt h2))
theorem winW_bit {w : Nat → Nat} {a b x y : Nat} : (winW w ((a : Int), (b : Int)) x).testBit y = ((w x).testBit y || (decide (x = a) && decide (y = b))) := by
  unfold winW upd
  simp only [Int.toNat_natCast]
  split
  · rename_i h; subst h
    rw [testBit_bor, testBit_pw]; simp [eq_comm]
  · rename_i h; simp [h]
theorem boardF_bit : ∀ {l : List ZZ} {w : Nat → Nat} {x y : Nat}, (∀ p ∈ l, 0 ≤ p.1 ∧ 0 ≤ p.2) → ((boardF l w x).testBit y = true ↔ (w x).testBit y = true ∨ ((x : Int), (y : Int)) ∈ l)
  | [], w, x, y, _ => by simp [boardF]
  | (a, b) :: r, w, x, y, h => by
    obtain ⟨h1, h2⟩ := h (a, b) (List.mem_cons_self ..)
    obtain ⟨a, rfl⟩ := Int.eq_ofNat_of_zero_le h1
    obtain ⟨b, rfl⟩ := Int.eq_ofNat_of_zero_le h2
    have e : boardF (((a : Int), (b : Int)) :: r) w = boardF r (winW w ((a : Int), (b : Int))) := rfl
    rw [e, boardF_bit fun p hp => h p (List.mem_cons_of_mem _ hp), winW_bit, List.mem_cons, Prod.mk.injEq]
    simp only [Bool.or_eq_true, Bool.and_eq_true, decide_eq_true_eq]
    constructor
    · rintro ((h | ⟨h1, h2⟩) | h)
      · exact .inl h
      · exact .inr (.inl ⟨by omega, by omega⟩)
      · exact .inr (.inr h)
    · rintro (h | ⟨h1, h2⟩ | h)
      · exact .inl (.inl h)
      · exact .inl (.inr ⟨by omega, by omega⟩)
      · exact .inr h
theorem leave1_nil {e : Int} : leave 1 base bar [.nilp, .int .i64 e] H = some (.tup [.nilp, .int .i64 e], H.take base) := by
  have h2 : frzAll bar H [.nilp, .int .i64 e] = some ([.nilp, .int .i64 e], H) := rfl
  simp only [leave, h2]
  simp [firstOwn, AV.top.tops, AV.top, tupled]
theorem leave1_ptr {id ver n fz : Nat} {ex : Bool} {w : Nat → Nat} {e : Int} (hid : H[id]? = some (.row ver (bcells n w) fz ex)) (hb : base ≤ id) :
    leave 1 base bar [.ptr id ver 0, .int .i64 e] H = some (.tup [.ptr base ver 0, .int .i64 e], H.take base ++ [.row ver (bcells n w) fz ex]) := by
  have h1 : frzAll bar H (bcells n w) = some (bcells n w, H) := by
    simp only [frzAll, frz.frzs]
    exact plains (d := 6) bcells_plain
  have h2 : frzAll bar H [.ptr id ver 0, .int .i64 e] = some ([.ptr id ver 0, .int .i64 e], H) := rfl
  simp only [leave, h2]
  simp [firstOwn, hb, hid, h1, bcells_tops, movable, AV.top, moveP, tupled]

theorem l56 {n : Nat} {q : AV} {l : List ZZ} (hq : isP q l) (hl : l.length < 1000) (hv : ∀ p ∈ l, 0 ≤ p.1 ∧ 0 ≤ p.2 ∧ p.1 < 7 ∧ p.2 < 7) (hbar : bar ≤ H.length) {R : PQ} :
    ∀ (k i : Nat) (w : Nat → Nat), i + k = l.length → (∀ x, w x < 256) →
    (R (.exit 0) [(5, .ptr (H.length + 1) 0 0), (18, q), (19, .int .i64 (l.length : Nat)), (20, .int .i64 (l.length : Nat)), (21, .bool false)] (H ++ [.row 0 [.int .i64 (n : Nat), q] 0 true, .row 0 (bcells n (boardF (l.drop i) w)) 0 true])) →
    Wp E H.length bar (.loop c56_l0) [(5, .ptr (H.length + 1) 0 0), (18, q), (19, .int .i64 (l.length : Nat)), (20, .int .i64 (i : Nat))] (H ++ [.row 0 [.int .i64 (n : Nat), q] 0 true, .row 0 (bcells n w) 0 true]) R := by
  intro k
  induction k with
  | zero =>
    intro i w hi hw h
    obtain rfl : i = l.length := by omega
    rw [List.drop_length] at h
    rw [wp_round c56_l0.eq_1]
    simp [go_sem]
    exact h
  | succ k ih =>
    intro i w hi hw h
    have hlt : i < l.length := by omega
    rw [List.drop_eq_getElem_cons hlt] at h
    obtain ⟨⟨a, b⟩, hp⟩ : ∃ p, l[i] = p := ⟨_, rfl⟩
    rw [hp] at h
    obtain ⟨h1, h2, h3, h4⟩ := hv (a, b) (by rw [← hp]; exact List.getElem_mem hlt)
    simp only at h1 h2 h3 h4
    obtain ⟨a, rfl⟩ := Int.eq_ofNat_of_zero_le h1
    obtain ⟨b, rfl⟩ := Int.eq_ofNat_of_zero_le h2
    have ha : a < 7 := by omega
    have hb : b < 8 := by omega
    have e : boardF (((a : Int), (b : Int)) :: l.drop (i + 1)) w = boardF (l.drop (i + 1)) (upd w a (bor (w a) (pw b))) := rfl
    rw [e] at h
    have hid : ∀ L : Heap, (H ++ (.row 0 [.int .i64 (n : Nat), q] 0 true :: .row 0 (bcells n w) 0 true :: L))[H.length + 1]? = some (.row 0 (bcells n w) 0 true) := fun L => by simp [own_get]
    have next := ih (i + 1) _ (by omega) (upd_lt (i := a) hw (bor_lt (hw a) (pw_lt hb))) h
    rw [wp_round c56_l0.eq_1]
    have ld : ∀ L : Heap, aload (H ++ (.row 0 [.int .i64 (n : Nat), q] 0 true :: .row 0 (bcells n w) 0 true :: L)) ⟨false, 1⟩ (.ptr (H.length + 1) 0 (1 + a)) = some (.int .u8 ((w a : Nat) : Int)) := fun L => loadB (hid L) ha
    have st : ∀ (L : Heap) (K : AV → Heap → List Nat → Prop) (bs : Nat), storeWp bs bar 1 (.ptr (H.length + 1) 0 (1 + a)) (.int .u8 ((bor (w a) (pw b) : Nat) : Int)) (H ++ (.row 0 [.int .i64 (n : Nat), q] 0 true :: .row 0 (bcells n w) 0 true :: L)) K
        = K (.tup []) (H ++ (.row 0 [.int .i64 (n : Nat), q] 0 true :: .row 0 (bcells n (upd w a (bor (w a) (pw b)))) 0 true :: L)) [H.length + 1] := fun L K bs => by
      rw [storeB (hid L) ha (by omega), own_set]; rfl
    have l2 : ∀ (X Y : Blk), aload (H ++ [X, Y, .row 0 [.int .i64 (a : Int), .int .i64 (b : Int)] 0 true]) ⟨false, 1⟩ (.ptr (H.length + 2) 0 0) = some (.int .i64 (a : Nat)) := fun X Y => by simp [aload, own_get, Ab.part]
    have l3 : ∀ (X Y : Blk), aload (H ++ [X, Y, .row 0 [.int .i64 (a : Int), .int .i64 (b : Int)] 0 true]) ⟨false, 1⟩ (.ptr (H.length + 2) 0 1) = some (.int .i64 (b : Nat)) := fun X Y => by simp [aload, own_get, Ab.part]
    have s2 : ∀ (X Y : Blk) (K : AV → Heap → List Nat → Prop) (bs : Nat), storeWp bs bar 2 (.ptr (H.length + 2) 0 0) (.agg [.int .i64 (a : Int), .int .i64 (b : Int)]) (H ++ [X, Y, .row 0 [.int .i64 0, .int .i64 0] 0 true]) K
        = K (.tup []) (H ++ [X, Y, .row 0 [.int .i64 (a : Int), .int .i64 (b : Int)] 0 true]) [H.length + 2] := fun X Y K bs => by
      simp [storeWp, astore, own_get, own_set, setCells, show bar ≤ H.length + 2 by omega, AV.isTup, AV.cells, AV.top.tops, AV.top]
    have lf : aload (H ++ [Blk.row 0 [.int .i64 (n : Nat), q] 0 true, .row 0 (bcells n w) 0 true]) ⟨true, 2⟩ (.fp (.agg [.int .i64 (a : Int), .int .i64 (b : Int)])) = some (.agg [.int .i64 (a : Int), .int .i64 (b : Int)]) := by simp [aload]
    simp [go_sem, hlt, hq.ix hlt, hp, zc, lf]
    rw [s2]
    simp [go_sem, l2, l3, ha, ld, shl_u8 hb, or_u8 (hw a) (pw_lt hb)]
    rw [st]
    simp [go_sem, hq.top, i64_suc (show i < 1000000 by omega)]
    exact next
theorem k56 {n : Int} {q : AV} {l : List ZZ} (hq : isP q l) (hl : l.length < 1000) (hbar : bar ≤ H.length)
    (h1 : checkS n l ≠ 0 → Q (.tup [.nilp, .int .i64 (checkS n l)]) H)
    (h2 : ∀ m : Nat, n = m → 1 ≤ m → m ≤ 7 → checkS n l = 0 → Q (.tup [.ptr H.length 0 0, .int .i64 0]) (H ++ [.row 0 (bcells m (boardF l fun _ => 0)) 0 true])) :
    WpCall E false base bar 56 [.agg [.int .i64 n, q]] H Q := by
  rw [call56]
  have lh : aload (H ++ [Blk.row 0 [.int .i64 n, q] 0 true]) ⟨true, 2⟩ (.ptr H.length 0 0) = some (.agg [.int .i64 n, q]) := by simp [aload, own_get0, Ab.part]
  have ln : aload (H ++ [Blk.row 0 [.int .i64 n, q] 0 true]) ⟨false, 1⟩ (.ptr H.length 0 0) = some (.int .i64 n) := by simp [aload, own_get0, Ab.part]
  simp [go_sem, WpFun, c56, hq.frz, lh]
  refine k23 hq hl (by simp; omega) ?_
  by_cases hc : checkS n l = 0
  · rw [hc]
    have hr : within 1 7 n = true := by
      unfold checkS at hc
      split at hc
      · assumption
      · cases hc
    have hchk : chkF n [] l = 0 := by
      unfold checkS at hc
      rw [if_pos hr] at hc
      split at hc
      · assumption
      · exact hc
    simp [within] at hr
    obtain ⟨n, rfl⟩ := Int.eq_ofNat_of_zero_le (show 0 ≤ n by omega)
    have hv := chkF_valid hchk
    have e0 : [AV.int .i64 (n : Int), .int .u8 0, .int .u8 0, .int .u8 0, .int .u8 0, .int .u8 0, .int .u8 0, .int .u8 0] = bcells n (fun _ => 0) := rfl
    have lq : ∀ L : Heap, aload (H ++ (Blk.row 0 [.int .i64 (n : Int), q] 0 true :: L)) ⟨false, 1⟩ (.ptr H.length 0 1) = some q := fun L => by simp [aload, own_get0, Ab.part]
    simp [go_sem, ln, fillA, setCells, lq, hq.len]
    rw [e0]
    refine l56 hq hl (fun p hp => by have := hv p hp; omega) hbar l.length 0 (fun _ => 0) (by omega) (fun _ => by decide) ?_
    rw [List.drop_zero]
    simp [go_sem]
    rw [leave1_ptr (id := H.length + 1) (n := n) (w := boardF l fun _ => 0) (fz := 0) (ex := true) (by simp [own_get]) (by omega)]
    simp [go_sem]
    exact h2 n rfl (by omega) (by omega) hc
  · simp [go_sem, hc, leave1_nil]
    exact h1 hc
theorem MadeC.board {n bits : Nat} {l : List ZZ} {f : Nat → Nat → Bool} (h : MadeC n bits l f) : BoardW n (boardF l fun _ => 0) ∧ ∀ x y, (boardF l (fun _ => 0) x).testBit y = f x y := by
  have hv := chkF_valid h.chk
  have hb : ∀ x y, (boardF l (fun _ => 0) x).testBit y = f x y := fun x y => by
    rw [Bool.eq_iff_iff, boardF_bit fun p hp => by have := hv p hp; exact ⟨this.1, this.2.1⟩, h.beat]
    simp
  have hlt : ∀ (r : List ZZ) (w : Nat → Nat), (∀ x, w x < 256) → (∀ p ∈ r, p.2.toNat < 8) → ∀ x, boardF r w x < 256 := by
    intro r
    induction r with
    | nil => intro w hw _; exact hw
    | cons p r ih =>
      intro w hw hp
      exact ih (winW w p) (winW_lt hw (hp p (List.mem_cons_self ..))) fun q hq => hp q (List.mem_cons_of_mem _ hq)
  have h7 := h.le
  exact ⟨⟨h.le, hlt l _ (fun _ => by decide) fun p hp => by have := hv p hp; omega, fun x y hxy => h.dom x y (by rw [← hb]; exact hxy), fun x => by rw [hb]; exact h.irr x, fun x y hx hy hne => by rw [hb, hb]; exact h.one hx hy hne⟩, hb⟩
end Go.Proofs.Ytnlebofipoepfaa.Code
end
