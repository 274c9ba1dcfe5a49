/-
  Parts of the proofs about this chapter, joined: rules, contracts of functions and plain laws.
-/
import Derived.Test.YthoogegclpiefaaCall
import Derived.Test.YthoogegclpiefaaAbO
set_option linter.all false
section
namespace Go.Proofs.Ythoogegclpiefaa.Code
open Go Go.Ab
attribute [go_sem ↓] wpop_app
variable {pure : Bool} {base bar : Nat} {H : Heap} {Q : AV → Heap → Prop}

/-- is a number from a to b -/
def within (a b n : Int) : Bool := decide (a ≤ n) && decide (n ≤ b)
theorem k79 {n : Int} : WpCall E pure base bar 79 [.int .i64 n] H Q ↔ Q (.bool (within 1 8 n)) H := by
  rw [call79]
  simp [go_sem, WpFun, c79]
  unfold within
  by_cases h : 1 ≤ n <;> simp [h]
theorem k72 {n a b : Int} : WpCall E pure base bar 72 [.int .i64 n, .int .i64 a, .int .i64 b] H Q ↔ Q (.bool (within a b n)) H := by
  rw [call72]
  simp [go_sem, WpFun, c72]
  unfold within
  by_cases h : a ≤ n <;> simp [h]

def tz8 (s : Nat) : Nat := ((List.range 8).find? (s.testBit ·)).getD 8
theorem tz8_tab : ∀ i, i < 256 → c66_b0[i]? = some (tz8 i).toUInt8 := by decide +kernel
theorem tz8_lt (s : Nat) : tz8 s ≤ 8 := by
  unfold tz8
  cases h : (List.range 8).find? (s.testBit ·) with
  | none => simp
  | some i => have := List.mem_of_find?_eq_some h; simp at this; simp; omega

theorem k66 {s : Nat} (hs : s < 256) : WpCall E pure base bar 66 [.int .u8 s] H Q ↔ Q (.int .i64 (tz8 s)) H := by
  rw [call66]
  have h2 := tz8_lt s
  simp [go_sem, WpFun, c66, aop, AV.asNat, tz8_tab s hs]
  rw [show ((tz8 s : Nat) : Int) % 256 = tz8 s by omega, i64_nat (by omega)]

/-- the people of a set -/
def bitsOf (s : Nat) : List Nat := (List.range 8).filter (s.testBit ·)
theorem bits_step : ∀ s, s < 256 → s ≠ 0 → bitsOf s = tz8 s :: bitsOf (band s (s - 1)) ∧ band s (s - 1) < s := by decide +kernel
theorem bits_zero : bitsOf 0 = [] := by decide
theorem bits_len (s : Nat) : (bitsOf s).length ≤ 8 := by
  unfold bitsOf
  exact Nat.le_trans (List.length_filter_le _ _) (by simp)

theorem u8_sub1 {s : Nat} (hs : s < 256) (h0 : s ≠ 0) : IntKind.u8.wrap ((s : Int) - 1) = ((s - 1 : Nat) : Int) := by
  rw [show (s : Int) - 1 = ((s - 1 : Nat) : Int) by omega, u8_nat (by omega)]

theorem l67 (H0 : Heap) (hb : bar ≤ H0.length) (hbase : base ≤ H0.length) {R : PQ} : ∀ (s : Nat), s < 256 → ∀ (done : List Nat) (v : AV) (H : Heap), Grow 1 (nats done) H0 v H → done.length + (bitsOf s).length ≤ 1000 →
    (∀ v' H', Grow 1 (nats (done ++ bitsOf s)) H0 v' H' → R (.exit 0) [(0, .int .u8 0), (3, v'), (5, .bool false)] H') →
    Wp E base bar (.loop c67_l0) [(0, .int .u8 s), (3, v)] H R := by
  intro s
  induction s using Nat.strongRecOn with
  | _ s ih =>
    intro hs done v H hg hl h
    rw [wp_round c67_l0.eq_1]
    simp [go_sem]
    by_cases h0 : s = 0
    · subst h0
      simp [go_sem]
      exact h v H (by simpa [bits_zero] using hg)
    · have e := bits_step s hs h0
      simp [go_sem, h0, k66 hs, aop, fillA, setCells, chunks, AV.noVec.noVecs, AV.noVec]
      rw [e.1] at hl
      simp at hl
      refine hg.nat hb hbase (by omega) fun v' H' tc g' => ?_
      simp [go_sem, u8_sub1 hs h0, and_u8 hs (show s - 1 < 256 by omega)]
      refine ih _ e.2 (by omega) _ _ _ g' (by simp; omega) fun v'' H'' g'' => h _ _ ?_
      rw [e.1]; simpa using g''

theorem k67 {s : Nat} (hs : s < 256) (hb : bar ≤ H.length) (h : Q (outL 1 (nats (bitsOf s))) H) : WpCall E pure base bar 67 [.int .u8 s] H Q := by
  rw [call67]
  have hb := bar_ok (pure := pure) hb
  simp [go_sem, WpFun, c67] at hb ⊢
  refine l67 H hb (Nat.le_refl _) s hs [] _ _ .nil (by have := bits_len s; simp; omega) fun v' H' g => ?_
  simp [go_sem]
  refine g.out hb (Nat.le_refl _) ?_
  simpa using h
end Go.Proofs.Ythoogegclpiefaa.Code
end

section
namespace Go.Proofs.Ythoogegclpiefaa.Code
open Go Go.Ab
variable {pure : Bool} {base bar : Nat} {H : Heap} {Q : AV → Heap → Prop}

theorem k87 {s x : Nat} (hs : s < 256) : WpCall E pure base bar 87 [.int .u8 s, .int .i64 x] H Q ↔ Q (.bool (s.testBit x)) H := by
  rw [call87]
  simp [go_sem, WpFun, c87, shr_u8, and_u8_one, shr_lt hs, shr_bit s hs]
  cases s.testBit x <;> simp
theorem k90 {n : Int} : WpCall E pure base bar 90 [.int .i64 n] H Q ↔ Q (.bool false) H := by
  rw [call90]
  simp [go_sem, WpFun, c90]
def cmp3 (a b : Nat) : Int := if a < b then -1 else if b < a then 1 else 0
theorem k88 {a b : Nat} : WpCall E pure base bar 88 [.int .i64 a, .int .i64 b] H Q ↔ Q (.int .i64 (cmp3 a b)) H := by
  rw [call88]
  simp [go_sem, WpFun, c88, k90]

  unfold cmp3
  by_cases h : a < b
  · simp [h]
  · by_cases h2 : b < a <;> simp [h, h2]

/-- two people quarrel -/
def joinW (w : Nat → Nat) (a b : Nat) : Nat → Nat := upd (upd w a (bor (w a) (pw b))) b (bor (upd w a (bor (w a) (pw b)) b) (pw a))
theorem upd_lt {w : Nat → Nat} {i x : Nat} (hw : ∀ j, w j < 256) (hx : x < 256) : ∀ j, upd w i x j < 256 := fun j => by unfold upd; split <;> simp [*]
theorem joinW_lt {w : Nat → Nat} {a b : Nat} (hw : ∀ j, w j < 256) (ha : a < 8) (hb : b < 8) : ∀ j, joinW w a b j < 256 := by
  have h1 := upd_lt (i := a) hw (bor_lt (hw a) (pw_lt hb))
  exact upd_lt h1 (bor_lt (h1 b) (pw_lt ha))
theorem k81 {id ver n a b : Nat} {ex : Bool} {w : Nat → Nat} (hid : H[id]? = some (.row ver (wcells n w) 0 ex)) (hw : ∀ x, w x < 256) (ha : a < 8) (hb : b < 8) (hbar : bar ≤ id)
    (h : Q (.tup []) (H.set id (.row ver (wcells n (joinW w a b)) 0 ex))) :
    WpCall E false base bar 81 [.ptr id ver 0, .int .i64 a, .int .i64 b] H Q := by
  rw [call81]
  have h1 := upd_lt (i := a) hw (bor_lt (hw a) (pw_lt hb))
  simp [go_sem, WpFun, c81, ha, hb, loadW hid, storeW hid, shl_u8, or_u8, hw, pw_lt, hbar, loadW (set_row hid), storeW (set_row hid), h1, set_take]
  exact h

/-- the number at the head of a workroom, and of whom each one's enemies are -/
theorem k89_tab : ∀ i, i < 256 → c89_b0[i]? = some (bitsOf i).length.toUInt8 := by decide +kernel
theorem k83 {s : Nat} (hs : s < 256) : WpCall E pure base bar 83 [.int .u8 s] H Q ↔ Q (.int .i64 ((bitsOf s).length : Nat)) H := by
  rw [call83]
  have h2 := bits_len s
  have e : (((bitsOf s).length : Nat) : Int) % 256 = (bitsOf s).length := by omega
  simp [go_sem, WpFun, c83, call89, c89, aop, AV.asNat, k89_tab s hs, e, i64_nat (show (bitsOf s).length < 9223372036854775808 by omega)]
end Go.Proofs.Ythoogegclpiefaa.Code
end

section
namespace Go.Proofs.Ythoogegclpiefaa.Code
open Go Go.Ab
variable {pure : Bool} {base bar : Nat} {H : Heap} {Q : AV → Heap → Prop}

def cmpL : List Nat → List Nat → Int
  | [], [] => 0
  | [], _ :: _ => -1
  | _ :: _, [] => 1
  | a :: x, b :: y => if cmp3 a b = 0 then cmpL x y else cmp3 a b

theorem i64_suc {i : Nat} (h : i < 1000000) : IntKind.i64.wrap ((i : Int) + 1) = ((i + 1 : Nat) : Int) := by
  rw [show (i : Int) + 1 = ((i + 1 : Nat) : Int) by omega, i64_nat (by omega)]

theorem cmpL_nil {x y : List Nat} (h : x.length ≤ y.length) (hx : x = []) : cmpL x y = if x.length < y.length then -1 else 0 := by
  subst hx
  cases y <;> simp [cmpL]

theorem l82 {a b : AV} {x y : List Nat} (ha : isL a x) (hb : isL b y) (hx : x.length < 100000) (hy : y.length < 100000) {R : PQ} : ∀ (k i : Nat), i + k = x.length → i ≤ y.length →
    (R .ret [(4, .int .i64 (cmpL (x.drop i) (y.drop i)))] H) →
    (x.length ≤ y.length → cmpL (x.drop i) (y.drop i) = (if x.length < y.length then -1 else 0) → R (.exit 0) [(0, a), (1, b), (9, a), (10, .int .i64 (x.length : Nat)), (11, .int .i64 (x.length : Nat)), (12, .bool false)] H) →
    Wp E base bar (.loop c82_l0) [(0, a), (1, b), (9, a), (10, .int .i64 (x.length : Nat)), (11, .int .i64 (i : Nat))] H R := by
  intro k
  induction k with
  | zero =>
    intro i hi hy2 hr he
    obtain rfl : i = x.length := by omega
    rw [wp_round c82_l0.eq_1]
    simp [go_sem]
    refine he hy2 ?_
    have := cmpL_nil (x := x.drop x.length) (y := y.drop x.length) (by simp) (by simp)
    rw [this]
    simp only [List.length_drop, Nat.sub_self]
    have : (0 < y.length - x.length) ↔ (x.length < y.length) := by omega
    simp [this]
  | succ k ih =>
    intro i hi hy2 hr he
    rw [wp_round c82_l0.eq_1]
    have hlt : i < x.length := by omega
    simp [go_sem, hlt, ha.ix hlt, hb.len]
    by_cases hyi : y.length ≤ i
    · simp [go_sem, hyi]
      rw [List.drop_eq_getElem_cons hlt, List.drop_eq_nil_of_le hyi] at hr
      exact hr
    · have hyi : i < y.length := by omega
      simp [go_sem, show ¬ y.length ≤ i by omega, hb.ix hyi, k88]
      rw [List.drop_eq_getElem_cons hlt, List.drop_eq_getElem_cons hyi] at hr he
      simp only [cmpL] at hr he
      by_cases hc : cmp3 x[i] y[i] = 0
      · simp [go_sem, hc, i64_suc (show i < 1000000 by omega)] at hr he ⊢
        exact ih (i + 1) (by omega) (by omega) hr he
      · simp [go_sem, hc] at hr ⊢
        exact hr

theorem k82 {a b : AV} {x y : List Nat} (ha : isL a x) (hb : isL b y) (hx : x.length < 100000) (hy : y.length < 100000) (h : Q (.int .i64 (cmpL x y)) H) : WpCall E pure base bar 82 [a, b] H Q := by
  rw [call82]
  simp [go_sem, WpFun, c82, ha.frz, hb.frz, ha.len]
  refine l82 ha hb hx hy x.length 0 (by omega) (by omega) ?_ ?_
  · simp [go_sem]; exact h
  · intro hl he
    simp only [List.drop_zero] at he
    rw [he] at h
    simp [go_sem, ha.len, hb.len]
    by_cases hc : x.length < y.length
    · simp [go_sem, hc] at h ⊢; exact h
    · simp [go_sem, hc] at h ⊢; exact h

theorem bits_lt {s x : Nat} (h : x ∈ bitsOf s) : x < 8 := by simp [bitsOf] at h; exact h.1
/-- each two of a set quarrel -/
def brawlS (w : Nat → Nat) (s : Nat) : Bool := (bitsOf s).all fun x => clr s (w x) == pw x

theorem l84 {id ver n s : Nat} {ex : Bool} {w : Nat → Nat} {fz : Nat} {v : AV} {l : List Nat} (hid : H[id]? = some (.row ver (wcells n w) fz ex)) (hw : ∀ x, w x < 256) (hs : s < 256) (hv : isL v l) (h8 : ∀ x ∈ l, x < 8) (hl : l.length < 1000) {R : PQ} :
    ∀ (k i : Nat), i + k = l.length →
    (((l.drop i).all fun x => clr s (w x) == pw x) = false → R .ret [(4, .bool false)] H) →
    (((l.drop i).all fun x => clr s (w x) == pw x) = true → R (.exit 0) [(0, .ptr id ver 0), (1, .int .u8 s), (8, v), (9, .int .i64 (l.length : Nat)), (10, .int .i64 (l.length : Nat)), (11, .bool false)] H) →
    Wp E base bar (.loop c84_l0) [(0, .ptr id ver 0), (1, .int .u8 s), (8, v), (9, .int .i64 (l.length : Nat)), (10, .int .i64 (i : Nat))] H R := by
  intro k
  induction k with
  | zero =>
    intro i hi hr he
    obtain rfl : i = l.length := by omega
    rw [wp_round c84_l0.eq_1]
    simp [go_sem]
    exact he (by simp)
  | succ k ih =>
    intro i hi hr he
    have hlt : i < l.length := by omega
    have hx := h8 _ (List.getElem_mem hlt)
    rw [wp_round c84_l0.eq_1]
    rw [List.drop_eq_getElem_cons hlt] at hr he
    simp [go_sem, hlt, hv.ix hlt, loadW hid hx, andNot_u8, hw, hs, shl_u8, hx]
    by_cases hc : clr s (w l[i]) = pw l[i]
    · simp only [List.all_cons, show (clr s (w l[i]) == pw l[i]) = true by simpa using hc, Bool.true_and] at hr he
      simp [go_sem, show ((clr s (w l[i]) : Nat) : Int) = (pw l[i] : Nat) by rw [hc], i64_suc (show i < 1000000 by omega)]
      exact ih (i + 1) (by omega) hr he
    · simp only [List.all_cons, show (clr s (w l[i]) == pw l[i]) = false by simpa using hc, Bool.false_and] at hr
      simp [go_sem, show ¬ ((clr s (w l[i]) : Nat) : Int) = (pw l[i] : Nat) by omega]
      exact hr trivial

theorem k84 {id ver n s : Nat} {ex : Bool} {w : Nat → Nat} {fz : Nat} (hid : H[id]? = some (.row ver (wcells n w) fz ex)) (hw : ∀ x, w x < 256) (hs : s < 256) (hb : bar ≤ H.length) (h : Q (.bool (brawlS w s)) H) :
    WpCall E pure base bar 84 [.ptr id ver 0, .int .u8 s] H Q := by
  rw [call84]
  have hb' := bar_ok (pure := pure) hb
  simp [go_sem, WpFun, c84] at hb' ⊢
  refine k67 hs hb' ?_
  have hl := bits_len s
  simp [go_sem, isL.out.len]
  refine l84 hid hw hs isL.out (fun x hx => bits_lt hx) (by omega) (bitsOf s).length 0 (by omega) ?_ ?_
  · intro he
    simp only [List.drop_zero] at he
    simp [go_sem]
    rw [show brawlS w s = false from he] at h; exact h
  · intro he
    simp only [List.drop_zero] at he
    simp [go_sem]
    rw [show brawlS w s = true from he] at h; exact h
end Go.Proofs.Ythoogegclpiefaa.Code
end

section
namespace Go.Proofs.Ythoogegclpiefaa.Code
open Go Go.Ab
variable {pure : Bool} {base bar : Nat} {H : Heap} {Q : AV → Heap → Prop}

theorem shl_i64 {n : Nat} (hn : n < 62) : abin .shl (.int .i64 1) (.int .i64 (n : Int)) = some (.int .i64 ((pw n : Nat) : Int)) := by
  have h2 : (2 : Nat) ^ n < 9223372036854775808 := Nat.lt_of_lt_of_le (Nat.pow_lt_pow_right (by decide) hn) (by decide)
  simp only [abin]
  rw [if_neg (by omega), Int.toNat_natCast, show min n IntKind.i64.bits = n from Nat.min_eq_left (by simp [IntKind.bits]; omega)]
  rw [show (1 : Int) * 2 ^ n = ((2 ^ n : Nat) : Int) by simp, i64_nat h2]; rfl

def bestStep (w : Nat → Nat) (best : List Nat) (s : Nat) : List Nat :=
  if best.length ≤ (bitsOf s).length ∧ brawlS w s = true ∧ (best.length < (bitsOf s).length ∨ cmpL (bitsOf s) best < 0) then bitsOf s else best
/-- the first largest brawl -/
def largestS (n : Nat) (w : Nat → Nat) : List Nat := (List.range' 1 (pw n - 1)).foldl (bestStep w) []

theorem pw_le {n : Nat} (hn : n ≤ 8) : pw n ≤ 256 := Nat.pow_le_pow_right (by decide) hn

theorem bestStep_len {w : Nat → Nat} {best : List Nat} {s : Nat} (h : best.length ≤ 8) : (bestStep w best s).length ≤ 8 := by
  unfold bestStep; split
  · exact bits_len s
  · exact h

theorem l77 {id ver n : Nat} {ex : Bool} {w : Nat → Nat} {fz : Nat} (hid : H[id]? = some (.row ver (wcells n w) fz ex)) (hw : ∀ x, w x < 256) (hn : n ≤ 8) (hb : bar ≤ H.length) {R : PQ} :
    ∀ (k s : Nat) (best : List Nat) (bv : AV), s + k = pw n → isL bv best → best.length ≤ 8 →
    (∀ bv', isL bv' ((List.range' s k).foldl (bestStep w) best) → R (.exit 0) [(0, .ptr id ver 0), (3, bv'), (4, .int .i64 (pw n : Nat)), (12, .bool false)] H) →
    Wp E base bar (.loop c77_l0) [(0, .ptr id ver 0), (3, bv), (4, .int .i64 (s : Nat))] H R := by
  intro k
  induction k with
  | zero =>
    intro s best bv hs hv hl h
    obtain rfl : s = pw n := by omega
    rw [wp_round c77_l0.eq_1]
    simp [go_sem, loadN hid, shl_i64 (show n < 62 by omega)]
    exact h bv hv
  | succ k ih =>
    intro s best bv hs hv hl h
    have := pw_le hn
    have h8 : s < 256 := by omega
    have hlt : s < pw n := by omega
    have hbl := bits_len s
    rw [wp_round c77_l0.eq_1]
    simp [go_sem, loadN hid, shl_i64 (show n < 62 by omega), hlt, u8_nat h8]
    refine k67 h8 hb ?_
    simp only [List.range'_succ, List.foldl_cons] at h
    have hst : bestStep w best s = if best.length ≤ (bitsOf s).length ∧ brawlS w s = true ∧ (best.length < (bitsOf s).length ∨ cmpL (bitsOf s) best < 0) then bitsOf s else best := rfl
    simp [go_sem, isL.out.len, hv.len]
    by_cases h1 : best.length ≤ (bitsOf s).length
    · simp [go_sem, h1, u8_nat h8]
      refine k84 hid hw h8 hb ?_
      cases h2 : brawlS w s
      · simp [go_sem, i64_suc (show s < 1000000 by omega)]
        rw [hst, if_neg (by simp [h2])] at h
        exact ih (s + 1) best bv (by omega) hv hl h
      · simp [go_sem, isL.out.len, hv.len]
        by_cases h3 : best.length < (bitsOf s).length
        · simp [go_sem, h3, show ¬ (bitsOf s).length ≤ best.length by omega, i64_suc (show s < 1000000 by omega)]
          rw [hst, if_pos ⟨h1, h2, .inl h3⟩] at h
          exact ih (s + 1) _ _ (by omega) isL.out hbl h
        · simp [go_sem, h3, show (bitsOf s).length ≤ best.length by omega]
          refine k82 isL.out hv (by omega) (by omega) ?_
          simp [go_sem]
          by_cases h4 : cmpL (bitsOf s) best < 0
          · simp [go_sem, h4, i64_suc (show s < 1000000 by omega)]
            rw [hst, if_pos ⟨h1, h2, .inr h4⟩] at h
            exact ih (s + 1) _ _ (by omega) isL.out hbl h
          · simp [go_sem, h4, i64_suc (show s < 1000000 by omega)]
            rw [hst, if_neg (by intro hc; rcases hc.2.2 with h | h <;> contradiction)] at h
            exact ih (s + 1) best bv (by omega) hv hl h
    · simp [go_sem, h1, i64_suc (show s < 1000000 by omega)]
      rw [hst, if_neg (by intro hc; exact h1 hc.1)] at h
      exact ih (s + 1) best bv (by omega) hv hl h

theorem k77 {id ver n : Nat} {ex : Bool} {w : Nat → Nat} {fz : Nat} (hid : H[id]? = some (.row ver (wcells n w) fz ex)) (hw : ∀ x, w x < 256) (hn : n ≤ 8) (hb : bar ≤ H.length) (h : ∀ v, isL v (largestS n w) → Q v H) :
    WpCall E pure base bar 77 [.ptr id ver 0] H Q := by
  rw [call77]
  have hb' := bar_ok (pure := pure) hb
  simp [go_sem, WpFun, c77] at hb' ⊢
  have h1 : 1 ≤ pw n := Nat.one_le_two_pow
  refine l77 hid hw hn hb' (pw n - 1) 1 [] .nils (by omega) .nil (by simp) fun v hv => ?_
  simp [go_sem]
  refine leaveL hv ?_
  simpa using h v hv
end Go.Proofs.Ythoogegclpiefaa.Code
end

section
namespace Go.Proofs.Ythoogegclpiefaa.Code
open Go Go.Ab
variable {pure : Bool} {base bar : Nat} {H : Heap} {Q : AV → Heap → Prop}

theorem sliceW {id ver n fz : Nat} {w : Nat → Nat} (hid : H[id]? = some (.row ver (wcells n w) fz true)) {m : Nat} (hm : m ≤ 8) :
    aslice H (.arr 8 1) (.ptr id ver 1) none (some (.int .i64 (m : Int))) none = some (.vec id ver 1 m 1) := by
  simp [aslice, hid, wcells_length, optBound, bound1, AV.asNat, hm]

theorem natEq {a b : Nat} : ((a : Int) = (b : Int)) ↔ a = b := by omega
theorem natLt {a : Nat} : ((a : Int) < 8) ↔ a < 8 := by omega
/-- with how many others each one quarrels -/
def oftenS (n : Nat) (w : Nat → Nat) : List Nat := (List.range n).map fun a => (bitsOf (w a)).length

theorem l75 {id ver n : Nat} {w : Nat → Nat} {H0 : Heap} (hid : H0[id]? = some (.row ver (wcells n w) 0 true)) (hw : ∀ x, w x < 256) (hn : n ≤ 8) (hb : bar ≤ H0.length) (hbase : base ≤ H0.length) {R : PQ} :
    ∀ (k i : Nat) (v : AV) (H : Heap), i + k = n → Grow 1 (nats ((List.range i).map fun a => (bitsOf (w a)).length)) H0 v H →
    (∀ v' H', Grow 1 (nats (oftenS n w)) H0 v' H' → R (.exit 0) [(3, v'), (13, .vec id ver 1 n 1), (14, .int .i64 (n : Nat)), (15, .int .i64 (n : Nat)), (16, .bool false)] H') →
    Wp E base bar (.loop c75_l0) [(3, v), (13, .vec id ver 1 n 1), (14, .int .i64 (n : Nat)), (15, .int .i64 (i : Nat))] H R := by
  intro k
  induction k with
  | zero =>
    intro i v H hi hg h
    obtain rfl : i = n := by omega
    rw [wp_round c75_l0.eq_1]
    simp [go_sem]
    exact h v H hg
  | succ k ih =>
    intro i v H hi hg h
    have hlt : i < n := by omega
    have hidH : H[id]? = some (.row ver (wcells n w) 0 true) := by
      rcases hg with ⟨_, _, rfl⟩ | ⟨_, _, _, _, _, rfl⟩
      · exact hid
      · exact old_get hid
    rw [wp_round c75_l0.eq_1]
    simp [go_sem, hlt, loadW hidH (show i < 8 by omega), k83 (hw i), aop, chunks]
    refine hg.nat hb hbase (by simp; omega) fun v' H' tc g' => ?_
    simp [go_sem, i64_suc (show i < 1000000 by omega)]
    refine ih (i + 1) v' H' (by omega) ?_ h
    simpa [List.range_succ] using g'

theorem k75 {id ver n : Nat} {w : Nat → Nat} (hid : H[id]? = some (.row ver (wcells n w) 0 true)) (hw : ∀ x, w x < 256) (hn : n ≤ 8) (hb : bar ≤ H.length) (h : Q (outL 1 (nats (oftenS n w))) H) :
    WpCall E pure base bar 75 [.ptr id ver 0] H Q := by
  rw [call75]
  have hb' := bar_ok (pure := pure) hb
  simp [go_sem, WpFun, c75, aop, Opd.evo, loadN hid, sliceW hid hn] at hb' ⊢
  refine l75 hid hw hn hb' (Nat.le_refl _) n 0 _ _ (by omega) Grow.nil fun v' H' g => ?_
  simp [go_sem]
  refine g.out hb' (Nat.le_refl _) ?_
  simpa using h

theorem oftenS_len {n : Nat} {w : Nat → Nat} : (oftenS n w).length = n := by simp [oftenS]
def sumL (l : List Nat) : Nat := l.foldl (· + ·) 0

theorem l76 {v : AV} {l : List Nat} (hv : isL v l) (hl : l.length < 1000) (h8 : ∀ x ∈ l, x ≤ 8) {R : PQ} : ∀ (k i : Nat), i + k = l.length → ∀ (s : Nat), s ≤ 8 * i →
    (R (.exit 0) [(3, .int .i64 ((l.drop i).foldl (· + ·) s : Nat)), (7, v), (8, .int .i64 (l.length : Nat)), (9, .int .i64 (l.length : Nat)), (10, .bool false)] H) →
    Wp E base bar (.loop c76_l0) [(3, .int .i64 (s : Nat)), (7, v), (8, .int .i64 (l.length : Nat)), (9, .int .i64 (i : Nat))] H R := by
  intro k
  induction k with
  | zero =>
    intro i hi s hs h
    obtain rfl : i = l.length := by omega
    rw [wp_round c76_l0.eq_1]
    simp [go_sem] at h ⊢
    exact h
  | succ k ih =>
    intro i hi s hs h
    have hlt : i < l.length := by omega
    have := h8 _ (List.getElem_mem hlt)
    rw [wp_round c76_l0.eq_1]
    rw [List.drop_eq_getElem_cons hlt] at h
    have e : IntKind.i64.wrap ((s : Int) + (l[i] : Nat)) = ((s + l[i] : Nat) : Int) := by
      rw [show (s : Int) + (l[i] : Nat) = ((s + l[i] : Nat) : Int) by omega, i64_nat (by omega)]
    simp [go_sem, hlt, hv.ix hlt, e, i64_suc (show i < 1000000 by omega)]
    exact ih (i + 1) (by omega) (s + l[i]) (by omega) h

theorem quo2 {a : Nat} (h : a < 1000000) : abin .quo (.int .i64 (a : Int)) (.int .i64 2) = some (.int .i64 ((a / 2 : Nat) : Int)) := by
  rw [abin_quo (by omega), Go.IntWalk.i64_quo _ _ ⟨by omega, by omega, by omega⟩]
  congr 2

def quarrelsS (n : Nat) (w : Nat → Nat) : Nat := sumL (oftenS n w) / 2
theorem foldl_bound : ∀ (l : List Nat) (s : Nat), (∀ x ∈ l, x ≤ 8) → l.foldl (· + ·) s ≤ s + 8 * l.length
  | [], s, _ => by simp
  | x :: r, s, h => by
    have := foldl_bound r (s + x) fun y hy => h y (List.mem_cons_of_mem _ hy)
    have := h x (List.mem_cons_self ..)
    simp; omega
theorem often_le {n : Nat} {w : Nat → Nat} : ∀ x ∈ oftenS n w, x ≤ 8 := fun x hx => by
  simp [oftenS] at hx
  obtain ⟨a, _, rfl⟩ := hx
  exact bits_len _
theorem k76 {id ver n : Nat} {w : Nat → Nat} (hid : H[id]? = some (.row ver (wcells n w) 0 true)) (hw : ∀ x, w x < 256) (hn : n ≤ 8) (hb : bar ≤ H.length) (h : Q (.int .i64 (quarrelsS n w : Nat)) H) :
    WpCall E pure base bar 76 [.ptr id ver 0] H Q := by
  rw [call76]
  have hb' := bar_ok (pure := pure) hb
  simp [go_sem, WpFun, c76] at hb' ⊢
  refine k75 hid hw hn hb' ?_
  simp [go_sem, isL.out.len]
  have e : (oftenS n w).length < 1000 := by rw [oftenS_len]; omega
  refine l76 (v := outL 1 (nats (oftenS n w))) isL.out e often_le (oftenS n w).length 0 (by omega) 0 (by omega) ?_
  have := foldl_bound (oftenS n w) 0 often_le
  rw [oftenS_len] at this
  simp [go_sem, quo2 (show (oftenS n w).foldl (· + ·) 0 < 1000000 by omega)]
  exact h

/-- the error of a copy -/
def copiesS (n : Nat) (w : Nat → Nat) (a b : Int) : Int :=
  if a < 0 ∨ b < 0 ∨ n ≤ a ∨ n ≤ b then 2 else if a = b ∨ (w a.toNat).testBit b.toNat = true then 13 else 0
theorem k69 {id ver n : Nat} {ex : Bool} {w : Nat → Nat} {fz : Nat} {a b : Int} (hid : H[id]? = some (.row ver (wcells n w) fz ex)) (hw : ∀ x, w x < 256) (hn : n ≤ 8) (h : Q (.int .i64 (copiesS n w a b)) H) :
    WpCall E pure base bar 69 [.ptr id ver 0, .int .i64 a, .int .i64 b] H Q := by
  rw [call69]
  unfold copiesS at h
  simp [go_sem, WpFun, c69, aop, loadN hid]
  by_cases h0 : a < 0 ∨ b < 0 ∨ (n : Int) ≤ a ∨ (n : Int) ≤ b
  · rw [if_pos h0] at h
    by_cases h1 : 0 ≤ (if b < a then b else a)
    · have h2 : (n : Int) ≤ (if a < b then b else a) := by split at h1 <;> split <;> omega
      simp [h1, h2, h]
    · simp [h1, h]
  · rw [if_neg h0] at h
    obtain ⟨a, rfl⟩ := Int.eq_ofNat_of_zero_le (show 0 ≤ a by omega)
    obtain ⟨b, rfl⟩ := Int.eq_ofNat_of_zero_le (show 0 ≤ b by omega)
    have h1 : 0 ≤ (if (b : Int) < a then (b : Int) else a) := by split <;> omega
    have h2 : ¬ (n : Int) ≤ (if (a : Int) < b then (b : Int) else a) := by split <;> omega
    have ha : a < 8 := by omega
    simp only [h1, h2, if_true, if_false]
    by_cases h3 : a = b
    · simp [go_sem, natEq, h3] at h ⊢; exact h
    · simp [go_sem, natEq, h3, ha, natLt, loadW hid ha, k87, hw] at h ⊢
      cases h4 : (w a).testBit b <;> simp [go_sem, h4] at h ⊢ <;> exact h

/-- b copies a: all forget b -/
def forgetW (w : Nat → Nat) (b k : Nat) : Nat → Nat := fun x => if x < k then clr (w x) (pw b) else w x
theorem forgetW_lt {w : Nat → Nat} {b k : Nat} (hw : ∀ x, w x < 256) : ∀ x, forgetW w b k x < 256 := fun x => by
  unfold forgetW; split
  · exact clr_lt (hw x)
  · exact hw x
theorem forgetW_succ {w : Nat → Nat} {b k : Nat} : upd (forgetW w b k) k (clr (forgetW w b k k) (pw b)) = forgetW w b (k + 1) := by
  funext x
  unfold upd forgetW
  by_cases hx : x = k
  · subst hx; simp
  · by_cases h2 : x < k
    · simp [hx, h2, show x < k + 1 by omega]
    · simp [hx, h2, show ¬ x < k + 1 by omega]
theorem forgetW_zero {w : Nat → Nat} {b : Nat} : forgetW w b 0 = w := by funext x; simp [forgetW]
def joins (w : Nat → Nat) (b : Nat) (l : List Nat) : Nat → Nat := l.foldl (fun w x => joinW w b x) w
/-- b copies a -/
def takeW (n : Nat) (w : Nat → Nat) (a b : Nat) : Nat → Nat := joins (upd (forgetW w b n) b 0) b (bitsOf (upd (forgetW w b n) b 0 a))

theorem l70a {id ver n a b : Nat} {w : Nat → Nat} (hw : ∀ x, w x < 256) (hn : n ≤ 8) (hb : b < 8) (hbar : bar ≤ id) {R : PQ} :
    ∀ (k i : Nat) (H : Heap), i + k = n → H[id]? = some (.row ver (wcells n (forgetW w b i)) 0 true) →
    (R (.exit 0) [(0, .ptr id ver 0), (1, .int .i64 (a : Nat)), (2, .int .i64 (b : Nat)), (12, .int .i64 (n : Nat)), (13, .int .i64 (n : Nat)), (14, .bool false)] (H.set id (.row ver (wcells n (forgetW w b n)) 0 true))) →
    Wp E base bar (.loop c70_l0) [(0, .ptr id ver 0), (1, .int .i64 (a : Nat)), (2, .int .i64 (b : Nat)), (12, .int .i64 (n : Nat)), (13, .int .i64 (i : Nat))] H R := by
  intro k
  induction k with
  | zero =>
    intro i H hi hid h
    obtain rfl : i = n := by omega
    rw [wp_round c70_l0.eq_1]
    simp [go_sem]
    have e : H.set id (.row ver (wcells i (forgetW w b i)) 0 true) = H := by
      apply List.ext_getElem?
      intro j
      rw [List.getElem?_set]
      by_cases hj : id = j
      · subst hj; rw [hid]; simp [(List.getElem?_eq_some_iff.1 hid).1]
      · simp [hj]
    rw [e] at h
    exact h
  | succ k ih =>
    intro i H hi hid h
    have hlt : i < n := by omega
    rw [wp_round c70_l0.eq_1]
    simp [go_sem, hlt, show i < 8 by omega, loadW hid (show i < 8 by omega), shl_u8 hb, andNot_u8, forgetW_lt hw, pw_lt hb, storeW hid (show i < 8 by omega), hbar, i64_suc (show i < 1000000 by omega)]
    refine ih (i + 1) _ (by omega) (by rw [set_row hid, forgetW_succ]) ?_
    rw [set_set]
    exact h

theorem l70b {id ver n b : Nat} {v : AV} {l : List Nat} (hv : isL v l) (hl : l.length < 1000) (h8 : ∀ x ∈ l, x < 8) (hb : b < 8) (hbar : bar ≤ id) {R : PQ} :
    ∀ (k i : Nat) (H : Heap) (w : Nat → Nat), i + k = l.length → (∀ x, w x < 256) → H[id]? = some (.row ver (wcells n w) 0 true) →
    (R (.exit 2) [(0, .ptr id ver 0), (2, .int .i64 (b : Nat)), (40, v), (41, .int .i64 (l.length : Nat)), (42, .int .i64 (l.length : Nat)), (43, .bool false)] (H.set id (.row ver (wcells n (joins w b (l.drop i))) 0 true))) →
    Wp E base bar (.loop c70_l1) [(0, .ptr id ver 0), (2, .int .i64 (b : Nat)), (40, v), (41, .int .i64 (l.length : Nat)), (42, .int .i64 (i : Nat))] H R := by
  intro k
  induction k with
  | zero =>
    intro i H w hi hw hid h
    obtain rfl : i = l.length := by omega
    rw [wp_round c70_l1.eq_1]
    simp [go_sem]
    have e : H.set id (.row ver (wcells n w) 0 true) = H := by
      apply List.ext_getElem?
      intro j
      rw [List.getElem?_set]
      by_cases hj : id = j
      · subst hj; rw [hid]; simp [(List.getElem?_eq_some_iff.1 hid).1]
      · simp [hj]
    rw [List.drop_length] at h
    simp only [joins, List.foldl_nil, e] at h
    exact h
  | succ k ih =>
    intro i H w hi hw hid h
    have hlt : i < l.length := by omega
    have hx := h8 _ (List.getElem_mem hlt)
    rw [wp_round c70_l1.eq_1]
    rw [List.drop_eq_getElem_cons hlt] at h
    simp [go_sem, hlt, hv.ix hlt]
    refine k81 hid hw hb hx hbar ?_
    simp [go_sem, i64_suc (show i < 1000000 by omega)]
    refine ih (i + 1) _ _ (by omega) (joinW_lt hw hb hx) (set_row hid) ?_
    rw [set_set]
    exact h

theorem k70 {id ver n a b : Nat} {w : Nat → Nat} (hid : H[id]? = some (.row ver (wcells n w) 0 true)) (hw : ∀ x, w x < 256) (hn : n ≤ 8) (ha : a < 8) (hb : b < 8) (hbar : bar ≤ id)
    (h : Q (.tup []) (H.set id (.row ver (wcells n (takeW n w a b)) 0 true))) :
    WpCall E false base bar 70 [.ptr id ver 0, .int .i64 a, .int .i64 b] H Q := by
  rw [call70]
  simp [go_sem, WpFun, c70, loadN hid]
  have hlt := (List.getElem?_eq_some_iff.1 hid).1
  refine l70a hw hn hb hbar n 0 H (by omega) (by rw [hid, forgetW_zero]) ?_
  have hid1 := set_row (ver' := ver) (cs' := wcells n (forgetW w b n)) (fz' := 0) (ex' := true) hid
  simp [go_sem, hb]
  rw [storeW_zero hid1 hb hbar]
  have hid2 := set_row (ver' := ver) (cs' := wcells n (upd (forgetW w b n) b 0)) (fz' := 0) (ex' := true) hid
  have hw2 := upd_lt (i := b) (forgetW_lt (b := b) (k := n) hw) (show 0 < 256 by decide)
  simp [go_sem, ha, loadW hid2 ha]
  refine k67 (hw2 a) (by simp; omega) ?_
  have hl := bits_len (upd (forgetW w b n) b 0 a)
  simp [go_sem, isL.out.len]
  refine l70b isL.out (by omega) (fun x hx => bits_lt hx) hb hbar _ 0 _ _ (by simp; rfl) hw2 hid2 ?_
  simp [go_sem, set_take]
  exact h
end Go.Proofs.Ythoogegclpiefaa.Code
end

section
namespace Go.Proofs.Ythoogegclpiefaa.Code
open Go Go.Ab
variable {pure : Bool} {base bar : Nat} {H : Heap} {Q : AV → Heap → Prop}

theorem all_shl {n : Nat} (hn : n ≤ 8) : abin .shl (.int .u8 1) (.int .i64 (n : Int)) = some (.int .u8 (IntKind.u8.wrap (pw n : Nat))) := by
  have : n = 0 ∨ n = 1 ∨ n = 2 ∨ n = 3 ∨ n = 4 ∨ n = 5 ∨ n = 6 ∨ n = 7 ∨ n = 8 := by omega
  rcases this with rfl | rfl | rfl | rfl | rfl | rfl | rfl | rfl | rfl <;> rfl
theorem all_sub {n : Nat} (hn : n ≤ 8) : IntKind.u8.wrap (IntKind.u8.wrap ((pw n : Nat) : Int) - 1) = ((pw n - 1 : Nat) : Int) := by
  have : n = 0 ∨ n = 1 ∨ n = 2 ∨ n = 3 ∨ n = 4 ∨ n = 5 ∨ n = 6 ∨ n = 7 ∨ n = 8 := by omega
  rcases this with rfl | rfl | rfl | rfl | rfl | rfl | rfl | rfl | rfl <;> rfl

/-- whom a quarrels with, and b does not -/
def oddC (n : Nat) (w : Nat → Nat) (a b : Nat) : Option Nat :=
  if a = b ∨ (w a).testBit b = true then none else (bitsOf (band (clr (w a) (w b)) (pw n - 1))).head?
def oddB (n : Nat) (w : Nat → Nat) (a : Nat) (l : List Nat) : Option (Nat × Nat × Nat) := l.findSome? fun b => (oddC n w a b).map fun c => (a, b, c)
/-- the first three who prove that a house is not parted -/
def oddS (n : Nat) (w : Nat → Nat) : Option (Nat × Nat × Nat) := (List.range n).findSome? fun a => oddB n w a (List.range n)

theorem l64a {id ver n a : Nat} {ex : Bool} {w : Nat → Nat} {fz : Nat} (hid : H[id]? = some (.row ver (wcells n w) fz ex)) (hw : ∀ x, w x < 256) (hn : n ≤ 8) (ha : a < n) (hbar : bar ≤ H.length) {R : PQ} :
    ∀ (k b : Nat), b + k = n → ∀ (x : Int),
    (oddB n w a (List.range' b k) = none → ∀ x' : Int, R (.exit 2) [(0, .ptr id ver 0), (2, .int .i64 (a : Nat)), (3, .int .i64 x'), (4, .int .i64 0), (5, .bool false), (6, .int .u8 (pw n - 1 : Nat)), (17, .int .i64 (n : Nat)), (18, .int .i64 (a : Nat)), (24, .int .i64 (n : Nat)), (25, .int .i64 (n : Nat)), (26, .bool false)] H) →
    (∀ b' c : Nat, oddB n w a (List.range' b k) = some (a, b', c) → R (.exit 0) [(2, .int .i64 (a : Nat)), (3, .int .i64 (b' : Nat)), (4, .int .i64 (c : Nat)), (5, .bool true)] H) →
    Wp E base bar (.loop c64_l0) [(0, .ptr id ver 0), (2, .int .i64 (a : Nat)), (3, .int .i64 x), (4, .int .i64 0), (5, .bool false), (6, .int .u8 (pw n - 1 : Nat)), (17, .int .i64 (n : Nat)), (18, .int .i64 (a : Nat)), (24, .int .i64 (n : Nat)), (25, .int .i64 (b : Nat))] H R := by
  intro k
  induction k with
  | zero =>
    intro b hb x h1 h2
    obtain rfl : b = n := by omega
    rw [wp_round c64_l0.eq_1]
    simp [go_sem]
    exact h1 rfl x
  | succ k ih =>
    intro b hb x h1 h2
    have hlt : b < n := by omega
    have hp := pw_le hn
    have hp1 : 1 ≤ pw n := Nat.one_le_two_pow
    have e : oddB n w a (List.range' b (k + 1)) = match oddC n w a b with
        | some c => some (a, b, c)
        | none => oddB n w a (List.range' (b + 1) k) := by
      simp only [oddB, List.range'_succ, List.findSome?_cons]
      cases oddC n w a b <;> rfl
    rw [e] at h1 h2
    rw [wp_round c64_l0.eq_1]
    simp [go_sem, hlt, natEq]
    by_cases h3 : a = b
    · have e2 : oddC n w a b = none := by simp [oddC, h3]
      simp only [e2] at h1 h2
      simp [go_sem, h3, i64_suc (show b < 1000000 by omega)]
      rw [← h3]
      have := ih (b + 1) (by omega) (b : Int) h1 h2
      simp only [h3] at this ⊢
      exact this
    · simp [go_sem, h3, show a < 8 by omega, show b < 8 by omega, loadW hid (show a < 8 by omega), k87, hw]
      cases h4 : (w a).testBit b
      · simp [go_sem, show b < 8 by omega, loadW hid (show b < 8 by omega), andNot_u8, hw, and_u8 (clr_lt (hw a)) (show pw n - 1 < 256 by omega)]
        refine k67 (band_lt (clr_lt (hw a))) hbar ?_
        have hl := isL.out (l := bitsOf (band (clr (w a) (w b)) (pw n - 1)))
        have e2 : oddC n w a b = (bitsOf (band (clr (w a) (w b)) (pw n - 1))).head? := by simp [oddC, h3, h4]
        rw [e2] at h1 h2
        generalize bitsOf (band (clr (w a) (w b)) (pw n - 1)) = l at hl h1 h2
        cases l with
        | nil =>
          simp only [List.head?_nil] at h1 h2
          simp [go_sem, hl.len, i64_suc (show b < 1000000 by omega)]
          exact ih (b + 1) (by omega) (b : Int) h1 h2
        | cons c r =>
          simp only [List.head?_cons] at h1 h2
          simp [go_sem, hl.len, show (0 : Int) < (r.length : Int) + 1 by omega, hl.ix0]
          exact h2 b c rfl
      · have e2 : oddC n w a b = none := by simp [oddC, h4]
        simp only [e2] at h1 h2
        simp [go_sem, h4, i64_suc (show b < 1000000 by omega)]
        exact ih (b + 1) (by omega) (b : Int) h1 h2
theorem oddB_fst {n a a' b c : Nat} {w : Nat → Nat} : ∀ {l : List Nat}, oddB n w a l = some (a', b, c) → a' = a
  | [], h => by simp [oddB] at h
  | x :: r, h => by
    simp only [oddB, List.findSome?_cons] at h
    split at h
    · rename_i y hy
      cases he : oddC n w a x with
      | none => simp [he] at hy
      | some z => simp only [he, Option.map_some, Option.some.injEq] at hy h; subst hy; simp only [Prod.mk.injEq] at h; exact h.1.symm
    · exact oddB_fst (l := r) h

theorem l64b {id ver n : Nat} {ex : Bool} {w : Nat → Nat} {fz : Nat} (hid : H[id]? = some (.row ver (wcells n w) fz ex)) (hw : ∀ x, w x < 256) (hn : n ≤ 8) (hbar : bar ≤ H.length) {R : PQ} :
    ∀ (k a : Nat), a + k = n → ∀ (x y : Int),
    (((List.range' a k).findSome? fun a => oddB n w a (List.range n)) = none → ∀ x' y' : Int, R (.exit 0) [(0, .ptr id ver 0), (2, .int .i64 x'), (3, .int .i64 y'), (4, .int .i64 0), (5, .bool false), (6, .int .u8 (pw n - 1 : Nat)), (17, .int .i64 (n : Nat)), (18, .int .i64 (n : Nat)), (19, .bool false)] H) →
    (∀ a' b' c : Nat, ((List.range' a k).findSome? fun a => oddB n w a (List.range n)) = some (a', b', c) → R (.exit 0) [(2, .int .i64 (a' : Nat)), (3, .int .i64 (b' : Nat)), (4, .int .i64 (c : Nat)), (5, .bool true)] H) →
    Wp E base bar (.loop c64_l1) [(0, .ptr id ver 0), (2, .int .i64 x), (3, .int .i64 y), (4, .int .i64 0), (5, .bool false), (6, .int .u8 (pw n - 1 : Nat)), (17, .int .i64 (n : Nat)), (18, .int .i64 (a : Nat))] H R := by
  intro k
  induction k with
  | zero =>
    intro a ha x y h1 h2
    obtain rfl : a = n := by omega
    rw [wp_round c64_l1.eq_1]
    simp [go_sem]
    exact h1 rfl x y
  | succ k ih =>
    intro a ha x y h1 h2
    have hlt : a < n := by omega
    rw [wp_round c64_l1.eq_1]
    simp only [List.range'_succ, List.findSome?_cons] at h1 h2
    simp [go_sem, hlt, loadN hid]
    refine l64a hid hw hn hlt hbar n 0 (by omega) y ?_ ?_
    · intro he x'
      rw [← List.range_eq_range'] at he
      simp only [he] at h1 h2
      simp [go_sem, i64_suc (show a < 1000000 by omega)]
      exact ih (a + 1) (by omega) (a : Int) x' h1 h2
    · intro b' c he
      rw [← List.range_eq_range'] at he
      simp only [he] at h2
      simp [go_sem]
      exact h2 a b' c rfl

theorem k64 {id ver n : Nat} {ex : Bool} {w : Nat → Nat} {fz : Nat} (hid : H[id]? = some (.row ver (wcells n w) fz ex)) (hw : ∀ x, w x < 256) (hn : n ≤ 8) (hb : bar ≤ H.length)
    (h : Q (match oddS n w with
      | none => .tup [.int .i64 0, .int .i64 0, .int .i64 0, .bool false]
      | some (a, b, c) => .tup [.int .i64 (a : Nat), .int .i64 (b : Nat), .int .i64 (c : Nat), .bool true]) H) : WpCall E pure base bar 64 [.ptr id ver 0] H Q := by
  rw [call64]
  have hb' := bar_ok (pure := pure) hb
  simp [go_sem, WpFun, c64] at hb' ⊢
  rw [c64_s2.eq_1]
  simp [go_sem, loadN hid, all_shl hn, all_sub hn]
  refine l64b hid hw hn hb' n 0 (by omega) 0 0 ?_ ?_
  · intro he x' y'
    rw [← List.range_eq_range'] at he
    simp only [show oddS n w = none from he] at h
    simp [go_sem]
    exact h
  · intro a b c he
    rw [← List.range_eq_range'] at he
    simp only [show oddS n w = some (a, b, c) from he] at h
    simp [go_sem]
    exact h
end Go.Proofs.Ythoogegclpiefaa.Code
end

section
namespace Go.Proofs.Ythoogegclpiefaa.Code
open Go Go.Ab
variable {pure : Bool} {base bar : Nat} {H : Heap} {Q : AV → Heap → Prop}

/-- two blocks: the result's, and the house's under construction -/
def HB (H : Heap) (n : Nat) (v : AV) : Heap := H ++ [.row 0 [.int .i64 0, .nils] 0 true, .row 0 [.int .i64 (n : Int), v] 0 true]
theorem HB_len {n : Nat} {v : AV} : (HB H n v).length = H.length + 2 := by simp [HB]
theorem HB_get {n : Nat} {v : AV} : (HB H n v)[H.length + 1]? = some (.row 0 [.int .i64 (n : Int), v] 0 true) := by simp [HB, own_get]
theorem HB_get0 {n : Nat} {v : AV} : (HB H n v)[H.length]? = some (.row 0 [.int .i64 0, .nils] 0 true) := by simp [HB, own_get0]
theorem HB_old {n i : Nat} {v : AV} {b : Blk} (h : H[i]? = some b) : (HB H n v)[i]? = some b := old_get h
theorem HB_set {n : Nat} {v v' : AV} : (HB H n v).set (H.length + 1) (.row 0 [.int .i64 (n : Int), v'] 0 true) = HB H n v' := by simp [HB, own_set]

def pz (p : Nat × Nat) : ZZ := ((p.1 : Int), (p.2 : Int))
/-- those with greater numbers -/
def above (a : Nat) (l : List Nat) : List ZZ := (l.filter fun b => decide (a < b)).map fun (b : Nat) => ((a : Int), (b : Int))
theorem above_len {a : Nat} {l : List Nat} : (above a l).length ≤ l.length := by simp [above, List.length_filter_le]
theorem above_pos {a x : Nat} {r : List Nat} (h : a < x) : above a (x :: r) = ((a : Int), (x : Int)) :: above a r := by simp [above, h]
theorem above_neg {a x : Nat} {r : List Nat} (h : ¬ a < x) : above a (x :: r) = above a r := by simp [above, h]
/-- the quarrels of a workroom -/
def houseS (n : Nat) (w : Nat → Nat) : List ZZ := (List.range n).flatMap fun a => above a (bitsOf (w a))
theorem grow_slot {cells : List AV} {H0 : Heap} {v : AV} (g : Grow 2 cells H0 v H) : v.isTup = false ∧ v.cells = [v] := by
  rcases g with ⟨_, rfl, _⟩ | ⟨_, _, _, _, rfl, _⟩ <;> exact ⟨rfl, rfl⟩

theorem l71a {id n a : Nat} {H0 : Heap} {lv : AV} {l : List Nat} (hv : isL lv l) (hl : l.length ≤ 8) (hbar : bar ≤ H0.length) {R : PQ} :
    ∀ (k j : Nat), j + k = l.length → ∀ (done : List ZZ) (v : AV) (Hc : Heap), done.length ≤ 1000 + j → Grow 2 (prs done) (HB H0 n v) v Hc →
    (∀ v' Hc', Grow 2 (prs (done ++ above a (l.drop j))) (HB H0 n v') v' Hc' → R (.exit 2) [(0, .ptr id 0 0), (2, .ptr H0.length 0 0), (3, .ptr (H0.length + 1) 0 0), (15, .int .i64 (n : Nat)), (16, .int .i64 (a : Nat)), (4, .int .i64 (a : Nat)), (25, lv), (26, .int .i64 (l.length : Nat)), (27, .int .i64 (l.length : Nat)), (28, .bool false)] Hc') →
    Wp E H0.length bar (.loop c71_l0) [(0, .ptr id 0 0), (2, .ptr H0.length 0 0), (3, .ptr (H0.length + 1) 0 0), (15, .int .i64 (n : Nat)), (16, .int .i64 (a : Nat)), (4, .int .i64 (a : Nat)), (25, lv), (26, .int .i64 (l.length : Nat)), (27, .int .i64 (j : Nat))] Hc R := by
  intro k
  induction k with
  | zero =>
    intro j hj done v Hc hd g h
    obtain rfl : j = l.length := by omega
    rw [wp_round c71_l0.eq_1]
    simp [go_sem]
    rw [List.drop_length] at h
    exact h v Hc (by simpa [above] using g)
  | succ k ih =>
    intro j hj done v Hc hd g h
    have hlt : j < l.length := by omega
    rw [wp_round c71_l0.eq_1]
    rw [List.drop_eq_getElem_cons hlt] at h
    simp [go_sem, hlt, hv.ix hlt]
    by_cases h1 : a < l[j]
    · rw [above_pos h1] at h
      simp [go_sem, h1, aload_ptr (g.get HB_get), aop, chunks]
      refine g.pair (p := ((a : Int), ((l[j] : Nat) : Int))) (by rw [HB_len]; omega) (by rw [HB_len]; omega) (by omega) fun v' H' tc g' => ?_
      obtain ⟨s1, s2⟩ := grow_slot g'
      simp [go_sem]
      rw [storeWp_ptr (size := 1) (g'.get HB_get) s1 (by rw [s2]; rfl) (by omega) (by simp) (by omega) (.inl (by omega))]
      simp [go_sem, s2, i64_suc (show j < 1000000 by omega)]
      have g2 := g'.set (i := H0.length + 1) (b := .row 0 [.int .i64 (n : Int), v'] 0 true) (by rw [HB_len]; omega)
      rw [HB_set] at g2
      refine ih (j + 1) (by omega) _ v' _ (by simp; omega) g2 ?_
      simpa using h
    · rw [above_neg h1] at h
      simp [go_sem, h1, i64_suc (show j < 1000000 by omega)]
      exact ih (j + 1) (by omega) _ v Hc (by omega) g h
theorem l71b {id n : Nat} {ex : Bool} {w : Nat → Nat} {fz : Nat} {H0 : Heap} (hid : H0[id]? = some (.row 0 (wcells n w) fz ex)) (hw : ∀ x, w x < 256) (hn : n ≤ 8) (hbar : bar ≤ H0.length) {R : PQ} :
    ∀ (k a : Nat), a + k = n → ∀ (done : List ZZ) (v : AV) (Hc : Heap), done.length ≤ 100 * a → Grow 2 (prs done) (HB H0 n v) v Hc →
    (∀ v' Hc', Grow 2 (prs (done ++ (List.range' a k).flatMap fun a => above a (bitsOf (w a)))) (HB H0 n v') v' Hc' → R (.exit 0) [(0, .ptr id 0 0), (2, .ptr H0.length 0 0), (3, .ptr (H0.length + 1) 0 0), (15, .int .i64 (n : Nat)), (16, .int .i64 (n : Nat)), (17, .bool false)] Hc') →
    Wp E H0.length bar (.loop c71_l1) [(0, .ptr id 0 0), (2, .ptr H0.length 0 0), (3, .ptr (H0.length + 1) 0 0), (15, .int .i64 (n : Nat)), (16, .int .i64 (a : Nat))] Hc R := by
  intro k
  induction k with
  | zero =>
    intro a ha done v Hc hd g h
    obtain rfl : a = n := by omega
    rw [wp_round c71_l1.eq_1]
    simp [go_sem]
    exact h v Hc (by simpa using g)
  | succ k ih =>
    intro a ha done v Hc hd g h
    have hlt : a < n := by omega
    have hbl := bits_len (w a)
    have hgl := g.len
    rw [HB_len] at hgl
    rw [wp_round c71_l1.eq_1]
    simp only [List.range'_succ, List.flatMap_cons, ← List.append_assoc] at h
    simp [go_sem, hlt, show a < 8 by omega, loadW (g.get (HB_old hid)) (show a < 8 by omega)]
    refine k67 (hw a) (by omega) ?_
    simp [go_sem, isL.out.len]
    refine l71a isL.out hbl hbar (bitsOf (w a)).length 0 (by omega) done v Hc (by omega) g fun v' Hc' g' => ?_
    simp [go_sem, i64_suc (show a < 1000000 by omega)]
    have := above_len (a := a) (l := bitsOf (w a))
    rw [List.drop_zero] at g'
    exact ih (a + 1) (by omega) _ v' Hc' (by simp; omega) g' h

theorem k71 {id n : Nat} {ex : Bool} {w : Nat → Nat} {fz : Nat} (hid : H[id]? = some (.row 0 (wcells n w) fz ex)) (hw : ∀ x, w x < 256) (hn : n ≤ 8) (hb : bar ≤ H.length)
    (h : Q (.agg [.int .i64 (n : Int), outL 2 (prs (houseS n w))]) H) : WpCall E pure base bar 71 [.ptr id 0 0] H Q := by
  rw [call71]
  have hb' := bar_ok (pure := pure) hb
  simp [go_sem, WpFun, c71] at hb' ⊢
  generalize (if pure = true then H.length else bar) = bar' at hb' ⊢
  simp [loadN (old_get hid), go_sem, storeWp, astore, own_get, own_set, hb', show bar' ≤ H.length + 1 by omega]
  refine l71b hid hw hn hb' n 0 (by omega) [] .nils _ (by simp) Grow.nil fun v' Hc' g => ?_
  obtain ⟨s1, s2⟩ := grow_slot g
  simp [go_sem, aload_ptr (g.get HB_get)]
  rw [storeWp_ptr (size := 2) (g.get HB_get0) rfl rfl (by omega) (by simp) hb' (.inl (Nat.le_refl _))]
  have g2 := g.set (i := H.length) (b := .row 0 [.int .i64 (n : Int), v'] 0 true) (by rw [HB_len]; omega)
  have hl2 : ((HB H n v').set H.length (.row 0 [.int .i64 (n : Int), v'] 0 true)).length = H.length + 2 := by simp [HB_len]
  have e2 : (Hc'.set H.length (.row 0 [.int .i64 (n : Int), v'] 0 true))[H.length]? = some (.row 0 [.int .i64 (n : Int), v'] 0 true) := g2.get (by simp [HB, own_set0, own_get0])
  simp [go_sem, aload_ptr e2]
  obtain ⟨H2, f1, f2, f3, f4⟩ := g2.frz (d := 4) (bar := bar') (by decide) ⟨_, prs_length⟩ prs_plain (by rw [hl2]; omega)
  have e3 : H2.take H.length = H := by
    have := congrArg (List.take H.length) f4
    rw [List.take_take, hl2, Nat.min_eq_left (by omega)] at this
    rw [this]; simp [HB, own_set0]
  rw [show 4 + 3 = 7 from rfl] at f1
  simp only [f1]
  have e4 : ([] ++ (List.range' 0 n).flatMap fun a => above a (bitsOf (w a))) = houseS n w := by rw [houseS, List.range_eq_range']; rfl
  rw [e4]
  simp [go_sem, isP.out.top, e3]
  exact h
end Go.Proofs.Ythoogegclpiefaa.Code
end

section
namespace Go.Proofs.Ythoogegclpiefaa.Code
open Go Go.Ab
variable {pure : Bool} {base bar : Nat} {H : Heap} {Q : AV → Heap → Prop}

@[go_sem] theorem aload_fp_agg {s : Nat} {cs : List AV} : aload H ⟨true, s⟩ (.fp (.agg cs)) = if cs.length = s then some (.agg cs) else none := by simp [aload]

theorem leave1_nil {e : Int} : leave 1 base bar [.nilp, .int .i64 e] H = some (.tup [.nilp, .int .i64 e], H.take base) := by
  have h2 : frzAll bar H [.nilp, .int .i64 e] = some ([.nilp, .int .i64 e], H) := rfl
  simp only [leave, h2]
  simp [firstOwn, AV.top.tops, AV.top, tupled]
theorem leave1_ptr {id ver n fz : Nat} {ex : Bool} {w : Nat → Nat} {e : Int} (hid : H[id]? = some (.row ver (wcells n w) fz ex)) (hb : base ≤ id) :
    leave 1 base bar [.ptr id ver 0, .int .i64 e] H = some (.tup [.ptr base ver 0, .int .i64 e], H.take base ++ [.row ver (wcells n w) fz ex]) := by
  have h1 : frzAll bar H (wcells n w) = some (wcells n w, H) := by
    simp only [frzAll, frz.frzs]
    exact plains (d := 6) wcells_plain
  have h2 : frzAll bar H [.ptr id ver 0, .int .i64 e] = some ([.ptr id ver 0, .int .i64 e], H) := rfl
  simp only [leave, h2]
  simp [firstOwn, hb, hid, h1, wcells_tops, movable, AV.top, moveP, tupled]

inductive Opened where
  | err (e : Int)
  | room (w : Nat → Nat)

def openF (n : Int) : (Nat → Nat) → List ZZ → Opened
  | w, [] => .room w
  | w, p :: r => if p.1 < 0 ∨ p.2 < 0 ∨ n ≤ p.1 ∨ n ≤ p.2 then .err 2 else if p.2 ≤ p.1 then .err 7 else if (w p.1.toNat).testBit p.2.toNat = true then .err 6 else openF n (joinW w p.1.toNat p.2.toNat) r
/-- the workroom of a house, or its error -/
def openS (n : Int) (l : List ZZ) : Opened := if within 1 8 n = true then openF n (fun _ => 0) l else .err 1

/-- two blocks: the house that came in, and the workroom -/
def HO (H : Heap) (n : Nat) (q : AV) (w : Nat → Nat) : Heap := H ++ [.row 0 [.int .i64 (n : Int), q] 0 true, .row 0 (wcells n w) 0 true]
theorem HO_len {n : Nat} {q : AV} {w : Nat → Nat} : (HO H n q w).length = H.length + 2 := by simp [HO]

theorem l61 {n : Nat} {q : AV} {l : List ZZ} (hq : isP q l) (hn : n ≤ 8) (hl : l.length < 1000) (hbar : bar ≤ H.length) {R : PQ} :
    ∀ (k i : Nat) (w : Nat → Nat), i + k = l.length → (∀ x, w x < 256) →
    (∀ e H', openF n w (l.drop i) = .err e → H'.take H.length = H → R .ret [(2, .nilp), (3, .int .i64 e)] H') →
    (∀ w', (∀ x, w' x < 256) → openF n w (l.drop i) = .room w' → R (.exit 0) [(1, .ptr H.length 0 0), (4, .ptr (H.length + 1) 0 0), (18, q), (19, .int .i64 (l.length : Nat)), (20, .int .i64 (l.length : Nat)), (21, .bool false)] (HO H n q w')) →
    Wp E H.length bar (.loop c61_l0) [(1, .ptr H.length 0 0), (4, .ptr (H.length + 1) 0 0), (18, q), (19, .int .i64 (l.length : Nat)), (20, .int .i64 (i : Nat))] (HO H n q w) R := by
  intro k
  induction k with
  | zero =>
    intro i w hi hw h1 h2
    obtain rfl : i = l.length := by omega
    rw [wp_round c61_l0.eq_1]
    simp [go_sem]
    rw [List.drop_length] at h2
    exact h2 w hw rfl
  | succ k ih =>
    intro i w hi hw h1 h2
    have hlt : i < l.length := by omega
    rw [wp_round c61_l0.eq_1]
    rw [List.drop_eq_getElem_cons hlt] at h1 h2
    have e0 : ∀ L : List Blk, HO H n q w ++ L = H ++ (.row 0 [.int .i64 (n : Int), q] 0 true :: .row 0 (wcells n w) 0 true :: L) := fun L => by simp [HO]
    simp [go_sem, hlt, hq.ix hlt, HO_len, zc, storeWp, astore, e0, own_get, own_set, show bar ≤ H.length + 2 by omega, aload, aop]
    generalize l[i] = p at h1 h2 ⊢
    obtain ⟨a, b⟩ := p
    simp only [openF] at h1 h2
    by_cases h0 : a < 0 ∨ b < 0 ∨ (n : Int) ≤ a ∨ (n : Int) ≤ b
    · have g1 := h1 2 (H ++ [.row 0 [.int .i64 (n : Int), q] 0 true, .row 0 (wcells n w) 0 true, .row 0 [.int .i64 a, .int .i64 b] 0 true]) (by rw [if_pos h0]) (by simp)
      by_cases h3 : 0 ≤ (if b < a then b else a)
      · have h4 : (n : Int) ≤ (if a < b then b else a) := by split at h3 <;> split <;> omega
        simp [h3, h4, go_sem]
        exact g1
      · simp [h3, go_sem]
        exact g1
    · rw [if_neg h0] at h1 h2
      obtain ⟨a, rfl⟩ := Int.eq_ofNat_of_zero_le (show 0 ≤ a by omega)
      obtain ⟨b, rfl⟩ := Int.eq_ofNat_of_zero_le (show 0 ≤ b by omega)
      have h3 : 0 ≤ (if (b : Int) < a then (b : Int) else a) := by split <;> omega
      have h4 : ¬ (n : Int) ≤ (if (a : Int) < b then (b : Int) else a) := by split <;> omega
      simp only [h3, h4, if_true, if_false]
      have ha : a < 8 := by omega
      have hb : b < 8 := by omega
      simp only [Int.toNat_natCast] at h1 h2 ⊢
      by_cases h5 : b ≤ a
      · have g1 := h1 7 (H ++ [.row 0 [.int .i64 (n : Int), q] 0 true, .row 0 (wcells n w) 0 true, .row 0 [.int .i64 (a : Int), .int .i64 (b : Int)] 0 true]) (by rw [if_pos (by omega)]) (by simp)
        simp [show (b : Int) ≤ a by omega]
        exact g1
      · rw [if_neg (by omega)] at h1 h2
        simp [go_sem, show ¬ (b : Int) ≤ a by omega, natLt, ha, wcells_get ha, k87, hw]
        cases h6 : (w a).testBit b
        · rw [if_neg (by simp [h6])] at h1 h2
          simp [go_sem]
          refine k81 (id := H.length + 1) (n := n) (ex := true) (by simp [own_get]) hw ha hb (by omega) ?_
          simp [go_sem, own_set, hq.top, HO_len, i64_suc (show i < 1000000 by omega)]
          exact ih (i + 1) _ (by omega) (joinW_lt hw ha hb) h1 h2
        · have g1 := h1 6 (H ++ [.row 0 [.int .i64 (n : Int), q] 0 true, .row 0 (wcells n w) 0 true, .row 0 [.int .i64 (a : Int), .int .i64 (b : Int)] 0 true]) (by rw [if_pos h6]) (by simp)
          simp [go_sem]
          exact g1

theorem k61 {n : Int} {q : AV} {l : List ZZ} (hq : isP q l) (hl : l.length < 1000) (hbar : bar ≤ H.length)
    (h1 : ∀ e, openS n l = .err e → Q (.tup [.nilp, .int .i64 e]) H)
    (h2 : ∀ (m : Nat) (w : Nat → Nat), n = m → 1 ≤ m → m ≤ 8 → (∀ x, w x < 256) → openS n l = .room w → Q (.tup [.ptr H.length 0 0, .int .i64 0]) (H ++ [.row 0 (wcells m w) 0 true])) :
    WpCall E false base bar 61 [.agg [.int .i64 n, q]] H Q := by
  rw [call61]
  simp [go_sem, WpFun, c61, hq.frz, aload, own_get0, k79]
  unfold openS at h1 h2
  cases hr : within 1 8 n
  · simp only [hr] at h1
    simp [go_sem, leave1_nil]
    exact h1 1 rfl
  · simp only [hr, if_true] at h1 h2
    have hr' := hr
    simp [within] at hr'
    obtain ⟨n, rfl⟩ := Int.eq_ofNat_of_zero_le (show 0 ≤ n by omega)
    have e0 : (AV.int .i64 (n : Int) :: List.replicate 8 (.int .u8 0)) = wcells n (fun _ => 0) := by simp [wcells]; rfl
    simp [go_sem, hq.len, own_get, own_get0, aload]
    refine l61 hq (by omega) hl hbar l.length 0 (fun _ => 0) (by omega) (fun _ => by decide) ?_ ?_
    · intro e H' he ht
      simp [go_sem, leave1_nil, ht]
      exact h1 e (by simpa using he)
    · intro w' hw' he
      simp [go_sem]
      rw [leave1_ptr (id := H.length + 1) (n := n) (w := w') (fz := 0) (ex := true) (by simp [HO, own_get]) (by omega)]
      simp [go_sem, HO]
      exact h2 n w' rfl (by omega) (by omega) hw' (by simpa using he)
end Go.Proofs.Ythoogegclpiefaa.Code
end

section
namespace Go.Proofs.Ythoogegclpiefaa.Code
open Go Go.Ab
variable {pure : Bool} {base bar : Nat} {H : Heap} {Q : AV → Heap → Prop}

theorem openF_err {n : Int} : ∀ {l : List ZZ} {w : Nat → Nat} {e : Int}, openF n w l = .err e → e ≠ 0
  | [], w, e, h => by simp [openF] at h
  | p :: r, w, e, h => by
    simp only [openF] at h
    split at h
    · cases h; decide
    · split at h
      · cases h; decide
      · split at h
        · cases h; decide
        · exact openF_err h
theorem openS_err {n : Int} {l : List ZZ} {e : Int} (h : openS n l = .err e) : e ≠ 0 := by
  unfold openS at h
  split at h
  · exact openF_err h
  · cases h; decide

theorem k37 {n : Int} {q : AV} {l : List ZZ} (hq : isP q l) (hl : l.length < 1000) (hbar : bar ≤ H.length)
    (h1 : ∀ e, openS n l = .err e → Q (.tup [.nils, .int .i64 e]) H)
    (h2 : ∀ (m : Nat) (w : Nat → Nat), n = m → 1 ≤ m → m ≤ 8 → (∀ x, w x < 256) → openS n l = .room w → ∀ v, isL v (largestS m w) → Q (.tup [v, .int .i64 0]) H) :
    WpCall E pure base bar 37 [.agg [.int .i64 n, q]] H Q := by
  rw [call37]
  have hb' := bar_ok (pure := pure) hbar
  simp [go_sem, WpFun, c37, hq.frz, aload] at hb' ⊢
  refine k61 hq hl (by simp; omega) ?_ ?_
  · intro e he
    simp [go_sem, openS_err he]
    exact h1 e he
  · intro m w hm hm1 hm8 hw he
    simp [go_sem]
    refine k77 (id := H.length + 1) (n := m) (w := w) (fz := 0) (ex := true) (by simp [own_get]) hw hm8 (by simp; omega) fun v hv => ?_
    simp [go_sem, hv.frz, hv.top]
    exact h2 m w hm hm1 hm8 hw he v hv

theorem k44 {n : Int} {q : AV} {l : List ZZ} (hq : isP q l) (hl : l.length < 1000) (hbar : bar ≤ H.length)
    (h1 : ∀ e, openS n l = .err e → Q (.tup [.nils, .int .i64 e]) H)
    (h2 : ∀ (m : Nat) (w : Nat → Nat), n = m → 1 ≤ m → m ≤ 8 → (∀ x, w x < 256) → openS n l = .room w → ∀ v, isL v (oftenS m w) → Q (.tup [v, .int .i64 0]) H) :
    WpCall E pure base bar 44 [.agg [.int .i64 n, q]] H Q := by
  rw [call44]
  have hb' := bar_ok (pure := pure) hbar
  simp [go_sem, WpFun, c44, hq.frz, aload] at hb' ⊢
  refine k61 hq hl (by simp; omega) ?_ ?_
  · intro e he
    simp [go_sem, openS_err he]
    exact h1 e he
  · intro m w hm hm1 hm8 hw he
    simp [go_sem]
    refine k75 (id := H.length + 1) (n := m) (by simp [own_get]) hw hm8 (by simp; omega) ?_
    have hv := isL.out (l := oftenS m w)
    generalize outL 1 (nats (oftenS m w)) = v at hv ⊢
    simp [go_sem, hv.frz, hv.top]
    exact h2 m w hm hm1 hm8 hw he v hv

theorem k50 {n : Int} {q : AV} {l : List ZZ} (hq : isP q l) (hl : l.length < 1000) (hbar : bar ≤ H.length)
    (h : Q (.int .i64 (match openS n l with | .err e => e | .room _ => 0)) H) :
    WpCall E pure base bar 50 [.agg [.int .i64 n, q]] H Q := by
  rw [call50]
  have hb' := bar_ok (pure := pure) hbar
  simp [go_sem, WpFun, c50, hq.frz, aload] at hb' ⊢
  refine k61 hq hl (by simp; omega) ?_ ?_
  · intro e he
    simp only [he] at h
    simp [go_sem]
    exact h
  · intro m w hm hm1 hm8 hw he
    simp only [he] at h
    simp [go_sem]
    exact h

theorem k18 {n : Int} {q : AV} {l : List ZZ} (hq : isP q l) (hl : l.length < 1000) (hbar : bar ≤ H.length)
    (h1 : ∀ e, openS n l = .err e → Q (.tup [.int .i64 0, .int .i64 0, .int .i64 0, .int .i64 e]) H)
    (h2 : ∀ (m : Nat) (w : Nat → Nat), n = m → 1 ≤ m → m ≤ 8 → (∀ x, w x < 256) → openS n l = .room w → oddS m w = none → Q (.tup [.int .i64 0, .int .i64 0, .int .i64 0, .int .i64 0]) H)
    (h3 : ∀ (m : Nat) (w : Nat → Nat), n = m → 1 ≤ m → m ≤ 8 → (∀ x, w x < 256) → openS n l = .room w → ∀ a b c : Nat, oddS m w = some (a, b, c) → Q (.tup [.int .i64 (a : Int), .int .i64 (b : Int), .int .i64 (c : Int), .int .i64 14]) H) :
    WpCall E pure base bar 18 [.agg [.int .i64 n, q]] H Q := by
  rw [call18]
  have hb' := bar_ok (pure := pure) hbar
  simp [go_sem, WpFun, c18, hq.frz, aload] at hb' ⊢
  refine k61 hq hl (by simp; omega) ?_ ?_
  · intro e he
    simp [go_sem, openS_err he]
    exact h1 e he
  · intro m w hm hm1 hm8 hw he
    simp [go_sem]
    refine k64 (id := H.length + 1) (n := m) (w := w) (fz := 0) (ex := true) (by simp [own_get]) hw hm8 (by simp; omega) ?_
    cases ho : oddS m w with
    | none =>
      simp [go_sem]
      exact h2 m w hm hm1 hm8 hw he ho
    | some t =>
      obtain ⟨a, b, c⟩ := t
      simp [go_sem]
      exact h3 m w hm hm1 hm8 hw he a b c ho

/-- how many brawls of a size there are -/
def countS (n : Nat) (w : Nat → Nat) (size : Int) : Nat := ((List.range' 1 (pw n - 1)).filter fun s => decide (((bitsOf s).length : Int) = size) && brawlS w s).length

theorem l43 {id n : Nat} {w : Nat → Nat} {fz : Nat} {size : Int} (hid : H[id]? = some (.row 0 (wcells n w) fz true)) (hw : ∀ x, w x < 256) (hn : n ≤ 8) (hb : bar ≤ H.length) {x : Nat} {R : PQ} :
    ∀ (k s c : Nat), s + k = pw n → c ≤ s →
    (R (.exit 1) [(1, .int .i64 size), (6, .ptr id 0 0), (8, .int .i64 ((c + ((List.range' s k).filter fun s => decide (((bitsOf s).length : Int) = size) && brawlS w s).length : Nat) : Int)), (9, .int .i64 (pw n : Nat)), (29, .bool false)] H) →
    Wp E base bar (.loop c43_l0) [(1, .int .i64 size), (6, .ptr id 0 0), (8, .int .i64 (c : Nat)), (9, .int .i64 (s : Nat))] H R := by
  intro k
  induction k with
  | zero =>
    intro s c hs hc h
    obtain rfl : s = pw n := by omega
    rw [wp_round c43_l0.eq_1]
    simp [go_sem, loadN hid, shl_i64 (show n < 62 by omega)]
    simpa using h
  | succ k ih =>
    intro s c hs hc h
    have := pw_le hn
    have h8 : s < 256 := by omega
    have hlt : s < pw n := by omega
    rw [wp_round c43_l0.eq_1]
    simp only [List.range'_succ, List.filter_cons] at h
    simp [go_sem, loadN hid, shl_i64 (show n < 62 by omega), hlt, u8_nat h8, k83 h8]
    by_cases h1 : ((bitsOf s).length : Int) = size
    · simp [go_sem, h1, u8_nat h8]
      refine k84 hid hw h8 hb ?_
      cases h2 : brawlS w s
      · simp only [h1, h2, decide_true, Bool.and_false, Bool.false_eq_true, if_false] at h
        simp [go_sem, i64_suc (show s < 1000000 by omega)]
        exact ih (s + 1) c (by omega) (by omega) h
      · simp only [h1, h2, decide_true, Bool.and_true, if_true, List.length_cons] at h
        simp [go_sem, i64_suc (show s < 1000000 by omega), i64_suc (show c < 1000000 by omega)]
        refine ih (s + 1) (c + 1) (by omega) (by omega) ?_
        rw [show ∀ m, c + 1 + m = c + (m + 1) by omega]
        exact h
    · simp only [h1, decide_false, Bool.false_and, Bool.false_eq_true, if_false] at h
      simp [go_sem, h1, i64_suc (show s < 1000000 by omega)]
      exact ih (s + 1) c (by omega) (by omega) h

theorem k43 {n size : Int} {q : AV} {l : List ZZ} (hq : isP q l) (hl : l.length < 1000) (hbar : bar ≤ H.length)
    (h1 : ∀ e, openS n l = .err e → Q (.tup [.int .i64 0, .int .i64 e]) H)
    (h2 : ∀ (m : Nat) (w : Nat → Nat), n = m → 1 ≤ m → m ≤ 8 → (∀ x, w x < 256) → openS n l = .room w → within 1 8 size = false → Q (.tup [.int .i64 0, .int .i64 1]) H)
    (h3 : ∀ (m : Nat) (w : Nat → Nat), n = m → 1 ≤ m → m ≤ 8 → (∀ x, w x < 256) → openS n l = .room w → within 1 8 size = true → Q (.tup [.int .i64 (countS m w size : Nat), .int .i64 0]) H) :
    WpCall E pure base bar 43 [.agg [.int .i64 n, q], .int .i64 size] H Q := by
  rw [call43]
  have hb' := bar_ok (pure := pure) hbar
  simp [go_sem, WpFun, c43, hq.frz, aload] at hb' ⊢
  refine k61 hq hl (by simp; omega) ?_ ?_
  · intro e he
    simp [go_sem, openS_err he]
    exact h1 e he
  · intro m w hm hm1 hm8 hw he
    simp [go_sem, k79]
    cases hr : within 1 8 size
    · simp [go_sem]
      exact h2 m w hm hm1 hm8 hw he hr
    · simp [go_sem]
      have h1 : 1 ≤ pw m := Nat.one_le_two_pow
      refine l43 (x := 0) (id := H.length + 1) (n := m) (w := w) (fz := 0) (by simp [own_get]) hw hm8 (by simp; omega) (pw m - 1) 1 0 (by omega) (by omega) ?_
      simp [go_sem]
      exact h3 m w hm hm1 hm8 hw he hr
end Go.Proofs.Ythoogegclpiefaa.Code
end

section
namespace Go.Proofs.Ythoogegclpiefaa.Code
open Go Go.Ab
variable {pure : Bool} {base bar : Nat} {H : Heap} {Q : AV → Heap → Prop}

theorem eqWp_flat2 {neg : Bool} {k1 k2 : IntKind} {a b c d : Int} {K : AV → Heap → List Nat → Prop} :
    eqWp neg (.flat [false, false]) (some (.agg [.int k1 a, .int k2 b])) (some (.agg [.int k1 c, .int k2 d])) H K = K (.bool (if neg then !(a == c && b == d) else (a == c && b == d))) H [] := by
  cases h1 : (a == c) <;> cases h2 : (b == d) <;> simp [eqWp, aeq, eqCells, eqCell, h1, h2]

/-- do two quarrel in a list -/
def qin (l : List ZZ) (a b : Int) : Bool := l.any fun p => (p.1 == a && p.2 == b) || (p.1 == b && p.2 == a)

theorem l65 {q : AV} {l : List ZZ} (hq : isP q l) (hl : l.length < 1000) {a b : Int} {R : PQ} : ∀ (k i : Nat), i + k = l.length →
    (qin (l.drop i) a b = true → R .ret [(6, .bool true)] H) →
    (qin (l.drop i) a b = false → R (.exit 0) [(0, q), (1, .int .i64 a), (2, .int .i64 b), (7, .int .i64 (l.length : Nat)), (11, .bool false)] H) →
    Wp E base bar (.loop c65_l0) [(0, q), (1, .int .i64 a), (2, .int .i64 b), (7, .int .i64 (i : Nat))] H R := by
  intro k
  induction k with
  | zero =>
    intro i hi h1 h2
    obtain rfl : i = l.length := by omega
    rw [wp_round c65_l0.eq_1]
    simp [go_sem, hq.len]
    exact h2 (by simp [qin])
  | succ k ih =>
    intro i hi h1 h2
    have hlt : i < l.length := by omega
    rw [wp_round c65_l0.eq_1]
    rw [List.drop_eq_getElem_cons hlt] at h1 h2
    obtain ⟨⟨x, y⟩, hp⟩ : ∃ p, l[i] = p := ⟨_, rfl⟩
    rw [hp] at h1 h2
    simp only [qin, List.any_cons] at h1 h2
    cases e1 : (x == a && y == b)
    · cases e2 : (x == b && y == a)
      · simp only [e1, e2, Bool.or_false, Bool.false_or] at h1 h2
        simp [go_sem, hq.len, hlt, hq.ix hlt, zc, hp, eqWp_flat2, e1, e2, i64_suc (show i < 1000000 by omega)]
        exact ih (i + 1) (by omega) h1 h2
      · simp only [e1, e2, Bool.false_or, Bool.true_or] at h1
        simp [go_sem, hq.len, hlt, hq.ix hlt, zc, hp, eqWp_flat2, e1, e2]
        exact h1 trivial
    · simp only [e1, Bool.true_or] at h1
      simp [go_sem, hq.len, hlt, hq.ix hlt, zc, hp, eqWp_flat2, e1]
      exact h1 trivial

theorem k65 {q : AV} {l : List ZZ} (hq : isP q l) (hl : l.length < 1000) {a b : Int} : WpCall E pure base bar 65 [q, .int .i64 a, .int .i64 b] H Q ↔ Q (.bool (qin l a b)) H := by
  refine ⟨fun h => ?_, fun h => ?_⟩
  · refine (WpCall.det (v0 := .bool (qin l a b)) (H0 := H) ?_).1 h
    exact main ⟨rfl, rfl⟩
  · exact main h
where
  main {Q : AV → Heap → Prop} (h : Q (.bool (qin l a b)) H) : WpCall E pure base bar 65 [q, .int .i64 a, .int .i64 b] H Q := by
    rw [call65]
    simp [go_sem, WpFun, c65, hq.frz]
    refine l65 hq hl l.length 0 (by omega) ?_ ?_
    · intro e
      rw [List.drop_zero] at e
      rw [e] at h
      simp [go_sem]
      exact h
    · intro e
      rw [List.drop_zero] at e
      rw [e] at h
      simp [go_sem]
      exact h

theorem isP.cut {q : AV} {l : List ZZ} (hq : isP q l) {i : Nat} (hi : i < l.length) : ∃ q', aslice H (.slc 2) q none (some (.int .i64 (i : Int))) none = some q' ∧ isP q' (l.take i) := by
  rcases hq with ⟨rfl, rfl⟩ | ⟨ex, rfl⟩
  · simp at hi
  · refine ⟨.lst 2 (ex && i == l.length) (prA (l.take i)), ?_, .inr ⟨_, rfl⟩⟩
    have hl : (prA l).length = l.length := by simp [prA]
    simp [aslice, optBound, bound1, AV.asNat, hl, Nat.le_of_lt hi]
    simp [prA, List.map_take]

/-- the masks say who quarrels -/
def Tells (w : Nat → Nat) (l : List ZZ) : Prop := ∀ x y : Nat, x < 8 → y < 8 → (w x).testBit y = qin l x y
theorem joinW_bit {w : Nat → Nat} {a b x y : Nat} (hab : a ≠ b) : (joinW w a b x).testBit y = ((w x).testBit y || (decide (x = a) && decide (y = b)) || (decide (x = b) && decide (y = a))) := by
  unfold joinW upd
  by_cases h1 : x = b
  · subst h1
    simp [testBit_bor, testBit_pw, Ne.symm hab, eq_comm]
  · by_cases h2 : x = a
    · subst h2; simp [testBit_bor, testBit_pw, h1, eq_comm]
    · simp [h1, h2]
theorem Tells.step {w : Nat → Nat} {l : List ZZ} {a b : Nat} (h : Tells w l) (hab : a ≠ b) : Tells (joinW w a b) (l ++ [((a : Int), (b : Int))]) := fun x y hx hy => by
  rw [joinW_bit hab, h x y hx hy]
  simp only [qin, List.any_append, List.any_cons, List.any_nil, Bool.or_false, Bool.or_assoc]
  congr 1
  have e : ∀ {u v : Nat}, ((u : Int) == (v : Int)) = decide (v = u) := fun {u v} => by
    by_cases h : u = v
    · subst h; simp
    · have : ¬ v = u := fun hc => h hc.symm
      simp [h, this]
      omega
  simp only [e]
  rw [Bool.and_comm (decide (x = b))]
def errOf : Opened → Int
  | .err e => e
  | .room _ => 0

/-- the block of a house that came in -/
def HI (H : Heap) (n : Int) (q : AV) : Heap := H ++ [.row 0 [.int .i64 n, q] 0 true]
theorem HI_len {n : Int} {q : AV} : (HI H n q).length = H.length + 1 := by simp [HI]
theorem HI_get {n : Int} {q : AV} : (HI H n q)[H.length]? = some (.row 0 [.int .i64 n, q] 0 true) := by simp [HI, own_get0]
theorem HI_n {n : Int} {q : AV} {s : Nat} : aload (HI H n q) ⟨false, s⟩ (.ptr H.length 0 0) = some (.int .i64 n) := by rw [aload_ptr HI_get]; rfl
theorem HI_q {n : Int} {q : AV} {s : Nat} : aload (HI H n q) ⟨false, s⟩ (.ptr H.length 0 1) = some q := by rw [aload_ptr HI_get]; rfl
theorem HI_h {n : Int} {q : AV} : aload (HI H n q) ⟨true, 2⟩ (.ptr H.length 0 0) = some (.agg [.int .i64 n, q]) := by rw [aload_ptr HI_get]; rfl
theorem i64_pred {n : Nat} (h : n < 1000000) : IntKind.i64.wrap ((n : Int) - 1) = (n : Int) - 1 := Go.IntWalk.i64_in _ (by omega)

theorem l27 {n : Nat} {q : AV} {l : List ZZ} (hq : isP q l) (hn : n ≤ 8) (hl : l.length < 1000) (hbar : bar ≤ H.length) {R : PQ} :
    ∀ (k i : Nat) (w : Nat → Nat), i + k = l.length → (∀ x, w x < 256) → Tells w (l.take i) →
    (∀ e, openF n w (l.drop i) = .err e → R .ret [(2, .int .i64 e)] (HI H n q)) →
    (∀ w', openF n w (l.drop i) = .room w' → R (.exit 0) [(1, .ptr H.length 0 0), (3, .int .i64 (l.length : Nat)), (14, .bool false)] (HI H n q)) →
    Wp E H.length bar (.loop c27_l0) [(1, .ptr H.length 0 0), (3, .int .i64 (i : Nat))] (HI H n q) R := by
  intro k
  induction k with
  | zero =>
    intro i w hi hw ht h1 h2
    obtain rfl : i = l.length := by omega
    rw [wp_round c27_l0.eq_1]
    simp [go_sem, HI_q, hq.len]
    rw [List.drop_length] at h2
    exact h2 w rfl
  | succ k ih =>
    intro i w hi hw ht h1 h2
    have hlt : i < l.length := by omega
    obtain ⟨q', hq1, hq2⟩ := isP.cut (H := HI H n q) hq hlt
    rw [wp_round c27_l0.eq_1]
    rw [List.drop_eq_getElem_cons hlt] at h1 h2
    obtain ⟨⟨a, b⟩, hp⟩ : ∃ p, l[i] = p := ⟨_, rfl⟩
    rw [hp] at h1 h2
    simp only [openF] at h1 h2
    simp [go_sem, HI_q, HI_n, hq.len, hlt, hq.ix hlt, hp, zc, k72, i64_pred (show n < 1000000 by omega)]
    by_cases h0 : a < 0 ∨ b < 0 ∨ (n : Int) ≤ a ∨ (n : Int) ≤ b
    · rw [if_pos h0] at h1
      have g1 := h1 2 rfl
      have e1 : (within 0 ((n : Int) - 1) a && within 0 ((n : Int) - 1) b) = false := by
        simp [within]; omega
      cases e2 : within 0 ((n : Int) - 1) a
      · simp [go_sem]; exact g1
      · rw [e2] at e1
        simp only [Bool.true_and] at e1
        simp [go_sem, HI_n, k72, i64_pred (show n < 1000000 by omega), e1]
        exact g1
    · rw [if_neg h0] at h1 h2
      obtain ⟨a, rfl⟩ := Int.eq_ofNat_of_zero_le (show 0 ≤ a by omega)
      obtain ⟨b, rfl⟩ := Int.eq_ofNat_of_zero_le (show 0 ≤ b by omega)
      have e1 : within 0 ((n : Int) - 1) a = true := by simp [within]; omega
      have e2 : within 0 ((n : Int) - 1) b = true := by simp [within]; omega
      simp only [Int.toNat_natCast] at h1 h2
      simp [go_sem, HI_n, k72, i64_pred (show n < 1000000 by omega), e1, e2]
      by_cases h5 : b ≤ a
      · rw [if_pos (by omega)] at h1
        simp [go_sem, h5]
        exact h1 7 rfl
      · rw [if_neg (by omega)] at h1 h2
        simp [go_sem, h5, HI_q, aop, Opd.evo, hq1, k65 hq2 (show (l.take i).length < 1000 by simp; omega)]
        rw [ht a b (by omega) (by omega)] at h1 h2
        cases h6 : qin (l.take i) a b
        · rw [if_neg (by simp [h6])] at h1 h2
          simp [go_sem, i64_suc (show i < 1000000 by omega)]
          refine ih (i + 1) (joinW w a b) (by omega) (joinW_lt hw (by omega) (by omega)) ?_ h1 h2
          have := ht.step (a := a) (b := b) (by omega)
          rw [List.take_succ_eq_append_getElem hlt, hp]
          exact this
        · rw [if_pos h6] at h1
          simp [go_sem]
          exact h1 6 rfl

theorem k27 {n : Int} {q : AV} {l : List ZZ} (hq : isP q l) (hl : l.length < 1000) (hbar : bar ≤ H.length) : WpCall E pure base bar 27 [.agg [.int .i64 n, q]] H Q ↔ Q (.int .i64 (errOf (openS n l))) H := by
  refine ⟨fun h => ?_, fun h => ?_⟩
  · refine (WpCall.det (v0 := .int .i64 (errOf (openS n l))) (H0 := H) ?_).1 h
    exact main hq hl hbar ⟨rfl, rfl⟩
  · exact main hq hl hbar h
where
  main {Q : AV → Heap → Prop} (hq : isP q l) (hl : l.length < 1000) (hbar : bar ≤ H.length) (h : Q (.int .i64 (errOf (openS n l))) H) : WpCall E pure base bar 27 [.agg [.int .i64 n, q]] H Q := by
    rw [call27]
    have hb' := bar_ok (pure := pure) hbar
    have e0 : H ++ [.row 0 [.int .i64 n, q] 0 true] = HI H n q := rfl
    simp [go_sem, WpFun, c27, hq.frz, e0, HI_n, k72] at hb' ⊢
    unfold openS at h
    cases hr : within 1 8 n
    · simp only [hr] at h
      simp [go_sem, HI]
      exact h
    · simp only [hr, if_true] at h
      have hr' := hr
      simp [within] at hr'
      obtain ⟨n, rfl⟩ := Int.eq_ofNat_of_zero_le (show 0 ≤ n by omega)
      simp [go_sem]
      refine l27 hq (by omega) hl hb' l.length 0 (fun _ => 0) (by omega) (fun _ => by decide) (fun x y _ _ => by simp [qin]) ?_ ?_
      · intro e he
        rw [List.drop_zero] at he
        rw [he] at h
        simp [go_sem, HI]
        exact h
      · intro w' he
        rw [List.drop_zero] at he
        rw [he] at h
        simp [go_sem, HI]
        exact h
end Go.Proofs.Ythoogegclpiefaa.Code
end
