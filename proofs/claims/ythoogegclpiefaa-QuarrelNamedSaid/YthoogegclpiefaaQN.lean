/-
  Parts of the proofs about this chapter, joined: contracts of functions and plain laws.
-/
import Derived.Test.YthoogegclpiefaaCall
import Derived.Test.YthoogegclpiefaaAbO
import Derived.Test.YthoogegclpiefaaAbArg
set_option linter.all false
section
namespace Go.Proofs.Ythoogegclpiefaa.Code
open Go Go.Ab
attribute [go_sem ↓] wpop_app
variable {pure : Bool} {base bar : Nat} {H : Heap} {Q : AV → Heap → Prop}
/-- is a number from a to b -/
def within (a b n : Int) : Bool := decide (a ≤ n) && decide (n ≤ b)
theorem k79 {n : Int} : WpCall E pure base bar 79 [.int .i64 n] H Q ↔ Q (.bool (within 1 8 n)) H := by
  rw [call79]
  simp [go_sem, WpFun, c79]
  unfold within
  by_cases h : 1 ≤ n <;> simp [h]
def tz8 (s : Nat) : Nat := ((List.range 8).find? (s.testBit ·)).getD 8
theorem tz8_tab : ∀ i, i < 256 → c66_b0[i]? = some (tz8 i).toUInt8 := by decide +kernel
theorem tz8_lt (s : Nat) : tz8 s ≤ 8 := by
  unfold tz8
  cases h : (List.range 8).find? (s.testBit ·) with
  | none => simp
  | some i => have := List.mem_of_find?_eq_some h; simp at this; simp; omega
theorem k66 {s : Nat} (hs : s < 256) : WpCall E pure base bar 66 [.int .u8 s] H Q ↔ Q (.int .i64 (tz8 s)) H := by
  rw [call66]
  have h2 := tz8_lt s
  simp [go_sem, WpFun, c66, aop, AV.asNat, tz8_tab s hs]
  rw [show ((tz8 s : Nat) : Int) % 256 = tz8 s by omega, i64_nat (by omega)]
/-- the people of a set -/
def bitsOf (s : Nat) : List Nat := (List.range 8).filter (s.testBit ·)
theorem bits_step : ∀ s, s < 256 → s ≠ 0 → bitsOf s = tz8 s :: bitsOf (band s (s - 1)) ∧ band s (s - 1) < s := by decide +kernel
theorem bits_zero : bitsOf 0 = [] := by decide
theorem bits_len (s : Nat) : (bitsOf s).length ≤ 8 := by
  unfold bitsOf
  exact Nat.le_trans (List.length_filter_le _ _) (by simp)
theorem u8_sub1 {s : Nat} (hs : s < 256) (h0 : s ≠ 0) : IntKind.u8.wrap ((s : Int) - 1) = ((s - 1 : Nat) : Int) := by
  rw [show (s : Int) - 1 = ((s - 1 : Nat) : Int) by omega, u8_nat (by omega)]
theorem l67 (H0 : Heap) (hb : bar ≤ H0.length) (hbase : base ≤ H0.length) {R : PQ} : ∀ (s : Nat), s < 256 → ∀ (done : List Nat) (v : AV) (H : Heap), Grow 1 (nats done) H0 v H → done.length + (bitsOf s).length ≤ 1000 →
    (∀ v' H', Grow 1 (nats (done ++ bitsOf s)) H0 v' H' → R (.exit 0) [(0, .int .u8 0), (3, v'), (5, .bool false)] H') →
    Wp E base bar (.loop c67_l0) [(0, .int .u8 s), (3, v)] H R := by
  intro s
  induction s using Nat.strongRecOn with
  | _ s ih =>
    intro hs done v H hg hl h
    rw [wp_round c67_l0.eq_1]
    simp [go_sem]
    by_cases h0 : s = 0
    · subst h0
      simp [go_sem]
      exact h v H (by simpa [bits_zero] using hg)
    · have e := bits_step s hs h0
      simp [go_sem, h0, k66 hs, aop, fillA, setCells, chunks, AV.noVec.noVecs, AV.noVec]
      rw [e.1] at hl
      simp at hl
      refine hg.nat hb hbase (by omega) fun v' H' tc g' => ?_
      simp [go_sem, u8_sub1 hs h0, and_u8 hs (show s - 1 < 256 by omega)]
      refine ih _ e.2 (by omega) _ _ _ g' (by simp; omega) fun v'' H'' g'' => h _ _ ?_
      rw [e.1]; simpa using g''
theorem k67 {s : Nat} (hs : s < 256) (hb : bar ≤ H.length) (h : Q (outL 1 (nats (bitsOf s))) H) : WpCall E pure base bar 67 [.int .u8 s] H Q := by
  rw [call67]
  have hb := bar_ok (pure := pure) hb
  simp [go_sem, WpFun, c67] at hb ⊢
  refine l67 H hb (Nat.le_refl _) s hs [] _ _ .nil (by have := bits_len s; simp; omega) fun v' H' g => ?_
  simp [go_sem]
  refine g.out hb (Nat.le_refl _) ?_
  simpa using h
end Go.Proofs.Ythoogegclpiefaa.Code
end
section
namespace Go.Proofs.Ythoogegclpiefaa.Code
open Go Go.Ab
variable {pure : Bool} {base bar : Nat} {H : Heap} {Q : AV → Heap → Prop}
theorem k87 {s x : Nat} (hs : s < 256) : WpCall E pure base bar 87 [.int .u8 s, .int .i64 x] H Q ↔ Q (.bool (s.testBit x)) H := by
  rw [call87]
  simp [go_sem, WpFun, c87, shr_u8, and_u8_one, shr_lt hs, shr_bit s hs]
  cases s.testBit x <;> simp
theorem k90 {n : Int} : WpCall E pure base bar 90 [.int .i64 n] H Q ↔ Q (.bool false) H := by
  rw [call90]
  simp [go_sem, WpFun, c90]
def cmp3 (a b : Nat) : Int := if a < b then -1 else if b < a then 1 else 0
theorem k88 {a b : Nat} : WpCall E pure base bar 88 [.int .i64 a, .int .i64 b] H Q ↔ Q (.int .i64 (cmp3 a b)) H := by
  rw [call88]
  simp [go_sem, WpFun, c88, k90]

  unfold cmp3
  by_cases h : a < b
  · simp [h]
  · by_cases h2 : b < a <;> simp [h, h2]
/-- two people quarrel -/
def joinW (w : Nat → Nat) (a b : Nat) : Nat → Nat := upd (upd w a (bor (w a) (pw b))) b (bor (upd w a (bor (w a) (pw b)) b) (pw a))
theorem upd_lt {w : Nat → Nat} {i x : Nat} (hw : ∀ j, w j < 256) (hx : x < 256) : ∀ j, upd w i x j < 256 := fun j => by unfold upd; split <;> simp [*]
theorem joinW_lt {w : Nat → Nat} {a b : Nat} (hw : ∀ j, w j < 256) (ha : a < 8) (hb : b < 8) : ∀ j, joinW w a b j < 256 := by
  have h1 := upd_lt (i := a) hw (bor_lt (hw a) (pw_lt hb))
  exact upd_lt h1 (bor_lt (h1 b) (pw_lt ha))
theorem k81 {id ver n a b : Nat} {ex : Bool} {w : Nat → Nat} (hid : H[id]? = some (.row ver (wcells n w) 0 ex)) (hw : ∀ x, w x < 256) (ha : a < 8) (hb : b < 8) (hbar : bar ≤ id)
    (h : Q (.tup []) (H.set id (.row ver (wcells n (joinW w a b)) 0 ex))) :
    WpCall E false base bar 81 [.ptr id ver 0, .int .i64 a, .int .i64 b] H Q := by
  rw [call81]
  have h1 := upd_lt (i := a) hw (bor_lt (hw a) (pw_lt hb))
  simp [go_sem, WpFun, c81, ha, hb, loadW hid, storeW hid, shl_u8, or_u8, hw, pw_lt, hbar, loadW (set_row hid), storeW (set_row hid), h1, set_take]
  exact h
/-- the number at the head of a workroom, and of whom each one's enemies are -/
theorem k89_tab : ∀ i, i < 256 → c89_b0[i]? = some (bitsOf i).length.toUInt8 := by decide +kernel
theorem k83 {s : Nat} (hs : s < 256) : WpCall E pure base bar 83 [.int .u8 s] H Q ↔ Q (.int .i64 ((bitsOf s).length : Nat)) H := by
  rw [call83]
  have h2 := bits_len s
  have e : (((bitsOf s).length : Nat) : Int) % 256 = (bitsOf s).length := by omega
  simp [go_sem, WpFun, c83, call89, c89, aop, AV.asNat, k89_tab s hs, e, i64_nat (show (bitsOf s).length < 9223372036854775808 by omega)]
end Go.Proofs.Ythoogegclpiefaa.Code
end
section
namespace Go.Proofs.Ythoogegclpiefaa.Code
open Go Go.Ab
variable {pure : Bool} {base bar : Nat} {H : Heap} {Q : AV → Heap → Prop}
def cmpL : List Nat → List Nat → Int
  | [], [] => 0
  | [], _ :: _ => -1
  | _ :: _, [] => 1
  | a :: x, b :: y => if cmp3 a b = 0 then cmpL x y else cmp3 a b
theorem i64_suc {i : Nat} (h : i < 1000000) : IntKind.i64.wrap ((i : Int) + 1) = ((i + 1 : Nat) : Int) := by
  rw [show (i : Int) + 1 = ((i + 1 : Nat) : Int) by omega, i64_nat (by omega)]
theorem cmpL_nil {x y : List Nat} (h : x.length ≤ y.length) (hx : x = []) : cmpL x y = if x.length < y.length then -1 else 0 := by
  subst hx
  cases y <;> simp [cmpL]
theorem l82 {a b : AV} {x y : List Nat} (ha : isL a x) (hb : isL b y) (hx : x.length < 100000) (hy : y.length < 100000) {R : PQ} : ∀ (k i : Nat), i + k = x.length → i ≤ y.length →
    (R .ret [(4, .int .i64 (cmpL (x.drop i) (y.drop i)))] H) →
    (x.length ≤ y.length → cmpL (x.drop i) (y.drop i) = (if x.length < y.length then -1 else 0) → R (.exit 0) [(0, a), (1, b), (9, a), (10, .int .i64 (x.length : Nat)), (11, .int .i64 (x.length : Nat)), (12, .bool false)] H) →
    Wp E base bar (.loop c82_l0) [(0, a), (1, b), (9, a), (10, .int .i64 (x.length : Nat)), (11, .int .i64 (i : Nat))] H R := by
  intro k
  induction k with
  | zero =>
    intro i hi hy2 hr he
    obtain rfl : i = x.length := by omega
    rw [wp_round c82_l0.eq_1]
    simp [go_sem]
    refine he hy2 ?_
    have := cmpL_nil (x := x.drop x.length) (y := y.drop x.length) (by simp) (by simp)
    rw [this]
    simp only [List.length_drop, Nat.sub_self]
    have : (0 < y.length - x.length) ↔ (x.length < y.length) := by omega
    simp [this]
  | succ k ih =>
    intro i hi hy2 hr he
    rw [wp_round c82_l0.eq_1]
    have hlt : i < x.length := by omega
    simp [go_sem, hlt, ha.ix hlt, hb.len]
    by_cases hyi : y.length ≤ i
    · simp [go_sem, hyi]
      rw [List.drop_eq_getElem_cons hlt, List.drop_eq_nil_of_le hyi] at hr
      exact hr
    · have hyi : i < y.length := by omega
      simp [go_sem, show ¬ y.length ≤ i by omega, hb.ix hyi, k88]
      rw [List.drop_eq_getElem_cons hlt, List.drop_eq_getElem_cons hyi] at hr he
      simp only [cmpL] at hr he
      by_cases hc : cmp3 x[i] y[i] = 0
      · simp [go_sem, hc, i64_suc (show i < 1000000 by omega)] at hr he ⊢
        exact ih (i + 1) (by omega) (by omega) hr he
      · simp [go_sem, hc] at hr ⊢
        exact hr
theorem k82 {a b : AV} {x y : List Nat} (ha : isL a x) (hb : isL b y) (hx : x.length < 100000) (hy : y.length < 100000) (h : Q (.int .i64 (cmpL x y)) H) : WpCall E pure base bar 82 [a, b] H Q := by
  rw [call82]
  simp [go_sem, WpFun, c82, ha.frz, hb.frz, ha.len]
  refine l82 ha hb hx hy x.length 0 (by omega) (by omega) ?_ ?_
  · simp [go_sem]; exact h
  · intro hl he
    simp only [List.drop_zero] at he
    rw [he] at h
    simp [go_sem, ha.len, hb.len]
    by_cases hc : x.length < y.length
    · simp [go_sem, hc] at h ⊢; exact h
    · simp [go_sem, hc] at h ⊢; exact h
theorem bits_lt {s x : Nat} (h : x ∈ bitsOf s) : x < 8 := by simp [bitsOf] at h; exact h.1
/-- each two of a set quarrel -/
def brawlS (w : Nat → Nat) (s : Nat) : Bool := (bitsOf s).all fun x => clr s (w x) == pw x
theorem l84 {id ver n s : Nat} {ex : Bool} {w : Nat → Nat} {fz : Nat} {v : AV} {l : List Nat} (hid : H[id]? = some (.row ver (wcells n w) fz ex)) (hw : ∀ x, w x < 256) (hs : s < 256) (hv : isL v l) (h8 : ∀ x ∈ l, x < 8) (hl : l.length < 1000) {R : PQ} :
    ∀ (k i : Nat), i + k = l.length →
    (((l.drop i).all fun x => clr s (w x) == pw x) = false → R .ret [(4, .bool false)] H) →
    (((l.drop i).all fun x => clr s (w x) == pw x) = true → R (.exit 0) [(0, .ptr id ver 0), (1, .int .u8 s), (8, v), (9, .int .i64 (l.length : Nat)), (10, .int .i64 (l.length : Nat)), (11, .bool false)] H) →
    Wp E base bar (.loop c84_l0) [(0, .ptr id ver 0), (1, .int .u8 s), (8, v), (9, .int .i64 (l.length : Nat)), (10, .int .i64 (i : Nat))] H R := by
  intro k
  induction k with
  | zero =>
    intro i hi hr he
    obtain rfl : i = l.length := by omega
    rw [wp_round c84_l0.eq_1]
    simp [go_sem]
    exact he (by simp)
  | succ k ih =>
    intro i hi hr he
    have hlt : i < l.length := by omega
    have hx := h8 _ (List.getElem_mem hlt)
    rw [wp_round c84_l0.eq_1]
    rw [List.drop_eq_getElem_cons hlt] at hr he
    simp [go_sem, hlt, hv.ix hlt, loadW hid hx, andNot_u8, hw, hs, shl_u8, hx]
    by_cases hc : clr s (w l[i]) = pw l[i]
    · simp only [List.all_cons, show (clr s (w l[i]) == pw l[i]) = true by simpa using hc, Bool.true_and] at hr he
      simp [go_sem, show ((clr s (w l[i]) : Nat) : Int) = (pw l[i] : Nat) by rw [hc], i64_suc (show i < 1000000 by omega)]
      exact ih (i + 1) (by omega) hr he
    · simp only [List.all_cons, show (clr s (w l[i]) == pw l[i]) = false by simpa using hc, Bool.false_and] at hr
      simp [go_sem, show ¬ ((clr s (w l[i]) : Nat) : Int) = (pw l[i] : Nat) by omega]
      exact hr trivial
theorem k84 {id ver n s : Nat} {ex : Bool} {w : Nat → Nat} {fz : Nat} (hid : H[id]? = some (.row ver (wcells n w) fz ex)) (hw : ∀ x, w x < 256) (hs : s < 256) (hb : bar ≤ H.length) (h : Q (.bool (brawlS w s)) H) :
    WpCall E pure base bar 84 [.ptr id ver 0, .int .u8 s] H Q := by
  rw [call84]
  have hb' := bar_ok (pure := pure) hb
  simp [go_sem, WpFun, c84] at hb' ⊢
  refine k67 hs hb' ?_
  have hl := bits_len s
  simp [go_sem, isL.out.len]
  refine l84 hid hw hs isL.out (fun x hx => bits_lt hx) (by omega) (bitsOf s).length 0 (by omega) ?_ ?_
  · intro he
    simp only [List.drop_zero] at he
    simp [go_sem]
    rw [show brawlS w s = false from he] at h; exact h
  · intro he
    simp only [List.drop_zero] at he
    simp [go_sem]
    rw [show brawlS w s = true from he] at h; exact h
end Go.Proofs.Ythoogegclpiefaa.Code
end
section
namespace Go.Proofs.Ythoogegclpiefaa.Code
open Go Go.Ab
variable {pure : Bool} {base bar : Nat} {H : Heap} {Q : AV → Heap → Prop}
theorem shl_i64 {n : Nat} (hn : n < 62) : abin .shl (.int .i64 1) (.int .i64 (n : Int)) = some (.int .i64 ((pw n : Nat) : Int)) := by
  have h2 : (2 : Nat) ^ n < 9223372036854775808 := Nat.lt_of_lt_of_le (Nat.pow_lt_pow_right (by decide) hn) (by decide)
  simp only [abin]
  rw [if_neg (by omega), Int.toNat_natCast, show min n IntKind.i64.bits = n from Nat.min_eq_left (by simp [IntKind.bits]; omega)]
  rw [show (1 : Int) * 2 ^ n = ((2 ^ n : Nat) : Int) by simp, i64_nat h2]; rfl
def bestStep (w : Nat → Nat) (best : List Nat) (s : Nat) : List Nat :=
  if best.length ≤ (bitsOf s).length ∧ brawlS w s = true ∧ (best.length < (bitsOf s).length ∨ cmpL (bitsOf s) best < 0) then bitsOf s else best
/-- the first largest brawl -/
def largestS (n : Nat) (w : Nat → Nat) : List Nat := (List.range' 1 (pw n - 1)).foldl (bestStep w) []
theorem pw_le {n : Nat} (hn : n ≤ 8) : pw n ≤ 256 := Nat.pow_le_pow_right (by decide) hn
theorem l77 {id ver n : Nat} {ex : Bool} {w : Nat → Nat} {fz : Nat} (hid : H[id]? = some (.row ver (wcells n w) fz ex)) (hw : ∀ x, w x < 256) (hn : n ≤ 8) (hb : bar ≤ H.length) {R : PQ} :
    ∀ (k s : Nat) (best : List Nat) (bv : AV), s + k = pw n → isL bv best → best.length ≤ 8 →
    (∀ bv', isL bv' ((List.range' s k).foldl (bestStep w) best) → R (.exit 0) [(0, .ptr id ver 0), (3, bv'), (4, .int .i64 (pw n : Nat)), (12, .bool false)] H) →
    Wp E base bar (.loop c77_l0) [(0, .ptr id ver 0), (3, bv), (4, .int .i64 (s : Nat))] H R := by
  intro k
  induction k with
  | zero =>
    intro s best bv hs hv hl h
    obtain rfl : s = pw n := by omega
    rw [wp_round c77_l0.eq_1]
    simp [go_sem, loadN hid, shl_i64 (show n < 62 by omega)]
    exact h bv hv
  | succ k ih =>
    intro s best bv hs hv hl h
    have := pw_le hn
    have h8 : s < 256 := by omega
    have hlt : s < pw n := by omega
    have hbl := bits_len s
    rw [wp_round c77_l0.eq_1]
    simp [go_sem, loadN hid, shl_i64 (show n < 62 by omega), hlt, u8_nat h8]
    refine k67 h8 hb ?_
    simp only [List.range'_succ, List.foldl_cons] at h
    have hst : bestStep w best s = if best.length ≤ (bitsOf s).length ∧ brawlS w s = true ∧ (best.length < (bitsOf s).length ∨ cmpL (bitsOf s) best < 0) then bitsOf s else best := rfl
    simp [go_sem, isL.out.len, hv.len]
    by_cases h1 : best.length ≤ (bitsOf s).length
    · simp [go_sem, h1, u8_nat h8]
      refine k84 hid hw h8 hb ?_
      cases h2 : brawlS w s
      · simp [go_sem, i64_suc (show s < 1000000 by omega)]
        rw [hst, if_neg (by simp [h2])] at h
        exact ih (s + 1) best bv (by omega) hv hl h
      · simp [go_sem, isL.out.len, hv.len]
        by_cases h3 : best.length < (bitsOf s).length
        · simp [go_sem, h3, show ¬ (bitsOf s).length ≤ best.length by omega, i64_suc (show s < 1000000 by omega)]
          rw [hst, if_pos ⟨h1, h2, .inl h3⟩] at h
          exact ih (s + 1) _ _ (by omega) isL.out hbl h
        · simp [go_sem, h3, show (bitsOf s).length ≤ best.length by omega]
          refine k82 isL.out hv (by omega) (by omega) ?_
          simp [go_sem]
          by_cases h4 : cmpL (bitsOf s) best < 0
          · simp [go_sem, h4, i64_suc (show s < 1000000 by omega)]
            rw [hst, if_pos ⟨h1, h2, .inr h4⟩] at h
            exact ih (s + 1) _ _ (by omega) isL.out hbl h
          · simp [go_sem, h4, i64_suc (show s < 1000000 by omega)]
            rw [hst, if_neg (by intro hc; rcases hc.2.2 with h | h <;> contradiction)] at h
            exact ih (s + 1) best bv (by omega) hv hl h
    · simp [go_sem, h1, i64_suc (show s < 1000000 by omega)]
      rw [hst, if_neg (by intro hc; exact h1 hc.1)] at h
      exact ih (s + 1) best bv (by omega) hv hl h
theorem k77 {id ver n : Nat} {ex : Bool} {w : Nat → Nat} {fz : Nat} (hid : H[id]? = some (.row ver (wcells n w) fz ex)) (hw : ∀ x, w x < 256) (hn : n ≤ 8) (hb : bar ≤ H.length) (h : ∀ v, isL v (largestS n w) → Q v H) :
    WpCall E pure base bar 77 [.ptr id ver 0] H Q := by
  rw [call77]
  have hb' := bar_ok (pure := pure) hb
  simp [go_sem, WpFun, c77] at hb' ⊢
  have h1 : 1 ≤ pw n := Nat.one_le_two_pow
  refine l77 hid hw hn hb' (pw n - 1) 1 [] .nils (by omega) .nil (by simp) fun v hv => ?_
  simp [go_sem]
  refine leaveL hv ?_
  simpa using h v hv
end Go.Proofs.Ythoogegclpiefaa.Code
end
section
namespace Go.Proofs.Ythoogegclpiefaa.Code
open Go Go.Ab
variable {pure : Bool} {base bar : Nat} {H : Heap} {Q : AV → Heap → Prop}
theorem natEq {a b : Nat} : ((a : Int) = (b : Int)) ↔ a = b := by omega
theorem natLt {a : Nat} : ((a : Int) < 8) ↔ a < 8 := by omega
/-- b copies a: all forget b -/
def forgetW (w : Nat → Nat) (b k : Nat) : Nat → Nat := fun x => if x < k then clr (w x) (pw b) else w x
theorem forgetW_lt {w : Nat → Nat} {b k : Nat} (hw : ∀ x, w x < 256) : ∀ x, forgetW w b k x < 256 := fun x => by
  unfold forgetW; split
  · exact clr_lt (hw x)
  · exact hw x
def joins (w : Nat → Nat) (b : Nat) (l : List Nat) : Nat → Nat := l.foldl (fun w x => joinW w b x) w
/-- b copies a -/
def takeW (n : Nat) (w : Nat → Nat) (a b : Nat) : Nat → Nat := joins (upd (forgetW w b n) b 0) b (bitsOf (upd (forgetW w b n) b 0 a))
end Go.Proofs.Ythoogegclpiefaa.Code
end
section
namespace Go.Proofs.Ythoogegclpiefaa.Code
open Go Go.Ab
variable {pure : Bool} {base bar : Nat} {H : Heap} {Q : AV → Heap → Prop}
theorem all_shl {n : Nat} (hn : n ≤ 8) : abin .shl (.int .u8 1) (.int .i64 (n : Int)) = some (.int .u8 (IntKind.u8.wrap (pw n : Nat))) := by
  have : n = 0 ∨ n = 1 ∨ n = 2 ∨ n = 3 ∨ n = 4 ∨ n = 5 ∨ n = 6 ∨ n = 7 ∨ n = 8 := by omega
  rcases this with rfl | rfl | rfl | rfl | rfl | rfl | rfl | rfl | rfl <;> rfl
theorem all_sub {n : Nat} (hn : n ≤ 8) : IntKind.u8.wrap (IntKind.u8.wrap ((pw n : Nat) : Int) - 1) = ((pw n - 1 : Nat) : Int) := by
  have : n = 0 ∨ n = 1 ∨ n = 2 ∨ n = 3 ∨ n = 4 ∨ n = 5 ∨ n = 6 ∨ n = 7 ∨ n = 8 := by omega
  rcases this with rfl | rfl | rfl | rfl | rfl | rfl | rfl | rfl | rfl <;> rfl
/-- whom a quarrels with, and b does not -/
def oddC (n : Nat) (w : Nat → Nat) (a b : Nat) : Option Nat :=
  if a = b ∨ (w a).testBit b = true then none else (bitsOf (band (clr (w a) (w b)) (pw n - 1))).head?
def oddB (n : Nat) (w : Nat → Nat) (a : Nat) (l : List Nat) : Option (Nat × Nat × Nat) := l.findSome? fun b => (oddC n w a b).map fun c => (a, b, c)
/-- the first three who prove that a house is not parted -/
def oddS (n : Nat) (w : Nat → Nat) : Option (Nat × Nat × Nat) := (List.range n).findSome? fun a => oddB n w a (List.range n)
theorem l64a {id ver n a : Nat} {ex : Bool} {w : Nat → Nat} {fz : Nat} (hid : H[id]? = some (.row ver (wcells n w) fz ex)) (hw : ∀ x, w x < 256) (hn : n ≤ 8) (ha : a < n) (hbar : bar ≤ H.length) {R : PQ} :
    ∀ (k b : Nat), b + k = n → ∀ (x : Int),
    (oddB n w a (List.range' b k) = none → ∀ x' : Int, R (.exit 2) [(0, .ptr id ver 0), (2, .int .i64 (a : Nat)), (3, .int .i64 x'), (4, .int .i64 0), (5, .bool false), (6, .int .u8 (pw n - 1 : Nat)), (17, .int .i64 (n : Nat)), (18, .int .i64 (a : Nat)), (24, .int .i64 (n : Nat)), (25, .int .i64 (n : Nat)), (26, .bool false)] H) →
    (∀ b' c : Nat, oddB n w a (List.range' b k) = some (a, b', c) → R (.exit 0) [(2, .int .i64 (a : Nat)), (3, .int .i64 (b' : Nat)), (4, .int .i64 (c : Nat)), (5, .bool true)] H) →
    Wp E base bar (.loop c64_l0) [(0, .ptr id ver 0), (2, .int .i64 (a : Nat)), (3, .int .i64 x), (4, .int .i64 0), (5, .bool false), (6, .int .u8 (pw n - 1 : Nat)), (17, .int .i64 (n : Nat)), (18, .int .i64 (a : Nat)), (24, .int .i64 (n : Nat)), (25, .int .i64 (b : Nat))] H R := by
  intro k
  induction k with
  | zero =>
    intro b hb x h1 h2
    obtain rfl : b = n := by omega
    rw [wp_round c64_l0.eq_1]
    simp [go_sem]
    exact h1 rfl x
  | succ k ih =>
    intro b hb x h1 h2
    have hlt : b < n := by omega
    have hp := pw_le hn
    have hp1 : 1 ≤ pw n := Nat.one_le_two_pow
    have e : oddB n w a (List.range' b (k + 1)) = match oddC n w a b with
        | some c => some (a, b, c)
        | none => oddB n w a (List.range' (b + 1) k) := by
      simp only [oddB, List.range'_succ, List.findSome?_cons]
      cases oddC n w a b <;> rfl
    rw [e] at h1 h2
    rw [wp_round c64_l0.eq_1]
    simp [go_sem, hlt, natEq]
    by_cases h3 : a = b
    · have e2 : oddC n w a b = none := by simp [oddC, h3]
      simp only [e2] at h1 h2
      simp [go_sem, h3, i64_suc (show b < 1000000 by omega)]
      rw [← h3]
      have := ih (b + 1) (by omega) (b : Int) h1 h2
      simp only [h3] at this ⊢
      exact this
    · simp [go_sem, h3, show a < 8 by omega, show b < 8 by omega, loadW hid (show a < 8 by omega), k87, hw]
      cases h4 : (w a).testBit b
      · simp [go_sem, show b < 8 by omega, loadW hid (show b < 8 by omega), andNot_u8, hw, and_u8 (clr_lt (hw a)) (show pw n - 1 < 256 by omega)]
        refine k67 (band_lt (clr_lt (hw a))) hbar ?_
        have hl := isL.out (l := bitsOf (band (clr (w a) (w b)) (pw n - 1)))
        have e2 : oddC n w a b = (bitsOf (band (clr (w a) (w b)) (pw n - 1))).head? := by simp [oddC, h3, h4]
        rw [e2] at h1 h2
        generalize bitsOf (band (clr (w a) (w b)) (pw n - 1)) = l at hl h1 h2
        cases l with
        | nil =>
          simp only [List.head?_nil] at h1 h2
          simp [go_sem, hl.len, i64_suc (show b < 1000000 by omega)]
          exact ih (b + 1) (by omega) (b : Int) h1 h2
        | cons c r =>
          simp only [List.head?_cons] at h1 h2
          simp [go_sem, hl.len, show (0 : Int) < (r.length : Int) + 1 by omega, hl.ix0]
          exact h2 b c rfl
      · have e2 : oddC n w a b = none := by simp [oddC, h4]
        simp only [e2] at h1 h2
        simp [go_sem, h4, i64_suc (show b < 1000000 by omega)]
        exact ih (b + 1) (by omega) (b : Int) h1 h2
theorem l64b {id ver n : Nat} {ex : Bool} {w : Nat → Nat} {fz : Nat} (hid : H[id]? = some (.row ver (wcells n w) fz ex)) (hw : ∀ x, w x < 256) (hn : n ≤ 8) (hbar : bar ≤ H.length) {R : PQ} :
    ∀ (k a : Nat), a + k = n → ∀ (x y : Int),
    (((List.range' a k).findSome? fun a => oddB n w a (List.range n)) = none → ∀ x' y' : Int, R (.exit 0) [(0, .ptr id ver 0), (2, .int .i64 x'), (3, .int .i64 y'), (4, .int .i64 0), (5, .bool false), (6, .int .u8 (pw n - 1 : Nat)), (17, .int .i64 (n : Nat)), (18, .int .i64 (n : Nat)), (19, .bool false)] H) →
    (∀ a' b' c : Nat, ((List.range' a k).findSome? fun a => oddB n w a (List.range n)) = some (a', b', c) → R (.exit 0) [(2, .int .i64 (a' : Nat)), (3, .int .i64 (b' : Nat)), (4, .int .i64 (c : Nat)), (5, .bool true)] H) →
    Wp E base bar (.loop c64_l1) [(0, .ptr id ver 0), (2, .int .i64 x), (3, .int .i64 y), (4, .int .i64 0), (5, .bool false), (6, .int .u8 (pw n - 1 : Nat)), (17, .int .i64 (n : Nat)), (18, .int .i64 (a : Nat))] H R := by
  intro k
  induction k with
  | zero =>
    intro a ha x y h1 h2
    obtain rfl : a = n := by omega
    rw [wp_round c64_l1.eq_1]
    simp [go_sem]
    exact h1 rfl x y
  | succ k ih =>
    intro a ha x y h1 h2
    have hlt : a < n := by omega
    rw [wp_round c64_l1.eq_1]
    simp only [List.range'_succ, List.findSome?_cons] at h1 h2
    simp [go_sem, hlt, loadN hid]
    refine l64a hid hw hn hlt hbar n 0 (by omega) y ?_ ?_
    · intro he x'
      rw [← List.range_eq_range'] at he
      simp only [he] at h1 h2
      simp [go_sem, i64_suc (show a < 1000000 by omega)]
      exact ih (a + 1) (by omega) (a : Int) x' h1 h2
    · intro b' c he
      rw [← List.range_eq_range'] at he
      simp only [he] at h2
      simp [go_sem]
      exact h2 a b' c rfl
theorem k64 {id ver n : Nat} {ex : Bool} {w : Nat → Nat} {fz : Nat} (hid : H[id]? = some (.row ver (wcells n w) fz ex)) (hw : ∀ x, w x < 256) (hn : n ≤ 8) (hb : bar ≤ H.length)
    (h : Q (match oddS n w with
      | none => .tup [.int .i64 0, .int .i64 0, .int .i64 0, .bool false]
      | some (a, b, c) => .tup [.int .i64 (a : Nat), .int .i64 (b : Nat), .int .i64 (c : Nat), .bool true]) H) : WpCall E pure base bar 64 [.ptr id ver 0] H Q := by
  rw [call64]
  have hb' := bar_ok (pure := pure) hb
  simp [go_sem, WpFun, c64] at hb' ⊢
  rw [c64_s2.eq_1]
  simp [go_sem, loadN hid, all_shl hn, all_sub hn]
  refine l64b hid hw hn hb' n 0 (by omega) 0 0 ?_ ?_
  · intro he x' y'
    rw [← List.range_eq_range'] at he
    simp only [show oddS n w = none from he] at h
    simp [go_sem]
    exact h
  · intro a b c he
    rw [← List.range_eq_range'] at he
    simp only [show oddS n w = some (a, b, c) from he] at h
    simp [go_sem]
    exact h
end Go.Proofs.Ythoogegclpiefaa.Code
end
section
namespace Go.Proofs.Ythoogegclpiefaa.Code
open Go Go.Ab
variable {pure : Bool} {base bar : Nat} {H : Heap} {Q : AV → Heap → Prop}
theorem grow_slot {cells : List AV} {H0 : Heap} {v : AV} (g : Grow 2 cells H0 v H) : v.isTup = false ∧ v.cells = [v] := by
  rcases g with ⟨_, rfl, _⟩ | ⟨_, _, _, _, rfl, _⟩ <;> exact ⟨rfl, rfl⟩
end Go.Proofs.Ythoogegclpiefaa.Code
end
section
namespace Go.Proofs.Ythoogegclpiefaa.Code
open Go Go.Ab
variable {pure : Bool} {base bar : Nat} {H : Heap} {Q : AV → Heap → Prop}
@[go_sem] theorem aload_fp_agg {s : Nat} {cs : List AV} : aload H ⟨true, s⟩ (.fp (.agg cs)) = if cs.length = s then some (.agg cs) else none := by simp [aload]
theorem leave1_nil {e : Int} : leave 1 base bar [.nilp, .int .i64 e] H = some (.tup [.nilp, .int .i64 e], H.take base) := by
  have h2 : frzAll bar H [.nilp, .int .i64 e] = some ([.nilp, .int .i64 e], H) := rfl
  simp only [leave, h2]
  simp [firstOwn, AV.top.tops, AV.top, tupled]
theorem leave1_ptr {id ver n fz : Nat} {ex : Bool} {w : Nat → Nat} {e : Int} (hid : H[id]? = some (.row ver (wcells n w) fz ex)) (hb : base ≤ id) :
    leave 1 base bar [.ptr id ver 0, .int .i64 e] H = some (.tup [.ptr base ver 0, .int .i64 e], H.take base ++ [.row ver (wcells n w) fz ex]) := by
  have h1 : frzAll bar H (wcells n w) = some (wcells n w, H) := by
    simp only [frzAll, frz.frzs]
    exact plains (d := 6) wcells_plain
  have h2 : frzAll bar H [.ptr id ver 0, .int .i64 e] = some ([.ptr id ver 0, .int .i64 e], H) := rfl
  simp only [leave, h2]
  simp [firstOwn, hb, hid, h1, wcells_tops, movable, AV.top, moveP, tupled]
inductive Opened where
  | err (e : Int)
  | room (w : Nat → Nat)
def openF (n : Int) : (Nat → Nat) → List ZZ → Opened
  | w, [] => .room w
  | w, p :: r => if p.1 < 0 ∨ p.2 < 0 ∨ n ≤ p.1 ∨ n ≤ p.2 then .err 2 else if p.2 ≤ p.1 then .err 7 else if (w p.1.toNat).testBit p.2.toNat = true then .err 6 else openF n (joinW w p.1.toNat p.2.toNat) r
/-- the workroom of a house, or its error -/
def openS (n : Int) (l : List ZZ) : Opened := if within 1 8 n = true then openF n (fun _ => 0) l else .err 1
/-- two blocks: the house that came in, and the workroom -/
def HO (H : Heap) (n : Nat) (q : AV) (w : Nat → Nat) : Heap := H ++ [.row 0 [.int .i64 (n : Int), q] 0 true, .row 0 (wcells n w) 0 true]
theorem HO_len {n : Nat} {q : AV} {w : Nat → Nat} : (HO H n q w).length = H.length + 2 := by simp [HO]
theorem l61 {n : Nat} {q : AV} {l : List ZZ} (hq : isP q l) (hn : n ≤ 8) (hl : l.length < 1000) (hbar : bar ≤ H.length) {R : PQ} :
    ∀ (k i : Nat) (w : Nat → Nat), i + k = l.length → (∀ x, w x < 256) →
    (∀ e H', openF n w (l.drop i) = .err e → H'.take H.length = H → R .ret [(2, .nilp), (3, .int .i64 e)] H') →
    (∀ w', (∀ x, w' x < 256) → openF n w (l.drop i) = .room w' → R (.exit 0) [(1, .ptr H.length 0 0), (4, .ptr (H.length + 1) 0 0), (18, q), (19, .int .i64 (l.length : Nat)), (20, .int .i64 (l.length : Nat)), (21, .bool false)] (HO H n q w')) →
    Wp E H.length bar (.loop c61_l0) [(1, .ptr H.length 0 0), (4, .ptr (H.length + 1) 0 0), (18, q), (19, .int .i64 (l.length : Nat)), (20, .int .i64 (i : Nat))] (HO H n q w) R := by
  intro k
  induction k with
  | zero =>
    intro i w hi hw h1 h2
    obtain rfl : i = l.length := by omega
    rw [wp_round c61_l0.eq_1]
    simp [go_sem]
    rw [List.drop_length] at h2
    exact h2 w hw rfl
  | succ k ih =>
    intro i w hi hw h1 h2
    have hlt : i < l.length := by omega
    rw [wp_round c61_l0.eq_1]
    rw [List.drop_eq_getElem_cons hlt] at h1 h2
    have e0 : ∀ L : List Blk, HO H n q w ++ L = H ++ (.row 0 [.int .i64 (n : Int), q] 0 true :: .row 0 (wcells n w) 0 true :: L) := fun L => by simp [HO]
    simp [go_sem, hlt, hq.ix hlt, HO_len, zc, storeWp, astore, e0, own_get, own_set, show bar ≤ H.length + 2 by omega, aload, aop]
    generalize l[i] = p at h1 h2 ⊢
    obtain ⟨a, b⟩ := p
    simp only [openF] at h1 h2
    by_cases h0 : a < 0 ∨ b < 0 ∨ (n : Int) ≤ a ∨ (n : Int) ≤ b
    · have g1 := h1 2 (H ++ [.row 0 [.int .i64 (n : Int), q] 0 true, .row 0 (wcells n w) 0 true, .row 0 [.int .i64 a, .int .i64 b] 0 true]) (by rw [if_pos h0]) (by simp)
      by_cases h3 : 0 ≤ (if b < a then b else a)
      · have h4 : (n : Int) ≤ (if a < b then b else a) := by split at h3 <;> split <;> omega
        simp [h3, h4, go_sem]
        exact g1
      · simp [h3, go_sem]
        exact g1
    · rw [if_neg h0] at h1 h2
      obtain ⟨a, rfl⟩ := Int.eq_ofNat_of_zero_le (show 0 ≤ a by omega)
      obtain ⟨b, rfl⟩ := Int.eq_ofNat_of_zero_le (show 0 ≤ b by omega)
      have h3 : 0 ≤ (if (b : Int) < a then (b : Int) else a) := by split <;> omega
      have h4 : ¬ (n : Int) ≤ (if (a : Int) < b then (b : Int) else a) := by split <;> omega
      simp only [h3, h4, if_true, if_false]
      have ha : a < 8 := by omega
      have hb : b < 8 := by omega
      simp only [Int.toNat_natCast] at h1 h2 ⊢
      by_cases h5 : b ≤ a
      · have g1 := h1 7 (H ++ [.row 0 [.int .i64 (n : Int), q] 0 true, .row 0 (wcells n w) 0 true, .row 0 [.int .i64 (a : Int), .int .i64 (b : Int)] 0 true]) (by rw [if_pos (by omega)]) (by simp)
        simp [show (b : Int) ≤ a by omega]
        exact g1
      · rw [if_neg (by omega)] at h1 h2
        simp [go_sem, show ¬ (b : Int) ≤ a by omega, natLt, ha, wcells_get ha, k87, hw]
        cases h6 : (w a).testBit b
        · rw [if_neg (by simp [h6])] at h1 h2
          simp [go_sem]
          refine k81 (id := H.length + 1) (n := n) (ex := true) (by simp [own_get]) hw ha hb (by omega) ?_
          simp [go_sem, own_set, hq.top, HO_len, i64_suc (show i < 1000000 by omega)]
          exact ih (i + 1) _ (by omega) (joinW_lt hw ha hb) h1 h2
        · have g1 := h1 6 (H ++ [.row 0 [.int .i64 (n : Int), q] 0 true, .row 0 (wcells n w) 0 true, .row 0 [.int .i64 (a : Int), .int .i64 (b : Int)] 0 true]) (by rw [if_pos h6]) (by simp)
          simp [go_sem]
          exact g1
theorem k61 {n : Int} {q : AV} {l : List ZZ} (hq : isP q l) (hl : l.length < 1000) (hbar : bar ≤ H.length)
    (h1 : ∀ e, openS n l = .err e → Q (.tup [.nilp, .int .i64 e]) H)
    (h2 : ∀ (m : Nat) (w : Nat → Nat), n = m → 1 ≤ m → m ≤ 8 → (∀ x, w x < 256) → openS n l = .room w → Q (.tup [.ptr H.length 0 0, .int .i64 0]) (H ++ [.row 0 (wcells m w) 0 true])) :
    WpCall E false base bar 61 [.agg [.int .i64 n, q]] H Q := by
  rw [call61]
  simp [go_sem, WpFun, c61, hq.frz, aload, own_get0, k79]
  unfold openS at h1 h2
  cases hr : within 1 8 n
  · simp only [hr] at h1
    simp [go_sem, leave1_nil]
    exact h1 1 rfl
  · simp only [hr, if_true] at h1 h2
    have hr' := hr
    simp [within] at hr'
    obtain ⟨n, rfl⟩ := Int.eq_ofNat_of_zero_le (show 0 ≤ n by omega)
    have e0 : (AV.int .i64 (n : Int) :: List.replicate 8 (.int .u8 0)) = wcells n (fun _ => 0) := by simp [wcells]; rfl
    simp [go_sem, hq.len, own_get, own_get0, aload]
    refine l61 hq (by omega) hl hbar l.length 0 (fun _ => 0) (by omega) (fun _ => by decide) ?_ ?_
    · intro e H' he ht
      simp [go_sem, leave1_nil, ht]
      exact h1 e (by simpa using he)
    · intro w' hw' he
      simp [go_sem]
      rw [leave1_ptr (id := H.length + 1) (n := n) (w := w') (fz := 0) (ex := true) (by simp [HO, own_get]) (by omega)]
      simp [go_sem, HO]
      exact h2 n w' rfl (by omega) (by omega) hw' (by simpa using he)
end Go.Proofs.Ythoogegclpiefaa.Code
end
section
namespace Go.Proofs.Ythoogegclpiefaa.Code
open Go Go.Ab
variable {pure : Bool} {base bar : Nat} {H : Heap} {Q : AV → Heap → Prop}
theorem openF_err {n : Int} : ∀ {l : List ZZ} {w : Nat → Nat} {e : Int}, openF n w l = .err e → e ≠ 0
  | [], w, e, h => by simp [openF] at h
  | p :: r, w, e, h => by
    simp only [openF] at h
    split at h
    · cases h; decide
    · split at h
      · cases h; decide
      · split at h
        · cases h; decide
        · exact openF_err h
theorem openS_err {n : Int} {l : List ZZ} {e : Int} (h : openS n l = .err e) : e ≠ 0 := by
  unfold openS at h
  split at h
  · exact openF_err h
  · cases h; decide
theorem k37 {n : Int} {q : AV} {l : List ZZ} (hq : isP q l) (hl : l.length < 1000) (hbar : bar ≤ H.length)
    (h1 : ∀ e, openS n l = .err e → Q (.tup [.nils, .int .i64 e]) H)
    (h2 : ∀ (m : Nat) (w : Nat → Nat), n = m → 1 ≤ m → m ≤ 8 → (∀ x, w x < 256) → openS n l = .room w → ∀ v, isL v (largestS m w) → Q (.tup [v, .int .i64 0]) H) :
    WpCall E pure base bar 37 [.agg [.int .i64 n, q]] H Q := by
  rw [call37]
  have hb' := bar_ok (pure := pure) hbar
  simp [go_sem, WpFun, c37, hq.frz, aload] at hb' ⊢
  refine k61 hq hl (by simp; omega) ?_ ?_
  · intro e he
    simp [go_sem, openS_err he]
    exact h1 e he
  · intro m w hm hm1 hm8 hw he
    simp [go_sem]
    refine k77 (id := H.length + 1) (n := m) (w := w) (fz := 0) (ex := true) (by simp [own_get]) hw hm8 (by simp; omega) fun v hv => ?_
    simp [go_sem, hv.frz, hv.top]
    exact h2 m w hm hm1 hm8 hw he v hv
theorem k18 {n : Int} {q : AV} {l : List ZZ} (hq : isP q l) (hl : l.length < 1000) (hbar : bar ≤ H.length)
    (h1 : ∀ e, openS n l = .err e → Q (.tup [.int .i64 0, .int .i64 0, .int .i64 0, .int .i64 e]) H)
    (h2 : ∀ (m : Nat) (w : Nat → Nat), n = m → 1 ≤ m → m ≤ 8 → (∀ x, w x < 256) → openS n l = .room w → oddS m w = none → Q (.tup [.int .i64 0, .int .i64 0, .int .i64 0, .int .i64 0]) H)
    (h3 : ∀ (m : Nat) (w : Nat → Nat), n = m → 1 ≤ m → m ≤ 8 → (∀ x, w x < 256) → openS n l = .room w → ∀ a b c : Nat, oddS m w = some (a, b, c) → Q (.tup [.int .i64 (a : Int), .int .i64 (b : Int), .int .i64 (c : Int), .int .i64 14]) H) :
    WpCall E pure base bar 18 [.agg [.int .i64 n, q]] H Q := by
  rw [call18]
  have hb' := bar_ok (pure := pure) hbar
  simp [go_sem, WpFun, c18, hq.frz, aload] at hb' ⊢
  refine k61 hq hl (by simp; omega) ?_ ?_
  · intro e he
    simp [go_sem, openS_err he]
    exact h1 e he
  · intro m w hm hm1 hm8 hw he
    simp [go_sem]
    refine k64 (id := H.length + 1) (n := m) (w := w) (fz := 0) (ex := true) (by simp [own_get]) hw hm8 (by simp; omega) ?_
    cases ho : oddS m w with
    | none =>
      simp [go_sem]
      exact h2 m w hm hm1 hm8 hw he ho
    | some t =>
      obtain ⟨a, b, c⟩ := t
      simp [go_sem]
      exact h3 m w hm hm1 hm8 hw he a b c ho
/-- how many brawls of a size there are -/
def countS (n : Nat) (w : Nat → Nat) (size : Int) : Nat := ((List.range' 1 (pw n - 1)).filter fun s => decide (((bitsOf s).length : Int) = size) && brawlS w s).length
theorem l43 {id n : Nat} {w : Nat → Nat} {fz : Nat} {size : Int} (hid : H[id]? = some (.row 0 (wcells n w) fz true)) (hw : ∀ x, w x < 256) (hn : n ≤ 8) (hb : bar ≤ H.length) {x : Nat} {R : PQ} :
    ∀ (k s c : Nat), s + k = pw n → c ≤ s →
    (R (.exit 1) [(1, .int .i64 size), (6, .ptr id 0 0), (8, .int .i64 ((c + ((List.range' s k).filter fun s => decide (((bitsOf s).length : Int) = size) && brawlS w s).length : Nat) : Int)), (9, .int .i64 (pw n : Nat)), (29, .bool false)] H) →
    Wp E base bar (.loop c43_l0) [(1, .int .i64 size), (6, .ptr id 0 0), (8, .int .i64 (c : Nat)), (9, .int .i64 (s : Nat))] H R := by
  intro k
  induction k with
  | zero =>
    intro s c hs hc h
    obtain rfl : s = pw n := by omega
    rw [wp_round c43_l0.eq_1]
    simp [go_sem, loadN hid, shl_i64 (show n < 62 by omega)]
    simpa using h
  | succ k ih =>
    intro s c hs hc h
    have := pw_le hn
    have h8 : s < 256 := by omega
    have hlt : s < pw n := by omega
    rw [wp_round c43_l0.eq_1]
    simp only [List.range'_succ, List.filter_cons] at h
    simp [go_sem, loadN hid, shl_i64 (show n < 62 by omega), hlt, u8_nat h8, k83 h8]
    by_cases h1 : ((bitsOf s).length : Int) = size
    · simp [go_sem, h1, u8_nat h8]
      refine k84 hid hw h8 hb ?_
      cases h2 : brawlS w s
      · simp only [h1, h2, decide_true, Bool.and_false, Bool.false_eq_true, if_false] at h
        simp [go_sem, i64_suc (show s < 1000000 by omega)]
        exact ih (s + 1) c (by omega) (by omega) h
      · simp only [h1, h2, decide_true, Bool.and_true, if_true, List.length_cons] at h
        simp [go_sem, i64_suc (show s < 1000000 by omega), i64_suc (show c < 1000000 by omega)]
        refine ih (s + 1) (c + 1) (by omega) (by omega) ?_
        rw [show ∀ m, c + 1 + m = c + (m + 1) by omega]
        exact h
    · simp only [h1, decide_false, Bool.false_and, Bool.false_eq_true, if_false] at h
      simp [go_sem, h1, i64_suc (show s < 1000000 by omega)]
      exact ih (s + 1) c (by omega) (by omega) h
theorem k43 {n size : Int} {q : AV} {l : List ZZ} (hq : isP q l) (hl : l.length < 1000) (hbar : bar ≤ H.length)
    (h1 : ∀ e, openS n l = .err e → Q (.tup [.int .i64 0, .int .i64 e]) H)
    (h2 : ∀ (m : Nat) (w : Nat → Nat), n = m → 1 ≤ m → m ≤ 8 → (∀ x, w x < 256) → openS n l = .room w → within 1 8 size = false → Q (.tup [.int .i64 0, .int .i64 1]) H)
    (h3 : ∀ (m : Nat) (w : Nat → Nat), n = m → 1 ≤ m → m ≤ 8 → (∀ x, w x < 256) → openS n l = .room w → within 1 8 size = true → Q (.tup [.int .i64 (countS m w size : Nat), .int .i64 0]) H) :
    WpCall E pure base bar 43 [.agg [.int .i64 n, q], .int .i64 size] H Q := by
  rw [call43]
  have hb' := bar_ok (pure := pure) hbar
  simp [go_sem, WpFun, c43, hq.frz, aload] at hb' ⊢
  refine k61 hq hl (by simp; omega) ?_ ?_
  · intro e he
    simp [go_sem, openS_err he]
    exact h1 e he
  · intro m w hm hm1 hm8 hw he
    simp [go_sem, k79]
    cases hr : within 1 8 size
    · simp [go_sem]
      exact h2 m w hm hm1 hm8 hw he hr
    · simp [go_sem]
      have h1 : 1 ≤ pw m := Nat.one_le_two_pow
      refine l43 (x := 0) (id := H.length + 1) (n := m) (w := w) (fz := 0) (by simp [own_get]) hw hm8 (by simp; omega) (pw m - 1) 1 0 (by omega) (by omega) ?_
      simp [go_sem]
      exact h3 m w hm hm1 hm8 hw he hr
end Go.Proofs.Ythoogegclpiefaa.Code
end
section
namespace Go.Proofs.Ythoogegclpiefaa.Code
open Go Go.Ab
variable {pure : Bool} {base bar : Nat} {H : Heap} {Q : AV → Heap → Prop}
/-- do two quarrel in a list -/
def qin (l : List ZZ) (a b : Int) : Bool := l.any fun p => (p.1 == a && p.2 == b) || (p.1 == b && p.2 == a)
/-- the masks say who quarrels -/
def Tells (w : Nat → Nat) (l : List ZZ) : Prop := ∀ x y : Nat, x < 8 → y < 8 → (w x).testBit y = qin l x y
theorem joinW_bit {w : Nat → Nat} {a b x y : Nat} (hab : a ≠ b) : (joinW w a b x).testBit y = ((w x).testBit y || (decide (x = a) && decide (y = b)) || (decide (x = b) && decide (y = a))) := by
  unfold joinW upd
  by_cases h1 : x = b
  · subst h1
    simp [testBit_bor, testBit_pw, Ne.symm hab, eq_comm]
  · by_cases h2 : x = a
    · subst h2; simp [testBit_bor, testBit_pw, h1, eq_comm]
    · simp [h1, h2]
theorem Tells.step {w : Nat → Nat} {l : List ZZ} {a b : Nat} (h : Tells w l) (hab : a ≠ b) : Tells (joinW w a b) (l ++ [((a : Int), (b : Int))]) := fun x y hx hy => by
  rw [joinW_bit hab, h x y hx hy]
  simp only [qin, List.any_append, List.any_cons, List.any_nil, Bool.or_false, Bool.or_assoc]
  congr 1
  have e : ∀ {u v : Nat}, ((u : Int) == (v : Int)) = decide (v = u) := fun {u v} => by
    by_cases h : u = v
    · subst h; simp
    · have : ¬ v = u := fun hc => h hc.symm
      simp [h, this]
      omega
  simp only [e]
  rw [Bool.and_comm (decide (x = b))]
/-- the block of a house that came in -/
def HI (H : Heap) (n : Int) (q : AV) : Heap := H ++ [.row 0 [.int .i64 n, q] 0 true]
theorem HI_len {n : Int} {q : AV} : (HI H n q).length = H.length + 1 := by simp [HI]
theorem HI_get {n : Int} {q : AV} : (HI H n q)[H.length]? = some (.row 0 [.int .i64 n, q] 0 true) := by simp [HI, own_get0]
end Go.Proofs.Ythoogegclpiefaa.Code
end
section
namespace Go.Proofs.Ythoogegclpiefaa.Code
open Go Go.Ab
variable {pure : Bool} {base bar : Nat} {H : Heap} {Q : AV → Heap → Prop}
/-- in how many pairs a number is -/
def degF (l : List ZZ) (x : Nat) : Nat := (l.filter fun p => p.1 == (x : Int) || p.2 == (x : Int)).length
theorem degF_step {l : List ZZ} {a b : Nat} (hab : a ≠ b) : degF (l ++ [((a : Int), (b : Int))]) = upd (upd (degF l) a (degF l a + 1)) b (upd (degF l) a (degF l a + 1) b + 1) := by
  funext x
  have e : ∀ {u v : Nat}, ((u : Int) == (v : Int)) = decide (v = u) := fun {u v} => by
    by_cases h : u = v
    · subst h; simp
    · have : ¬ v = u := fun hc => h hc.symm
      simp [this]; omega
  simp only [degF, upd, List.filter_append, List.length_append, List.filter_cons, List.filter_nil, e]
  by_cases h1 : x = b
  · subst h1; simp [Ne.symm hab]
  · by_cases h2 : x = a
    · subst h2; simp [h1]
    · simp [h1, h2]
theorem openF_valid {n : Int} : ∀ {l : List ZZ} {w w' : Nat → Nat}, openF n w l = .room w' → ∀ p ∈ l, 0 ≤ p.1 ∧ p.1 < p.2 ∧ p.2 < n
  | [], w, w', h, p, hp => by simp at hp
  | q :: r, w, w', h, p, hp => by
    simp only [openF] at h
    split at h
    · cases h
    · rename_i h1
      split at h
      · cases h
      · rename_i h2
        split at h
        · cases h
        · rcases List.mem_cons.1 hp with rfl | hp
          · omega
          · exact openF_valid h p hp
end Go.Proofs.Ythoogegclpiefaa.Code
end
section
namespace Go.Proofs.Ythoogegclpiefaa.Code
open Go Go.Ab
variable {pure : Bool} {base bar : Nat} {H : Heap} {Q : AV → Heap → Prop}
end Go.Proofs.Ythoogegclpiefaa.Code
end
section
namespace Go.Proofs.Ythoogegclpiefaa.Code
open Go Go.Ab
variable {pure : Bool} {base bar : Nat} {H : Heap} {Q : AV → Heap → Prop}
/-- what a call found, and its own copy of the house, are as they were -/
def Pre (H : Heap) (n : Int) (q : AV) (Hc : Heap) : Prop := H.length + 1 ≤ Hc.length ∧ ∀ j, j < H.length + 1 → Hc[j]? = (HI H n q)[j]?
theorem Pre.refl {n : Int} {q : AV} : Pre H n q (HI H n q) := ⟨by rw [HI_len]; omega, fun _ _ => rfl⟩
theorem Pre.get {n : Int} {q : AV} {Hc : Heap} (h : Pre H n q Hc) : Hc[H.length]? = some (.row 0 [.int .i64 n, q] 0 true) := by
  rw [h.2 _ (by omega), HI_get]
theorem Pre.n {n : Int} {q : AV} {Hc : Heap} (h : Pre H n q Hc) {s : Nat} : aload Hc ⟨false, s⟩ (.ptr H.length 0 0) = some (.int .i64 n) := by rw [aload_ptr h.get]; rfl
theorem Pre.q {n : Int} {q : AV} {Hc : Heap} (h : Pre H n q Hc) {s : Nat} : aload Hc ⟨false, s⟩ (.ptr H.length 0 1) = some q := by rw [aload_ptr h.get]; rfl
theorem Pre.h {n : Int} {q : AV} {Hc : Heap} (h : Pre H n q Hc) : aload Hc ⟨true, 2⟩ (.ptr H.length 0 0) = some (.agg [.int .i64 n, q]) := by rw [aload_ptr h.get]; rfl
theorem Pre.take {n : Int} {q : AV} {Hc : Heap} (h : Pre H n q Hc) : Hc.take H.length = H := by
  apply List.ext_getElem?
  intro j
  rw [List.getElem?_take]
  by_cases hj : j < H.length
  · rw [if_pos hj, h.2 j (by omega)]
    simp [HI, List.getElem?_append_left hj]
  · rw [if_neg hj, List.getElem?_eq_none (by omega)]
theorem Pre.next {n : Int} {q : AV} {Hc Hd : Heap} (h : Pre H n q Hc) (hl : Hc.length ≤ Hd.length) (hs : ∀ j, j < H.length + 1 → Hd[j]? = Hc[j]?) : Pre H n q Hd :=
  ⟨by have := h.1; omega, fun j hj => (hs j hj).trans (h.2 j hj)⟩
end Go.Proofs.Ythoogegclpiefaa.Code
end
section
namespace Go.Proofs.Ythoogegclpiefaa.Code
open Go Go.Ab
variable {pure : Bool} {base bar : Nat} {H : Heap} {Q : AV → Heap → Prop}
theorem isLL.ix0 {v : AV} {l : List Nat} {r : List (List Nat)} (h : isLL v (l :: r)) : ∃ u, isL u l ∧ ∀ (H : Heap) (k : IntKind) (K : AV → Heap → List Nat → Prop), ixaSWp 1 (some v) (some (.int k 0)) H K = K (.fp u) H [] := by
  rcases h with ⟨_, he⟩ | ⟨ex, vs, rfl, ha⟩
  · cases he
  · cases vs with
    | nil => exact ha.elim
    | cons u us =>
      refine ⟨u, ha.1, fun H k K => ?_⟩
      rw [ixaSWp_lst]
      simp [valWp_some]
end Go.Proofs.Ythoogegclpiefaa.Code
end
section
namespace Go.Proofs.Ythoogegclpiefaa.Code
open Go Go.Ab
variable {pure : Bool} {base bar : Nat} {H : Heap} {Q : AV → Heap → Prop}
end Go.Proofs.Ythoogegclpiefaa.Code
end
section
namespace Go.Proofs.Ythoogegclpiefaa.Code
open Go Go.Ab
theorem bits_bor : ∀ s, s < 256 → ∀ b, b < 8 → s.testBit b = false → (bitsOf (bor s (pw b))).length = (bitsOf s).length + 1 := by decide +kernel
theorem qin_sym {l : List ZZ} {a b : Int} : qin l a b = qin l b a := by
  unfold qin
  congr 1
  funext p
  exact Bool.or_comm ..
theorem openF_often {n : Nat} (hn : n ≤ 8) : ∀ (l done : List ZZ) (w w' : Nat → Nat), (∀ x, w x < 256) → Tells w done → (∀ x, x < 8 → (bitsOf (w x)).length = degF done x) → openF n w l = .room w' →
    (∀ x, w' x < 256) ∧ Tells w' (done ++ l) ∧ ∀ x, x < 8 → (bitsOf (w' x)).length = degF (done ++ l) x
  | [], done, w, w', hw, ht, hd, h => by
    simp only [openF, Opened.room.injEq] at h
    subst h
    simpa using ⟨hw, ht, hd⟩
  | (a, b) :: r, done, w, w', hw, ht, hd, h => by
    simp only [openF] at h
    split at h
    · cases h
    rename_i h1
    split at h
    · cases h
    rename_i h2
    split at h
    · cases h
    rename_i h3
    obtain ⟨a, rfl⟩ := Int.eq_ofNat_of_zero_le (show 0 ≤ a by omega)
    obtain ⟨b, rfl⟩ := Int.eq_ofNat_of_zero_le (show 0 ≤ b by omega)
    simp only [Int.toNat_natCast, Bool.not_eq_true] at h3 h
    have ha : a < 8 := by omega
    have hb : b < 8 := by omega
    have hab : a ≠ b := by omega
    have h4 : (w b).testBit a = false := by
      rw [ht b a hb ha, qin_sym, ← ht a b ha hb]; exact h3
    have := openF_often hn r (done ++ [((a : Int), (b : Int))]) (joinW w a b) w' (joinW_lt hw ha hb) (ht.step hab) (fun x hx => ?_) h
    · simpa using this
    · rw [degF_step hab]
      unfold joinW
      unfold upd
      by_cases hxb : x = b
      · subst hxb
        simp only [if_true, Ne.symm hab, if_false]
        rw [bits_bor _ (hw x) _ ha h4, hd x hx]
      · by_cases hxa : x = a
        · subst hxa
          simp only [if_true, hab, if_false]
          rw [bits_bor _ (hw x) _ hb h3, hd x hx]
        · simp only [hxa, hxb, if_false]
          exact hd x hx
theorem openS_facts {n : Int} {m : Nat} {l : List ZZ} {w : Nat → Nat} (hm : n = m) (h : openS n l = .room w) : m ≤ 8 ∧ 1 ≤ m ∧ (∀ x, w x < 256) ∧ Tells w l ∧ (∀ x, x < 8 → (bitsOf (w x)).length = degF l x) ∧ openF m (fun _ => 0) l = .room w := by
  subst hm
  unfold openS at h
  split at h
  · rename_i hr
    simp [within] at hr
    have := openF_often (n := m) (by omega) l [] (fun _ => 0) w (fun _ => by decide) (fun x y _ _ => by simp [qin]) (fun x _ => by simp [degF, bitsOf]) h
    rw [List.nil_append] at this
    exact ⟨by omega, by omega, this.1, this.2.1, this.2.2, h⟩
  · cases h
end Go.Proofs.Ythoogegclpiefaa.Code
end
section
namespace Go.Proofs.Ythoogegclpiefaa.Code
open Go Go.Ab
theorem bits_mem {s x : Nat} : x ∈ bitsOf s ↔ x < 8 ∧ s.testBit x = true := by simp [bitsOf]
theorem bits_pairwise (s : Nat) : (bitsOf s).Pairwise (· < ·) := by
  unfold bitsOf
  exact List.Pairwise.filter _ (by decide)
end Go.Proofs.Ythoogegclpiefaa.Code
end
section
namespace Go.Proofs.Ythoogegclpiefaa.Code
open Go Go.Ab
theorem cmp3_zero {a b : Nat} : cmp3 a b = 0 ↔ a = b := by
  unfold cmp3; split
  · omega
  · split <;> omega
theorem cmp3_neg {a b : Nat} : cmp3 a b < 0 ↔ a < b := by
  unfold cmp3; split
  · omega
  · split <;> omega
theorem cmpL_trans : ∀ {x y z : List Nat}, cmpL x y < 0 → cmpL y z < 0 → cmpL x z < 0
  | [], [], _, h, _ => by simp [cmpL] at h
  | [], _ :: _, [], _, h => by simp [cmpL] at h
  | [], _ :: _, _ :: _, _, _ => by simp [cmpL]
  | _ :: _, [], _, h, _ => by simp [cmpL] at h
  | _ :: _, _ :: _, [], _, h => by simp [cmpL] at h
  | a :: x, b :: y, c :: z, h, k => by
    simp only [cmpL] at h k ⊢
    split at h
    · rename_i h1
      have := cmp3_zero.1 h1
      subst this
      split at k
      · rename_i h2
        rw [if_pos h2]; exact cmpL_trans h k
      · rename_i h2
        rw [if_neg h2]; exact k
    · have hab := cmp3_neg.1 h
      split at k
      · rename_i h2
        have := cmp3_zero.1 h2
        subst this
        rw [if_neg (by rw [cmp3_zero]; omega)]; exact h
      · have hbc := cmp3_neg.1 k
        rw [if_neg (by rw [cmp3_zero]; omega)]
        exact cmp3_neg.2 (by omega)
/-- a list is better than another one: longer, or as long and smaller -/
def better (x y : List Nat) : Prop := y.length < x.length ∨ x.length = y.length ∧ cmpL x y < 0
theorem better.trans {x y z : List Nat} (h : better x y) (k : better y z) : better x z := by
  rcases h with h | ⟨h1, h2⟩ <;> rcases k with k | ⟨k1, k2⟩
  · exact .inl (by omega)
  · exact .inl (by omega)
  · exact .inl (by omega)
  · exact .inr ⟨by omega, cmpL_trans h2 k2⟩
theorem bestStep_eq {w : Nat → Nat} {b : List Nat} {s : Nat} : (brawlS w s = true ∧ better (bitsOf s) b ∧ bestStep w b s = bitsOf s) ∨ (¬ (brawlS w s = true ∧ better (bitsOf s) b) ∧ bestStep w b s = b) := by
  unfold bestStep better
  split
  · rename_i h
    refine .inl ⟨h.2.1, ?_, rfl⟩
    rcases h.2.2 with h3 | h3
    · exact .inl h3
    · by_cases h4 : b.length < (bitsOf s).length
      · exact .inl h4
      · exact .inr ⟨by omega, h3⟩
  · rename_i h
    refine .inr ⟨fun hc => h ⟨?_, hc.1, ?_⟩, rfl⟩
    · rcases hc.2 with h3 | ⟨h3, _⟩ <;> omega
    · rcases hc.2 with h3 | ⟨_, h3⟩
      · exact .inl h3
      · exact .inr h3
theorem fold_best {w : Nat → Nat} : ∀ (M : List Nat) (b : List Nat), (M.foldl (bestStep w) b = b ∨ ∃ s ∈ M, brawlS w s = true ∧ M.foldl (bestStep w) b = bitsOf s) ∧
    (∀ s ∈ M, brawlS w s = true → ¬ better (bitsOf s) (M.foldl (bestStep w) b)) ∧ (M.foldl (bestStep w) b = b ∨ better (M.foldl (bestStep w) b) b)
  | [], b => ⟨.inl rfl, fun s hs => by simp at hs, .inl rfl⟩
  | s :: M, b => by
    obtain ⟨h1, h2, h3⟩ := fold_best M (bestStep w b s)
    simp only [List.foldl_cons]
    rcases bestStep_eq (w := w) (b := b) (s := s) with ⟨g1, g2, g3⟩ | ⟨g1, g2⟩
    · rw [g3] at h1 h2 h3 ⊢
      refine ⟨?_, fun t ht hb hc => ?_, ?_⟩
      · rcases h1 with h1 | ⟨t, ht, hb, he⟩
        · exact .inr ⟨s, List.mem_cons_self .., g1, h1⟩
        · exact .inr ⟨t, List.mem_cons_of_mem _ ht, hb, he⟩
      · rcases List.mem_cons.1 ht with rfl | ht
        · rcases h3 with h3 | h3
          · rw [h3] at hc
            rcases hc with hc | ⟨_, hc⟩
            · omega
            · have : ∀ x, cmpL x x = 0 := fun x => by
                induction x with
                | nil => rfl
                | cons a r ih => simp only [cmpL]; rw [if_pos (cmp3_zero.2 rfl)]; exact ih
              rw [this] at hc; omega
          · have := hc.trans h3
            rcases this with hc | ⟨_, hc⟩
            · omega
            · have : ∀ x, cmpL x x = 0 := fun x => by
                induction x with
                | nil => rfl
                | cons a r ih => simp only [cmpL]; rw [if_pos (cmp3_zero.2 rfl)]; exact ih
              rw [this] at hc; omega
        · exact h2 t ht hb hc
      · rcases h3 with h3 | h3
        · rw [h3]; exact .inr g2
        · exact .inr (h3.trans g2)
    · rw [g2] at h1 h2 h3 ⊢
      refine ⟨?_, fun t ht hb hc => ?_, h3⟩
      · rcases h1 with h1 | ⟨t, ht, hb, he⟩
        · exact .inl h1
        · exact .inr ⟨t, List.mem_cons_of_mem _ ht, hb, he⟩
      · rcases List.mem_cons.1 ht with rfl | ht
        · rcases h3 with h3 | h3
          · rw [h3] at hc; exact g1 ⟨hb, hc⟩
          · exact g1 ⟨hb, hc.trans h3⟩
        · exact h2 t ht hb hc
end Go.Proofs.Ythoogegclpiefaa.Code
end
section
namespace Go.Proofs.Ythoogegclpiefaa.Code
open Go Go.Ab
variable {pure : Bool} {base bar : Nat} {H : Heap} {Q : AV → Heap → Prop}
/-! rows of sets -/
def ucells (n : Nat) (f : Nat → Nat) : List AV := (List.range n).map fun a => .int .u8 ((f a : Nat) : Int)
theorem ucells_length {n : Nat} {f : Nat → Nat} : (ucells n f).length = n := by simp [ucells]
theorem ucells_get {n i : Nat} {f : Nat → Nat} (hi : i < n) : (ucells n f)[i]? = some (.int .u8 ((f i : Nat) : Int)) := by simp [ucells, hi]
theorem ucells_set {n i x : Nat} {f : Nat → Nat} (hi : i < n) : setCells (ucells n f) i [.int .u8 (x : Int)] = ucells n (upd f i x) := by
  simp only [setCells]
  apply List.ext_getElem?
  intro j
  rw [List.getElem?_set]
  by_cases hj : i = j
  · subst hj; simp [ucells, upd, hi]
  · rw [if_neg hj]
    by_cases h8 : j < n
    · simp [ucells, upd, h8, show ¬ j = i by omega]
    · simp [ucells, h8]
theorem ucells_zero {n : Nat} : ucells n (fun _ => 0) = List.replicate n (.int .u8 0) := by
  apply List.ext_getElem?
  intro j
  by_cases h : j < n <;> simp [ucells, h, List.getElem?_replicate]
theorem loadU {id ver n i s fz : Nat} {ex : Bool} {f : Nat → Nat} (hid : H[id]? = some (.row ver (ucells n f) fz ex)) (hi : i < n) : aload H ⟨false, s⟩ (.ptr id ver i) = some (.int .u8 ((f i : Nat) : Int)) := by
  rw [aload_ptr hid, part_one, ucells_get hi]
theorem storeU {K : AV → Heap → List Nat → Prop} {base id ver n i x fz : Nat} {ex : Bool} {f : Nat → Nat} (hid : H[id]? = some (.row ver (ucells n f) fz ex)) (hi : i < n) (hf : fz ≤ i) (hb : bar ≤ id) :
    storeWp base bar 1 (.ptr id ver i) (.int .u8 (x : Int)) H K = K (.tup []) (H.set id (.row ver (ucells n (upd f i x)) fz ex)) [id] := by
  rw [storeWp_ptr (size := 1) hid rfl rfl hf (by rw [ucells_length]; omega) hb (.inr (by simp [AV.cells, tops_cons, tops_nil, top_int]))]
  simp only [AV.cells, ucells_set hi]
/-! rooms, one person after the other -/
/-- the first rooms that go on from some, k people left, with numbers below m -/
def roomsF (fit : List Nat → Nat → Bool) (m : Nat) : Nat → List Nat → Option (List Nat)
  | 0, b => some b
  | k + 1, b => (List.range m).findSome? fun r => if fit b r = true then roomsF fit m k (b ++ [r]) else none
/-- the same, the next room from r on -/
def srchF (fit : List Nat → Nat → Bool) (m : Nat) : Nat → List Nat → Nat → Option (List Nat)
  | 0, b, _ => some b
  | k + 1, b, r => (List.range' r (m - r)).findSome? fun x => if fit b x = true then roomsF fit m k (b ++ [x]) else none
section
variable {fit : List Nat → Nat → Bool} {m k r : Nat} {b : List Nat}
theorem roomsF_srch : roomsF fit m k b = srchF fit m k b 0 := by cases k <;> simp [roomsF, srchF, List.range_eq_range']
theorem srch_end : srchF fit m (k + 1) b m = none := by simp [srchF]
theorem srch_skip (h : r < m) (hf : fit b r = false) : srchF fit m (k + 1) b r = srchF fit m (k + 1) b (r + 1) := by
  simp only [srchF]
  rw [show m - r = (m - (r + 1)) + 1 by omega, List.range'_succ, List.findSome?_cons]
  simp [hf]
theorem srch_fit (h : r < m) (hf : fit b r = true) : srchF fit m (k + 1) b r = (roomsF fit m k (b ++ [r])).or (srchF fit m (k + 1) b (r + 1)) := by
  simp only [srchF]
  rw [show m - r = (m - (r + 1)) + 1 by omega, List.range'_succ, List.findSome?_cons]
  simp only [hf, if_true]
  cases roomsF fit m k (b ++ [r]) <;> rfl
theorem roomsF_len : ∀ {k : Nat} {b c : List Nat}, roomsF fit m k b = some c → c.length = b.length + k
  | 0, b, c, h => by simp [roomsF] at h; subst h; simp
  | k + 1, b, c, h => by
    simp only [roomsF] at h
    obtain ⟨l1, a, l2, h1, h2, h3⟩ := List.findSome?_eq_some_iff.1 h
    split at h2
    · have := roomsF_len h2; simp at this; omega
    · cases h2
end
def fitW (w : Nat → Nat) (b : List Nat) (r : Nat) : Bool := (List.range b.length).all fun i => b[i]? != some r || !(w b.length).testBit i
/-- the sets of those in each room -/
structure RoomsOK (b : List Nat) (s : Nat → Nat) : Prop where
  lt : ∀ r, s r < 256
  bit : ∀ r i, (s r).testBit i = decide (b[i]? = some r)
theorem RoomsOK.nil : RoomsOK [] (fun _ => 0) := ⟨fun _ => by decide, fun r i => by simp⟩
theorem RoomsOK.push {b : List Nat} {s : Nat → Nat} {r : Nat} (h : RoomsOK b s) (h8 : b.length < 8) : RoomsOK (b ++ [r]) (upd s r (bor (s r) (pw b.length))) := by
  refine ⟨upd_lt h.lt (bor_lt (h.lt r) (pw_lt h8)), fun r' i => ?_⟩
  unfold upd
  by_cases hr : r' = r
  · subst hr
    rw [if_pos rfl, testBit_bor, testBit_pw, h.bit]
    by_cases h1 : i < b.length
    · rw [List.getElem?_append_left h1]; simp [show ¬ b.length = i by omega]
    · by_cases h2 : b.length = i
      · subst h2; simp
      · have e : (b ++ [r'])[i]? = none := List.getElem?_eq_none (by simp; omega)
        have e2 : b[i]? = none := List.getElem?_eq_none (by omega)
        simp [h2, e, e2]
  · rw [if_neg hr, h.bit]
    by_cases h1 : i < b.length
    · rw [List.getElem?_append_left h1]
    · have e2 : b[i]? = none := List.getElem?_eq_none (by omega)
      by_cases h2 : b.length = i
      · subst h2; simp; exact fun hc => hr hc.symm
      · have e : (b ++ [r])[i]? = none := List.getElem?_eq_none (by simp; omega)
        simp [e, e2]
theorem RoomsOK.pop {b : List Nat} {s : Nat → Nat} {x : Nat} (h : RoomsOK (b ++ [x]) s) : RoomsOK b (upd s x (clr (s x) (pw b.length))) := by
  refine ⟨upd_lt h.lt (clr_lt (h.lt x)), fun r' i => ?_⟩
  unfold upd
  by_cases hr : r' = x
  · subst hr
    rw [if_pos rfl, testBit_clr (h.lt _), testBit_pw, h.bit]
    by_cases h1 : i < b.length
    · rw [List.getElem?_append_left h1]; simp [show ¬ b.length = i by omega]
    · have e2 : b[i]? = none := List.getElem?_eq_none (by omega)
      by_cases h2 : b.length = i
      · subst h2; simp
      · have e : (b ++ [r'])[i]? = none := List.getElem?_eq_none (by simp; omega)
        simp [e, e2]
  · rw [if_neg hr, h.bit]
    by_cases h1 : i < b.length
    · rw [List.getElem?_append_left h1]
    · have e2 : b[i]? = none := List.getElem?_eq_none (by omega)
      by_cases h2 : b.length = i
      · subst h2; simp; exact fun hc => hr hc.symm
      · have e : (b ++ [x])[i]? = none := List.getElem?_eq_none (by simp; omega)
        simp [e, e2]
theorem fit_iff {b : List Nat} {s w : Nat → Nat} {r : Nat} (h : RoomsOK b s) : fitW w b r = decide (band (s r) (w b.length) = 0) := by
  rw [Bool.eq_iff_iff]
  simp only [fitW, List.all_eq_true, List.mem_range, Bool.or_eq_true, bne_iff_ne, ne_eq, Bool.not_eq_true', decide_eq_true_eq]
  constructor
  · intro hf
    apply Nat.eq_of_testBit_eq
    intro i
    rw [testBit_band, h.bit, Nat.zero_testBit]
    by_cases hi : i < b.length
    · rcases hf i hi with h1 | h1
      · simp [h1]
      · simp [h1]
    · have e2 : b[i]? = none := List.getElem?_eq_none (by omega)
      simp [e2]
  · intro he i hi
    have := congrArg (·.testBit i) he
    simp only [testBit_band, h.bit, Nat.zero_testBit, Bool.and_eq_false_iff, decide_eq_false_iff_not] at this
    exact this
/-- the room of each person: those of b, then r -/
def outF (b : List Nat) (r : Nat) : Nat → Nat := fun i => if i < b.length then b[i]?.getD 0 else if i = b.length then r else 0
theorem outF_at {b : List Nat} {r : Nat} : outF b r b.length = r := by simp [outF]
theorem outF_inc {b : List Nat} {r x : Nat} : upd (outF b r) b.length x = outF b x := by
  funext i
  unfold upd outF
  by_cases h : i = b.length
  · subst h; simp
  · simp [h]
theorem outF_push {b : List Nat} {r : Nat} : outF (b ++ [r]) 0 = outF b r := by
  funext i
  unfold outF
  by_cases h1 : i < b.length
  · simp [h1, show i < b.length + 1 by omega]
  · by_cases h2 : i = b.length
    · subst h2; simp
    · simp [h1, h2, show ¬ i < b.length + 1 by omega]
theorem outF_list {b : List Nat} {r : Nat} : (List.range b.length).map (outF b r) = b := by
  apply List.ext_getElem?
  intro i
  by_cases h : i < b.length
  · simp [outF, h]
  · simp [h]
theorem outF_last {b : List Nat} {x r : Nat} : outF (b ++ [x]) r b.length = x := by simp [outF]
/-- the heap of 'put': the rooms' sets in the caller's block, and each one's room -/
def HR (H : Heap) (rid rv m : Nat) (s : Nat → Nat) (n : Nat) (f : Nat → Nat) : Heap := H.set rid (.row rv (ucells m s) 0 true) ++ [.row 0 (fcells n f) 0 true]
section
variable {rid rv m n id : Nat} {s f s' f' : Nat → Nat} {b : Blk}
theorem HR_out : (HR H rid rv m s n f)[H.length]? = some (.row 0 (fcells n f) 0 true) := by
  unfold HR; rw [List.getElem?_append_right (by simp)]; simp
theorem HR_rid (h : rid < H.length) : (HR H rid rv m s n f)[rid]? = some (.row rv (ucells m s) 0 true) := by
  unfold HR; rw [List.getElem?_append_left (by simpa using h)]; simp [h]
theorem HR_id (h : H[id]? = some b) (hne : id ≠ rid) : (HR H rid rv m s n f)[id]? = some b := by
  have := (List.getElem?_eq_some_iff.1 h).1
  unfold HR; rw [List.getElem?_append_left (by simpa using this), List.getElem?_set, if_neg (Ne.symm hne), h]
theorem HR_setout : (HR H rid rv m s n f).set H.length (.row 0 (fcells n f') 0 true) = HR H rid rv m s n f' := by
  unfold HR; rw [List.set_append_right _ _ (by simp)]; simp
theorem HR_setrid (h : rid < H.length) : (HR H rid rv m s n f).set rid (.row rv (ucells m s') 0 true) = HR H rid rv m s' n f := by
  unfold HR; rw [List.set_append_left _ _ (by simpa using h), set_set]
theorem HR_take : (HR H rid rv m s n f).take H.length = H.set rid (.row rv (ucells m s) 0 true) := by
  unfold HR; rw [List.take_append_of_le_length (by simp), List.take_of_length_le (by simp)]
theorem HR_take2 {b : Blk} : ((HR H rid rv m s n f).set H.length b).take H.length = H.set rid (.row rv (ucells m s) 0 true) := by
  unfold HR; rw [List.set_append_right _ _ (by simp), List.take_append_of_le_length (by simp), List.take_of_length_le (by simp)]
end
section
variable {id ver n rid rv m fz : Nat} {ex : Bool} {w : Nat → Nat} {R : PQ}
theorem l62a {b : List Nat} {s : Nat → Nat} (hid : H[id]? = some (.row ver (wcells n w) fz ex)) (hrid : rid < H.length) (hne : id ≠ rid) (hw : ∀ x, w x < 256) (hn : n ≤ 8) (hm : m ≤ 8) (hbar : bar ≤ H.length) (hs : RoomsOK b s) (hb : b.length < n) {k : Nat} :
    ∀ (d r : Nat), r + d = m → ∀ (tl : List (Nat × AV)), tl = [] ∨ tl = [(20, .bool true)] →
    (srchF (fitW w) m (k + 1) b r = none → R (.exit 2) [(0, .ptr id ver 0), (1, .vec rid rv 0 m 1), (2, .int .i64 (m : Nat)), (8, .vec H.length 0 0 n 1), (9, .int .i64 (b.length : Nat)), (26, .bool false)] (HR H rid rv m s n (outF b m))) →
    (∀ r', r ≤ r' → r' < m → fitW w b r' = true → srchF (fitW w) m (k + 1) b r = srchF (fitW w) m (k + 1) b r' →
      R (.exit 2) [(0, .ptr id ver 0), (1, .vec rid rv 0 m 1), (2, .int .i64 (m : Nat)), (8, .vec H.length 0 0 n 1), (9, .int .i64 (b.length : Nat)), (47, .bool true)] (HR H rid rv m s n (outF b r'))) →
    Wp E base bar (.loop c62_l0) ((0, .ptr id ver 0) :: (1, .vec rid rv 0 m 1) :: (2, .int .i64 (m : Nat)) :: (8, .vec H.length 0 0 n 1) :: (9, .int .i64 (b.length : Nat)) :: tl) (HR H rid rv m s n (outF b r)) R := by
  intro d
  induction d with
  | zero =>
    intro r hr tl htl h1 h2
    obtain rfl : r = m := by omega
    rw [wp_round c62_l0.eq_1]
    have := h1 srch_end
    rcases htl with rfl | rfl <;> (simp [go_sem, hb, loadF HR_out hb, outF_at]; exact this)
  | succ d ih =>
    intro r hr tl htl h1 h2
    have hlt : r < m := by omega
    rw [wp_round c62_l0.eq_1]
    rcases htl with rfl | rfl
    all_goals
      simp [go_sem, hb, loadF HR_out hb, outF_at, hlt, loadU (HR_rid hrid) hlt, loadW (HR_id hid hne) (show b.length < 8 by omega), show b.length < 8 by omega, and_u8 (hs.lt r) (hw b.length)]
      cases hf : fitW w b r
      · have hf' := hf
        rw [fit_iff hs] at hf'
        simp only [decide_eq_false_iff_not] at hf'
        simp [go_sem, hf', hb, loadF HR_out hb, outF_at, i64_suc (show r < 1000000 by omega)]
        have e : ((r : Int) + 1) = ((r + 1 : Nat) : Int) := by omega
        rw [e, storeF HR_out hb (by omega) hbar, outF_inc, HR_setout]
        simp [go_sem]
        refine ih (r + 1) (by omega) [] (.inl rfl) ?_ ?_
        · rw [← srch_skip hlt hf]; exact h1
        · intro r' h3 h4 h5 h6
          exact h2 r' (by omega) h4 h5 (by rw [srch_skip hlt hf]; exact h6)
      · have hf' := hf
        rw [fit_iff hs] at hf'
        simp only [decide_eq_true_eq] at hf'
        simp [go_sem, hf']
        exact h2 r (Nat.le_refl _) hlt hf rfl
theorem l62 (hid : H[id]? = some (.row ver (wcells n w) fz ex)) (hrid : rid < H.length) (hne : id ≠ rid) (hw : ∀ x, w x < 256) (hn : n ≤ 8) (hm : m ≤ 8) (hb1 : bar ≤ rid) :
    ∀ (k : Nat) (b : List Nat), b.length + k = n → (∀ y ∈ b, y < m) → ∀ (d r : Nat), r + d = m → ∀ (s : Nat → Nat), RoomsOK b s →
    (∀ res s', srchF (fitW w) m k b r = some res → R (.exit 0) [(0, .ptr id ver 0), (1, .vec rid rv 0 m 1), (2, .int .i64 (m : Nat)), (8, .vec H.length 0 0 n 1), (9, .int .i64 (n : Nat)), (20, .bool false)] (HR H rid rv m s' n (outF res 0))) →
    (srchF (fitW w) m k b r = none → ∀ s', RoomsOK b s' →
      (b = [] → R .ret [(6, .nils), (7, .bool false)] (HR H rid rv m s' n (outF [] 0))) ∧
      (∀ b' x, b = b' ++ [x] → Wp E H.length bar (.loop c62_l1) [(0, .ptr id ver 0), (1, .vec rid rv 0 m 1), (2, .int .i64 (m : Nat)), (8, .vec H.length 0 0 n 1), (9, .int .i64 (b'.length : Nat))] (HR H rid rv m (upd s' x (clr (s' x) (pw b'.length))) n (outF b' (x + 1))) R)) →
    Wp E H.length bar (.loop c62_l1) [(0, .ptr id ver 0), (1, .vec rid rv 0 m 1), (2, .int .i64 (m : Nat)), (8, .vec H.length 0 0 n 1), (9, .int .i64 (b.length : Nat))] (HR H rid rv m s n (outF b r)) R := by
  intro k
  induction k with
  | zero =>
    intro b hb hbm d r hr s hs h1 h2
    obtain rfl : b.length = n := by omega
    rw [wp_round c62_l1.eq_1]
    simp [go_sem, loadN (HR_id hid hne)]
    have := h1 b s rfl
    have e : fcells b.length (outF b r) = fcells b.length (outF b 0) := by rw [fcells_nats, fcells_nats, outF_list, outF_list]
    unfold HR at this ⊢
    rw [e]; exact this
  | succ k ihk =>
    intro b hb hbm d
    induction d using Nat.strongRecOn with
    | _ d ihd =>
      intro r hr s hs h1 h2
      have hlt : b.length < n := by omega
      rw [wp_round c62_l1.eq_1]
      simp [go_sem, loadN (HR_id hid hne), hlt]
      refine l62a (k := k) hid hrid hne hw hn hm (Nat.le_trans hb1 (Nat.le_of_lt hrid)) hs hlt d r hr _ (.inr rfl) ?_ ?_
      · intro hnone
        obtain ⟨g1, g2⟩ := h2 hnone s hs
        simp [go_sem, hlt, loadF HR_out hlt, outF_at]
        have z : (0 : Int) = ((0 : Nat) : Int) := rfl
        rw [z, storeF HR_out hlt (Nat.zero_le _) (Nat.le_trans hb1 (Nat.le_of_lt hrid)), outF_inc, HR_setout]
        rcases List.eq_nil_or_concat b with rfl | ⟨b', x, rfl⟩
        · simp [go_sem]
          exact g1 rfl
        · simp only [List.concat_eq_append] at *
          have hx := hbm x (by simp)
          have hlb : b'.length + 1 < n := by simpa using hlt
          have e1 : IntKind.i64.wrap ((b'.length : Nat) : Int) = ((b'.length : Nat) : Int) := i64_nat (by omega)
          simp only [List.length_append, List.length_cons, List.length_nil, Nat.zero_add]
          have ne0 : ¬ (((b'.length : Nat) : Int) + 1 = 0) := by omega
          simp only [Int.natCast_zero]
          simp [go_sem, ne0, e1, show b'.length < n from Nat.lt_of_succ_lt hlb, loadF HR_out (show b'.length < n from Nat.lt_of_succ_lt hlb), outF_last, hx, loadU (HR_rid hrid) hx, shl_u8 (show b'.length < 8 by omega), andNot_u8 (hs.lt x) (pw_lt (show b'.length < 8 by omega))]
          rw [storeU (HR_rid hrid) hx (Nat.zero_le _) hb1, HR_setrid hrid]
          have hlb' : b'.length < n := Nat.lt_of_succ_lt hlb
          simp [go_sem, hlb', loadF HR_out hlb', outF_last, i64_suc (show x < 1000000 by omega)]
          rw [show ((x : Int) + 1) = ((x + 1 : Nat) : Int) by omega, storeF HR_out hlb' (Nat.zero_le _) (Nat.le_trans hb1 (Nat.le_of_lt hrid)), outF_push, outF_inc, HR_setout]
          simp [go_sem]
          exact g2 b' x rfl
      · intro r' g1 g2 g3 g4
        have hs' := hs.push (r := r') (by omega)
        simp [go_sem, hlt, loadF HR_out hlt, outF_at, g2, loadU (HR_rid hrid) g2, shl_u8 (show b.length < 8 by omega), or_u8 (hs.lt r') (pw_lt (show b.length < 8 by omega))]
        rw [storeU (HR_rid hrid) g2 (Nat.zero_le _) hb1, HR_setrid hrid]
        simp [go_sem, i64_suc (show b.length < 1000000 by omega)]
        rw [show ((b.length : Int) + 1) = (((b ++ [r']).length : Nat) : Int) by simp, ← outF_push]
        refine ihk (b ++ [r']) (by simp; omega) (fun y hy => ?_) m 0 (by omega) _ hs' (fun res s' he => ?_) (fun he s' hs2 => ⟨fun hc => by simp at hc, fun b' x hx => ?_⟩)
        · rcases List.mem_append.1 hy with hy | hy
          · exact hbm y hy
          · simp at hy; omega
        · refine h1 res s' ?_
          rw [g4, srch_fit g2 g3, roomsF_srch, he]; rfl
        · obtain ⟨rfl, rfl⟩ : b = b' ∧ r' = x := by
            have := List.append_inj' hx rfl
            simpa using this
          refine ihd (m - (r' + 1)) (by omega) (r' + 1) (by omega) _ hs2.pop (fun res s' hr2 => ?_) (fun hr2 s' hs3 => ?_)
          · refine h1 res s' ?_
            rw [g4, srch_fit g2 g3, roomsF_srch, he]; exact hr2
          · refine h2 ?_ s' hs3
            rw [g4, srch_fit g2 g3, roomsF_srch, he]; exact hr2
theorem k62 (hid : H[id]? = some (.row ver (wcells n w) fz ex)) (hrid : H[rid]? = some (.row rv (ucells m (fun _ => 0)) 0 true)) (hne : id ≠ rid) (hw : ∀ x, w x < 256) (hn : n ≤ 8) (hm : m ≤ 8) (hbar : bar ≤ rid)
    (hno : roomsF (fitW w) m n [] = none → ∀ s, Q (.tup [.nils, .bool false]) (H.set rid (.row rv (ucells m s) 0 true)))
    (hyes : ∀ b, roomsF (fitW w) m n [] = some b → ∀ s v, isL v b → Q (.tup [v, .bool true]) (H.set rid (.row rv (ucells m s) 0 true))) :
    WpCall E false base bar 62 [.ptr id ver 0, .vec rid rv 0 m 1, .int .i64 (m : Nat)] H Q := by
  rw [call62]
  have hlt := (List.getElem?_eq_some_iff.1 hrid).1
  have hset : H.set rid (.row rv (ucells m (fun _ => 0)) 0 true) = H := by
    apply List.ext_getElem?
    intro j
    rw [List.getElem?_set]
    by_cases hj : rid = j
    · subst hj; rw [hrid]; simp [hlt]
    · simp [hj]
  simp [go_sem, WpFun, c62, loadN hid, aop, AV.asNat]
  rw [if_pos (show n * 8 ≤ 140737488355328 by omega)]
  have e2 : List.replicate n (AV.int .i64 0) = fcells n (outF [] 0) := by
    rw [← fcells_zero]; congr 1; funext i; simp [outF]
  rw [e2, show H ++ [Blk.row 0 (fcells n (outF [] 0)) 0 true] = HR H rid rv m (fun _ => 0) n (outF [] 0) by unfold HR; rw [hset]]
  simp [go_sem]
  refine l62 hid hlt hne hw hn hm hbar n [] (by simp) (by simp) m 0 (by omega) _ .nil (fun res s' he => ?_) (fun he s' hs => ⟨fun _ => ?_, fun b' x hx => by simp at hx⟩)
  · rw [← roomsF_srch] at he
    have hl := roomsF_len he
    have f := frzF (d := 5) (bar := bar) (H := HR H rid rv m s' n (outF res 0)) (id := H.length) (ver := 0) (n := n) (fz := 0) (ex := true) (f := outF res 0) HR_out (by omega)
    rw [show 5 + 3 = 8 from rfl] at f
    simp [go_sem]
    simp only [f]
    have hv : isL (.lst 1 false (fcells n (outF res 0))) res := by
      have := isL.f (n := n) (f := outF res 0) (ex := false)
      have e : n = res.length := by simpa using hl.symm
      rw [e] at this ⊢
      rw [outF_list] at this
      exact this
    simp [go_sem, hv.top, HR_take2]
    exact hyes res he s' _ hv
  · rw [← roomsF_srch] at he
    simp [go_sem, HR_take]
    exact hno he s'
end
/-- the first of the fewest rooms, as the program has them -/
def roomsS (n : Nat) (w : Nat → Nat) (k : Nat) : List Nat :=
  ((List.range' (n - k) k).findSome? fun m => roomsF (fitW w) m n []).getD (List.range n)
theorem l16a {id ver n fz : Nat} {ex : Bool} {w : Nat → Nat} (hid : H[id]? = some (.row ver (wcells n w) fz ex)) (hw : ∀ x, w x < 256) (hn : n ≤ 8) (hbar : bar ≤ H.length) (hbase : base ≤ H.length) {R : PQ} : ∀ (k m : Nat), m + k = n → 1 ≤ m →
    (∀ b v H', isL v b → (List.range' m k).findSome? (fun m => roomsF (fitW w) m n []) = some b → H'.take base = H.take base → R .ret [(2, v), (3, .int .i64 0)] H') →
    ((List.range' m k).findSome? (fun m => roomsF (fitW w) m n []) = none → R (.exit 0) [(4, .ptr id ver 0), (6, .int .i64 (n : Nat)), (24, .bool false)] H) →
    Wp E base bar (.loop c16_l0) [(4, .ptr id ver 0), (6, .int .i64 (m : Nat))] H R := by
  intro k
  induction k with
  | zero =>
    intro m hm h1 hy hno
    obtain rfl : m = n := by omega
    rw [wp_round c16_l0.eq_1]
    simp [go_sem, loadN hid]
    exact hno rfl
  | succ k ih =>
    intro m hm h1 hy hno
    have hlt : m < n := by omega
    rw [wp_round c16_l0.eq_1]
    simp only [List.range'_succ, List.findSome?_cons] at hy hno
    simp [go_sem, loadN hid, hlt, aop, AV.asNat]
    rw [if_pos (show m ≤ 140737488355328 by omega), ← ucells_zero]
    have hne : id ≠ H.length := by have := (List.getElem?_eq_some_iff.1 hid).1; omega
    have hset : ∀ s, (H ++ [Blk.row 0 (ucells m fun _ => 0) 0 true]).set H.length (.row 0 (ucells m s) 0 true) = H ++ [Blk.row 0 (ucells m s) 0 true] := fun s => by rw [own_set0]; rfl
    simp [go_sem]
    refine k62 (rid := H.length) (rv := 0) (old_get hid) (by rw [own_get0]; rfl) hne hw hn (by omega) hbar (fun he s => ?_) (fun b he s v hv => ?_)
    · simp only [he] at hy hno
      rw [hset]
      have hid' := (List.getElem?_eq_some_iff.1 hid).1
      simp [go_sem, i64_suc (show m < 1000000 by omega), show id + 1 ≤ H.length by omega]
      exact ih (m + 1) (by omega) (by omega) hy hno
    · simp only [he] at hy
      rw [hset]
      simp [go_sem]
      exact hy b v _ hv rfl (by rw [List.take_append_of_le_length hbase])
theorem l16b (H0 : Heap) {n : Nat} (hn : n ≤ 8) (hbar : bar ≤ H0.length) (hbase : base ≤ H0.length) {R : PQ} : ∀ (k i : Nat), i + k = n → ∀ (v : AV) (H : Heap), Grow 1 (nats (List.range i)) H0 v H →
    (∀ v' H', Grow 1 (nats (List.range n)) H0 v' H' → R (.exit 2) [(9, v'), (40, .int .i64 (n : Nat)), (41, .int .i64 (n : Nat)), (42, .bool false)] H') →
    Wp E base bar (.loop c16_l1) [(9, v), (40, .int .i64 (n : Nat)), (41, .int .i64 (i : Nat))] H R := by
  intro k
  induction k with
  | zero =>
    intro i hi v H g h
    obtain rfl : i = n := by omega
    rw [wp_round c16_l1.eq_1]
    simp [go_sem]
    exact h v H g
  | succ k ih =>
    intro i hi v H g h
    have hlt : i < n := by omega
    rw [wp_round c16_l1.eq_1]
    simp [go_sem, hlt, aop, fillA, setCells, chunks, AV.noVec.noVecs, AV.noVec]
    refine g.nat hbar hbase (by simp; omega) fun v' H' tc g' => ?_
    simp [go_sem, i64_suc (show i < 1000000 by omega)]
    refine ih (i + 1) (by omega) v' H' ?_ h
    rw [List.range_succ]; exact g'
theorem k16 {n : Int} {q : AV} {l : List ZZ} (hq : isP q l) (hl : l.length < 1000) (hbar : bar ≤ H.length)
    (h1 : ∀ e, openS n l = .err e → Q (.tup [.nils, .int .i64 e]) H)
    (h2 : ∀ (m : Nat) (w : Nat → Nat), n = m → 1 ≤ m → m ≤ 8 → (∀ x, w x < 256) → openS n l = .room w → ∀ v, isL v (roomsS m w (m - 1)) → Q (.tup [v, .int .i64 0]) H) :
    WpCall E pure base bar 16 [.agg [.int .i64 n, q]] H Q := by
  rw [call16]
  have hb' := bar_ok (pure := pure) hbar
  simp [go_sem, WpFun, c16, hq.frz, aload] at hb' ⊢
  generalize (if pure = true then H.length else bar) = bar' at hb' ⊢
  refine k61 hq hl (by simp; omega) ?_ ?_
  · intro e he
    simp [go_sem, openS_err he]
    exact h1 e he
  · intro m w hm hm1 hm8 hw he
    have hid : (H ++ [Blk.row 0 [AV.int IntKind.i64 n, q] 0 true, Blk.row 0 (wcells m w) 0 true])[H.length + 1]? = some (.row 0 (wcells m w) 0 true) := by simp [own_get]
    have e1 : H ++ [Blk.row 0 [AV.int IntKind.i64 n, q] 0 true] ++ [Blk.row 0 (wcells m w) 0 true] = H ++ [Blk.row 0 [AV.int IntKind.i64 n, q] 0 true, Blk.row 0 (wcells m w) 0 true] := by simp
    simp [go_sem]
    refine l16a hid hw hm8 (by simp; omega) (by simp) (m - 1) 1 (by omega) (by omega) (fun b v H' hv hb ht => ?_) (fun hb => ?_)
    · have ht' : H'.take H.length = H := by rw [ht]; simp
      simp [go_sem, hv.frz, hv.top, ht']
      refine h2 m w hm hm1 hm8 hw he v ?_
      unfold roomsS
      rw [show m - (m - 1) = 1 by omega, hb]
      exact hv
    · simp [go_sem, loadN hid]
      refine l16b _ hm8 (by simp; omega) (by simp) m 0 (by omega) .nils _ .nil fun v' H' g => ?_
      simp [go_sem]
      obtain ⟨H2, f1, f2, f3, f4⟩ := g.frz (d := 5) (bar := bar') (by decide) (Nat.one_dvd _) nats_plain (by simp; omega)
      rw [show 5 + 3 = 8 from rfl] at f1
      simp only [f1]
      have e3 : H2.take H.length = H := by
        have := congrArg (List.take H.length) f4
        rw [List.take_take, Nat.min_eq_left (by simp)] at this
        rw [this]; simp
      have hv := isL.out (l := List.range m)
      simp [go_sem, hv.top, e3]
      refine h2 m w hm hm1 hm8 hw he _ ?_
      unfold roomsS
      rw [show m - (m - 1) = 1 by omega, hb]
      exact hv
end Go.Proofs.Ythoogegclpiefaa.Code
end
section
namespace Go.Proofs.Ythoogegclpiefaa.Code
open Go Go.Ab
variable {pure : Bool} {base bar : Nat} {H : Heap} {Q : AV → Heap → Prop}
/-- a value is a list that is not nil, or nil -/
def isO (v : AV) : Option (List Nat) → Prop
  | none => v = .nils
  | some b => ∃ ex, v = .lst 1 ex (nats b)
theorem isL.ne {v : AV} {b : List Nat} (h : isL v b) (hb : b ≠ []) : isO v (some b) := by
  rcases h with ⟨_, he⟩ | h
  · exact absurd he hb
  · exact h
theorem isO.l {v : AV} {b : List Nat} (h : isO v (some b)) : isL v b := .inr h
theorem roomsF_some {fit : List Nat → Nat → Bool} {m n : Nat} (f : Nat → Nat) (hf : ∀ i, i < n → f i < m) (hfit : ∀ i, i < n → fit ((List.range i).map f) (f i) = true) :
    ∀ k i, i + k = n → (roomsF fit m k ((List.range i).map f)).isSome = true
  | 0, i, _ => rfl
  | k + 1, i, hi => by
    simp only [roomsF]
    rw [List.findSome?_isSome_iff]
    refine ⟨f i, List.mem_range.2 (hf i (by omega)), ?_⟩
    rw [if_pos (hfit i (by omega))]
    have := roomsF_some f hf hfit k (i + 1) (by omega)
    rw [List.range_succ, List.map_append] at this
    exact this
end Go.Proofs.Ythoogegclpiefaa.Code
end
section
namespace Go.Proofs.Ythoogegclpiefaa.Code
open Go Go.Ab
variable {pure : Bool} {base bar : Nat} {H : Heap} {Q : AV → Heap → Prop}
end Go.Proofs.Ythoogegclpiefaa.Code
end
section
namespace Go.Proofs.Ythoogegclpiefaa.Code
open Go Go.Ab
variable {pure : Bool} {base bar : Nat} {H : Heap} {Q : AV → Heap → Prop}
theorem bits_zero_iff : ∀ s, s < 256 → bitsOf s = [] → s = 0 := by decide +kernel
end Go.Proofs.Ythoogegclpiefaa.Code
end
section
namespace Go.Proofs.Ythoogegclpiefaa.Code
open Go Go.Ab
theorem testBit_all {m i : Nat} : (pw m - 1).testBit i = decide (i < m) := by unfold pw; exact Nat.testBit_two_pow_sub_one ..
end Go.Proofs.Ythoogegclpiefaa.Code
end
section
namespace Go.Proofs.Ythoogegclpiefaa.Code
open Go Go.Ab
variable {pure : Bool} {base bar : Nat} {H : Heap} {Q : AV → Heap → Prop}
end Go.Proofs.Ythoogegclpiefaa.Code
end
section
namespace Go.Ab
open Go.RowKit Go.ChangeShapes Go.WideShapes
variable {H : Type} {enc : TypeId × Value → H} {P : Program} {W W' : World} {base : Nat} {spare : Nat → Bool} {held : Bool}
end Go.Ab
end
section
namespace Go.Proofs.Ythoogegclpiefaa.Code
open Go Go.Ab
/-- a workroom: who quarrels with whom, both ways, nobody with himself, only those who are there -/
structure RoomW (n : Nat) (w : Nat → Nat) : Prop where
  lt : ∀ x, w x < 256
  sym : ∀ x y, (w x).testBit y = (w y).testBit x
  irr : ∀ x, (w x).testBit x = false
  dom : ∀ x y, (w x).testBit y = true → x < n ∧ y < n
theorem RoomW.zero {n : Nat} : RoomW n (fun _ => 0) := ⟨fun _ => by decide, fun _ _ => by simp, fun _ => by simp, fun x y h => by simp at h⟩
theorem RoomW.join {n a b : Nat} {w : Nat → Nat} (h : RoomW n w) (hn : n ≤ 8) (ha : a < n) (hb : b < n) (hab : a ≠ b) : RoomW n (joinW w a b) := by
  refine ⟨joinW_lt h.lt (by omega) (by omega), fun x y => ?_, fun x => ?_, fun x y hxy => ?_⟩
  · rw [joinW_bit hab, joinW_bit hab, h.sym x y]
    by_cases h1 : x = a <;> by_cases h2 : y = b <;> by_cases h3 : x = b <;> by_cases h4 : y = a <;> simp [h1, h2, h3, h4]
  · rw [joinW_bit hab, h.irr]
    by_cases h1 : x = a <;> by_cases h3 : x = b <;> simp [h1, h3] <;> omega
  · rw [joinW_bit hab] at hxy
    simp only [Bool.or_eq_true, Bool.and_eq_true, decide_eq_true_eq] at hxy
    rcases hxy with (hxy | ⟨h1, h2⟩) | ⟨h1, h2⟩
    · exact h.dom x y hxy
    · omega
    · omega
theorem openF_room {n : Nat} (hn : n ≤ 8) : ∀ {l : List ZZ} {w w' : Nat → Nat}, RoomW n w → openF n w l = .room w' → RoomW n w'
  | [], w, w', hw, h => by
    simp only [openF, Opened.room.injEq] at h
    subst h; exact hw
  | (a, b) :: r, w, w', hw, h => by
    simp only [openF] at h
    split at h
    · cases h
    rename_i h1
    split at h
    · cases h
    rename_i h2
    split at h
    · cases h
    obtain ⟨a, rfl⟩ := Int.eq_ofNat_of_zero_le (show 0 ≤ a by omega)
    obtain ⟨b, rfl⟩ := Int.eq_ofNat_of_zero_le (show 0 ≤ b by omega)
    exact openF_room hn (hw.join hn (by simp; omega) (by simp; omega) (by simp; omega)) h
theorem openS_room {n : Int} {m : Nat} {l : List ZZ} {w : Nat → Nat} (hm : n = m) (h : openS n l = .room w) : RoomW m w := by
  obtain ⟨h1, h2, h3, h4, h5, h6⟩ := openS_facts hm h
  exact openF_room h1 .zero h6
/-! a copy -/
theorem joins_bit {b : Nat} : ∀ {l : List Nat} {w : Nat → Nat} {x y : Nat}, (∀ z ∈ l, z ≠ b) → (joins w b l x).testBit y = ((w x).testBit y || (decide (x = b) && decide (y ∈ l)) || (decide (y = b) && decide (x ∈ l)))
  | [], w, x, y, _ => by simp [joins]
  | z :: r, w, x, y, h => by
    have hz := h z (List.mem_cons_self ..)
    have e : joins w b (z :: r) = joins (joinW w b z) b r := rfl
    rw [e, joins_bit fun u hu => h u (List.mem_cons_of_mem _ hu), joinW_bit (Ne.symm hz)]
    by_cases h1 : x = b
    · subst h1
      by_cases h2 : y = x
      · subst h2
        simp [hz, Ne.symm hz]
      · by_cases h3 : y = z
        · subst h3; simp
        · simp [h2, h3, Ne.symm hz]
    · by_cases h2 : y = b
      · subst h2
        by_cases h3 : x = z
        · subst h3; simp
        · simp [h1, h3, Ne.symm hz]
      · simp [h1, h2]
theorem joins_lt {b : Nat} (hb : b < 8) : ∀ {l : List Nat} {w : Nat → Nat}, (∀ x, w x < 256) → (∀ z ∈ l, z < 8) → ∀ x, joins w b l x < 256
  | [], w, hw, _, x => hw x
  | z :: r, w, hw, h, x => joins_lt hb (l := r) (joinW_lt hw hb (h z (List.mem_cons_self ..))) (fun u hu => h u (List.mem_cons_of_mem _ hu)) x
theorem take_bit {n a b : Nat} {w : Nat → Nat} (h : RoomW n w) (hn : n ≤ 8) (hab : a ≠ b) (x y : Nat) :
    (takeW n w a b x).testBit y = if x = b then (if y = b then false else (w a).testBit y) else if y = b then (w a).testBit x else (w x).testBit y := by
  have hf : ∀ x, forgetW w b n x < 256 := forgetW_lt h.lt
  have e1 : upd (forgetW w b n) b 0 a = forgetW w b n a := by simp [upd, hab]
  have hfb : ∀ x y, (forgetW w b n x).testBit y = ((w x).testBit y && !decide (y = b)) := fun x y => by
    unfold forgetW
    split
    · rw [testBit_clr (h.lt x), testBit_pw]
      by_cases hy : y = b
      · subst hy; simp
      · simp [hy, Ne.symm hy]
    · rename_i hx
      cases hc : (w x).testBit y
      · simp
      · exact absurd (h.dom x y hc).1 hx
  have hmem : ∀ z, z ∈ bitsOf (forgetW w b n a) ↔ (w a).testBit z = true ∧ z ≠ b := fun z => by
    unfold bitsOf
    rw [List.mem_filter, hfb]
    simp only [List.mem_range, Bool.and_eq_true, Bool.not_eq_true', decide_eq_false_iff_not]
    constructor
    · rintro ⟨_, g⟩; exact g
    · intro g; have := (h.dom a z g.1).2; exact ⟨by omega, g⟩
  unfold takeW
  rw [e1, joins_bit fun z hz => ((hmem z).1 hz).2]
  simp only [hmem]
  unfold upd
  by_cases h1 : x = b
  · subst h1
    by_cases h2 : y = x
    · subst h2; simp
    · simp [h2]
  · by_cases h2 : y = b
    · subst h2
      simp [h1, hfb]
    · simp [h1, h2, hfb]
theorem RoomW.take {n a b : Nat} {w : Nat → Nat} (h : RoomW n w) (hn : n ≤ 8) (ha : a < n) (hb : b < n) (hab : a ≠ b) : RoomW n (takeW n w a b) := by
  refine ⟨fun x => joins_lt (by omega) (upd_lt (forgetW_lt h.lt) (by decide)) (fun z hz => bits_lt hz) x, fun x y => ?_, fun x => ?_, fun x y hxy => ?_⟩
  · rw [take_bit h hn hab, take_bit h hn hab]
    by_cases h1 : x = b <;> by_cases h2 : y = b <;> simp [h1, h2, h.sym x y]
  · rw [take_bit h hn hab]
    by_cases h1 : x = b <;> simp [h1, h.irr]
  · rw [take_bit h hn hab] at hxy
    by_cases h1 : x = b
    · subst h1
      by_cases h2 : y = x
      · simp [h2] at hxy
      · simp only [h2, if_true, if_false] at hxy
        exact ⟨hb, (h.dom _ _ hxy).2⟩
    · by_cases h2 : y = b
      · subst h2
        simp only [h1, if_true, if_false] at hxy
        exact ⟨(h.dom _ _ hxy).2, hb⟩
      · simp only [h1, h2, if_false] at hxy
        exact h.dom x y hxy
theorem openF_ok {n : Nat} (hn : n ≤ 8) : ∀ (l done : List ZZ) (w : Nat → Nat), Tells w done → (∀ p ∈ l, 0 ≤ p.1 ∧ p.1 < p.2 ∧ p.2 < (n : Int)) → l.Nodup → (∀ p ∈ l, p ∉ done) → (∀ p ∈ done, p.1 < p.2) → ∃ w', openF n w l = .room w'
  | [], done, w, _, _, _, _, _ => ⟨w, rfl⟩
  | (a, b) :: r, done, w, ht, hv, hnd, hnot, hdone => by
    obtain ⟨v1, v2, v3⟩ := hv (a, b) (List.mem_cons_self ..)
    simp only at v1 v2 v3
    obtain ⟨a, rfl⟩ := Int.eq_ofNat_of_zero_le v1
    obtain ⟨b, rfl⟩ := Int.eq_ofNat_of_zero_le (show 0 ≤ b by omega)
    have hq : qin done (a : Int) (b : Int) = false := by
      cases hq : qin done (a : Int) (b : Int)
      · rfl
      · simp only [qin, List.any_eq_true, Bool.or_eq_true, Bool.and_eq_true, beq_iff_eq] at hq
        obtain ⟨p, hp, hq⟩ := hq
        rcases hq with ⟨h1, h2⟩ | ⟨h1, h2⟩
        · refine absurd hp (hnot p ?_)
          obtain ⟨p1, p2⟩ := p
          simp only at h1 h2
          subst h1 h2
          exact List.mem_cons_self ..
        · have := hdone p hp
          omega
    rw [← ht a b (by omega) (by omega)] at hq
    simp only [openF]
    rw [if_neg (by omega), if_neg (by omega), Int.toNat_natCast, Int.toNat_natCast, if_neg (by simp [hq])]
    refine openF_ok hn r (done ++ [((a : Int), (b : Int))]) _ (ht.step (by omega)) (fun p hp => hv p (List.mem_cons_of_mem _ hp)) (List.nodup_cons.1 hnd).2 (fun p hp hc => ?_) (fun p hp => ?_)
    · rcases List.mem_append.1 hc with hc | hc
      · exact hnot p (List.mem_cons_of_mem _ hp) hc
      · simp only [List.mem_singleton] at hc
        subst hc
        exact (List.nodup_cons.1 hnd).1 hp
    · rcases List.mem_append.1 hp with hp | hp
      · exact hdone p hp
      · simp only [List.mem_singleton] at hp
        subst hp
        exact v2
end Go.Proofs.Ythoogegclpiefaa.Code
end
section
namespace Go.Proofs.Ythoogegclpiefaa.Code
open Go Go.Ab
variable {pure : Bool} {base bar : Nat} {H : Heap} {Q : AV → Heap → Prop}
end Go.Proofs.Ythoogegclpiefaa.Code
end
section
namespace Go.Proofs.Ythoogegclpiefaa.Code
open Go Go.Ab
variable {pure : Bool} {base bar : Nat} {H : Heap} {Q : AV → Heap → Prop}
end Go.Proofs.Ythoogegclpiefaa.Code
end
section
namespace Go.Proofs.Ythoogegclpiefaa.Code
open Go Go.Ab
variable {pure : Bool} {base bar : Nat} {H : Heap} {Q : AV → Heap → Prop}
end Go.Proofs.Ythoogegclpiefaa.Code
end
section
namespace Go.Proofs.Ythoogegclpiefaa.Code
open Go Go.Ab
variable {pure : Bool} {base bar : Nat} {H : Heap} {Q : AV → Heap → Prop}
end Go.Proofs.Ythoogegclpiefaa.Code
end
section
namespace Go.Proofs.Ythoogegclpiefaa.Code
open Go Go.Ab
variable {pure : Bool} {base bar : Nat} {H : Heap} {Q : AV → Heap → Prop}
theorem odd_some {n a b c : Nat} {w : Nat → Nat} (h : RoomW n w) (ho : oddS n w = some (a, b, c)) : a < n ∧ b < n ∧ c < n ∧ a ≠ b ∧ b ≠ c ∧ a ≠ c ∧ (w a).testBit b = false ∧ (w b).testBit c = false ∧ (w a).testBit c = true := by
  unfold oddS at ho
  obtain ⟨l1, a', l2, h1, h2, h3⟩ := List.findSome?_eq_some_iff.1 ho
  have ha : a' < n := List.mem_range.1 (by rw [h1]; simp)
  unfold oddB at h2
  obtain ⟨m1, b', m2, g1, g2, g3⟩ := List.findSome?_eq_some_iff.1 h2
  have hb : b' < n := List.mem_range.1 (by rw [g1]; simp)
  cases hc : oddC n w a' b' with
  | none => rw [hc] at g2; cases g2
  | some c' =>
    rw [hc] at g2
    simp only [Option.map_some, Option.some.injEq, Prod.mk.injEq] at g2
    obtain ⟨rfl, rfl, rfl⟩ := g2
    unfold oddC at hc
    split at hc
    · cases hc
    rename_i hn
    have hmem := List.mem_of_head? hc
    simp only [bitsOf, List.mem_filter, List.mem_range, testBit_band, testBit_all, testBit_clr (h.lt _), Bool.and_eq_true, Bool.not_eq_true', decide_eq_true_eq] at hmem
    obtain ⟨_, ⟨k1, k2⟩, k3⟩ := hmem
    have hab : a' ≠ b' := fun he => hn (.inl he)
    have hq : (w a').testBit b' = false := by
      cases hq : (w a').testBit b'
      · rfl
      · exact absurd (.inr hq) hn
    refine ⟨ha, hb, k3, hab, fun he => ?_, fun he => ?_, hq, k2, k1⟩
    · subst he; rw [hq] at k1; cases k1
    · subst he; rw [h.irr] at k1; cases k1
end Go.Proofs.Ythoogegclpiefaa.Code
end
section
namespace Go.Proofs.Ythoogegclpiefaa.Code
open Go Go.Ab
variable {pure : Bool} {base bar : Nat} {H : Heap} {Q : AV → Heap → Prop}
end Go.Proofs.Ythoogegclpiefaa.Code
end
section
namespace Go.Proofs.Ythoogegclpiefaa.Code
open Go Go.Ab
variable {pure : Bool} {base bar : Nat} {H : Heap} {Q : AV → Heap → Prop}
/-! brawls and copies -/
theorem brawl_iff {n s : Nat} {w : Nat → Nat} (h : RoomW n w) (hs : s < 256) : brawlS w s = true ↔ ∀ x y, s.testBit x = true → s.testBit y = true → x ≠ y → (w x).testBit y = true := by
  unfold brawlS
  simp only [List.all_eq_true, beq_iff_eq]
  constructor
  · intro hb x y hx hy hxy
    have hx8 : x < 8 := by
      apply Decidable.byContradiction
      intro hc
      rw [Nat.testBit_lt_two_pow (Nat.lt_of_lt_of_le hs (Nat.pow_le_pow_right (by decide) (Nat.not_lt.1 hc) : 2 ^ 8 ≤ 2 ^ x))] at hx
      cases hx
    have := congrArg (·.testBit y) (hb x (by simp [bitsOf, hx8, hx]))
    simp only [testBit_clr hs, testBit_pw, hy, Bool.true_and, hxy, decide_false, Bool.not_eq_false'] at this
    exact this
  · intro hb x hx
    simp only [bitsOf, List.mem_filter, List.mem_range] at hx
    apply Nat.eq_of_testBit_eq
    intro y
    rw [testBit_clr hs, testBit_pw]
    by_cases hxy : x = y
    · subst hxy; simp [hx.2, h.irr]
    · cases hy : s.testBit y
      · simp [hxy]
      · simp [hxy, hb x y hx.2 hy hxy]
theorem largest_max {n s : Nat} {w : Nat → Nat} (h1 : 1 ≤ s) (h2 : s < pw n) (hb : brawlS w s = true) : (bitsOf s).length ≤ (largestS n w).length := by
  obtain ⟨_, f2, _⟩ := fold_best (w := w) (List.range' 1 (pw n - 1)) []
  have := f2 s (List.mem_range'_1.2 (by omega)) hb
  apply Decidable.byContradiction
  intro hc
  exact this (.inl (by show (largestS n w).length < _; omega))
theorem largest_is {n : Nat} {w : Nat → Nat} : largestS n w = [] ∨ ∃ s, 1 ≤ s ∧ s < pw n ∧ brawlS w s = true ∧ largestS n w = bitsOf s := by
  obtain ⟨f1, _, _⟩ := fold_best (w := w) (List.range' 1 (pw n - 1)) []
  rcases f1 with f1 | ⟨s, hs, hb, he⟩
  · exact .inl f1
  · have := List.mem_range'_1.1 hs
    exact .inr ⟨s, by omega, by omega, hb, he⟩
theorem lt_pw {n s : Nat} (h : ∀ i, s.testBit i = true → i < n) : s < pw n := by
  unfold pw
  apply Nat.lt_pow_two_of_testBit
  intro i hi
  cases hc : s.testBit i
  · rfl
  · have := h i hc; omega
theorem bit_lt {n s i : Nat} (h : s < pw n) (hb : s.testBit i = true) : i < n := by
  apply Decidable.byContradiction
  intro hc
  rw [Nat.testBit_lt_two_pow (Nat.lt_of_lt_of_le h (Nat.pow_le_pow_right (by decide) (Nat.not_lt.1 hc) : 2 ^ n ≤ 2 ^ i))] at hb
  cases hb
end Go.Proofs.Ythoogegclpiefaa.Code
end
section
namespace Go.Proofs.Ythoogegclpiefaa.Code
open Go Go.Ab
variable {pure : Bool} {base bar : Nat} {H : Heap} {Q : AV → Heap → Prop}
end Go.Proofs.Ythoogegclpiefaa.Code
end
section
namespace Go.Ab
open Go.RowKit Go.ChangeShapes Go.WideShapes
variable {H : Type} {enc : TypeId × Value → H} {P : Program} {W W' : World} {base : Nat} {spare : Nat → Bool} {held : Bool}
theorem flat_vr {n : Nat} {t : TypeId} {v : Value} {d : DataW H} {ps : List MemPlace} {r : Reach} {b0 : Nat}
    (hu : (∃ fs, P.underlying t = some (.struct fs)) ∨ ∃ m e, P.underlying t = some (.array m e)) (hf : flatT P n t = true)
    (hval : Value.okWide P W r b0 t v) (hd : DataW.Trod enc P W 0 spare held t v d ps) : ∃ ys, VR (ctx0 W) (.agg ys) v ∧ Sh P n t ys := by
  have hv : ∃ cs, v = .agg cs := by
    unfold Value.okWide at hval
    rcases hu with ⟨fs, hu⟩ | ⟨m, e, hu⟩
    · rw [hu] at hval
      obtain ⟨cs, h, _⟩ := hval
      exact ⟨cs, h⟩
    · rw [hu] at hval
      obtain ⟨cs, h, _⟩ := hval
      exact ⟨cs, h⟩
  obtain ⟨cs, rfl⟩ := hv
  obtain ⟨fuel, hd⟩ := hd
  obtain ⟨ys, h1, h2⟩ := flat_cel (W := W) n t hf _ _ _ hd
  have hc : (Value.agg cs).cells.toList = cs.toList := rfl
  rw [hc] at h2
  exact ⟨ys, .agg ys cs (by rw [h2.len]; simp) h2.one fun i c u hi hu => h2.vr i c u hi (by simpa using hu), h1⟩
theorem sh_nat {n : Nat} {e : TypeId} {k : IntKind} {ys : List AV} (he : P.underlying e = some (.int k)) (hk : k.min = 0) (h : Sh P (n + 1) e ys) : ∃ a : Nat, ys = [.int k a] ∧ (a : Int) ≤ k.max := by
  unfold Sh at h
  rw [he] at h
  obtain ⟨z, rfl, hw⟩ := h
  simp only [Lit.wf, Bool.and_eq_true, decide_eq_true_eq, hk] at hw
  obtain ⟨a, rfl⟩ := Int.eq_ofNat_of_zero_le hw.1
  exact ⟨a, rfl, hw.2⟩
theorem u8_wf {z : Int} (h : (Lit.int .u8 z).wf = true) : ∃ a : Nat, z = a ∧ a < 256 := by
  simp only [Lit.wf, Bool.and_eq_true, decide_eq_true_eq] at h
  have m0 : IntKind.u8.min = 0 := by decide
  have m1 : IntKind.u8.max = 255 := by decide
  exact ⟨z.toNat, by omega, by omega⟩
/-- a struct of a byte and a word -/
theorem row_vr {t : TypeId} {f0 f1 : Field} {v : Value} {d : DataW H} {ps : List MemPlace} {r : Reach} {b0 : Nat}
    (ht : P.underlying t = some (.struct #[f0, f1])) (o0 : f0.offset = 0) (o1 : f1.offset = 1) (c0 : P.cellsOf f0.type = 1) (c1 : P.cellsOf f1.type = 1) (ct : P.cellsOf t = 2)
    (h0 : P.underlying f0.type = some (.int .u8)) (h1 : P.underlying f1.type = some (.int .u32))
    (hval : Value.okWide P W r b0 t v) (hd : DataW.Trod enc P W 0 spare held t v d ps) :
    ∃ p bits : Nat, p < 256 ∧ bits < 4294967296 ∧ VR (ctx0 W) (.agg [.int .u8 (p : Nat), .int .u32 (bits : Nat)]) v := by
  have hf : flatT P 2 t = true := by
    have g0 : flatT P 1 f0.type = true := by unfold flatT; rw [h0]
    have g1 : flatT P 1 f1.type = true := by unfold flatT; rw [h1]
    unfold flatT; rw [ht]
    simp [rowed, o0, o1, c0, c1, ct, g0, g1]
  obtain ⟨ys, hv, hs⟩ := flat_vr (.inl ⟨_, ht⟩) hf hval hd
  unfold Sh at hs
  rw [ht] at hs
  obtain ⟨hl, hs⟩ := hs
  rw [ct] at hl
  have s0 := hs f0 (by simp)
  have s1 := hs f1 (by simp)
  rw [o0, c0] at s0
  rw [o1, c1] at s1
  obtain ⟨p, hp, hp2⟩ := sh_nat h0 (by decide) s0
  obtain ⟨b, hb, hb2⟩ := sh_nat h1 (by decide) s1
  match ys, hl with
  | [x, y], _ =>
    simp at hp hb
    subst hp hb
    have m1 : IntKind.u8.max = 255 := by decide
    have m2 : IntKind.u32.max = 4294967295 := by decide
    exact ⟨p, b, by omega, by omega, hv⟩
end Go.Ab
end
section
namespace Go.Proofs.Ythoogegclpiefaa.Code
open Go Go.Ab
variable {pure : Bool} {base bar : Nat} {H : Heap} {Q : AV → Heap → Prop}
/-! who quarrels, as 64 cells -/
def gcells (f : Nat → Nat → Bool) : List AV := (List.range 64).map fun i => .bool (f (i / 8) (i % 8))
def upd2 (f : Nat → Nat → Bool) (a b : Nat) (x : Bool) : Nat → Nat → Bool := fun i j => if i = a ∧ j = b then x else f i j
theorem gcells_length {f : Nat → Nat → Bool} : (gcells f).length = 64 := by simp [gcells]
theorem gcells_get {f : Nat → Nat → Bool} {a b : Nat} (ha : a < 8) (hb : b < 8) : (gcells f)[a * 8 + b]? = some (.bool (f a b)) := by
  have h1 : a * 8 + b < 64 := by omega
  have h2 : (a * 8 + b) / 8 = a := by omega
  have h3 : (a * 8 + b) % 8 = b := by omega
  simp only [gcells, List.getElem?_map, List.getElem?_range h1, Option.map_some, h2, h3]
theorem gcells_set {f : Nat → Nat → Bool} {a b : Nat} {x : Bool} (ha : a < 8) (hb : b < 8) : setCells (gcells f) (a * 8 + b) [.bool x] = gcells (upd2 f a b x) := by
  simp only [setCells]
  apply List.ext_getElem?
  intro j
  rw [List.getElem?_set]
  by_cases hj : a * 8 + b = j
  · subst hj
    rw [if_pos rfl, if_pos (by rw [gcells_length]; omega), gcells_get ha hb]
    simp [upd2]
  · rw [if_neg hj]
    by_cases h8 : j < 64
    · simp only [gcells, List.getElem?_map, List.getElem?_range h8, Option.map_some, upd2]
      rw [if_neg (by omega)]
    · simp [gcells, h8]
theorem gcells_plain {f : Nat → Nat → Bool} : ∀ c ∈ gcells f, Plain c := fun c hc => by
  simp only [gcells, List.mem_map] at hc
  obtain ⟨a, _, rfl⟩ := hc
  exact Plain.bool
@[go_sem] theorem gcells_tops {f : Nat → Nat → Bool} : AV.top.tops (gcells f) = 0 := tops_zero fun x hx => by
  simp only [gcells, List.mem_map] at hx
  obtain ⟨a, _, rfl⟩ := hx; rfl
@[go_sem] theorem gcells_noVec {f : Nat → Nat → Bool} : AV.noVec.noVecs (gcells f) = true := by
  unfold gcells
  generalize List.range 64 = l
  induction l with
  | nil => rfl
  | cons x r ih => simpa [AV.noVec.noVecs, AV.noVec] using ih
theorem loadGG {id ver fz : Nat} {ex : Bool} {f : Nat → Nat → Bool} (hid : H[id]? = some (.row ver (gcells f) fz ex)) :
    aload H ⟨true, 64⟩ (.ptr id ver 0) = some (.agg (gcells f)) := by
  rw [aload_ptr hid, part_agg, if_pos (by rw [gcells_length]; omega), List.drop_zero, List.take_of_length_le (by rw [gcells_length]; omega)]
theorem storeG {K : AV → Heap → List Nat → Prop} {id ver a b : Nat} {ex x : Bool} {f : Nat → Nat → Bool} (hid : H[id]? = some (.row ver (gcells f) 0 ex)) (ha : a < 8) (hb : b < 8) (hbar : bar ≤ id) :
    storeWp base bar 1 (.ptr id ver (a * 8 + b)) (.bool x) H K = K (.tup []) (H.set id (.row ver (gcells (upd2 f a b x)) 0 ex)) [id] := by
  rw [storeWp_ptr (size := 1) hid rfl rfl (by omega) (by rw [gcells_length]; omega) hbar (.inr (by simp [AV.cells, tops_cons, tops_nil, top_bool]))]
  simp only [AV.cells, gcells_set ha hb]
theorem gcells_over {f g : Nat → Nat → Bool} : setCells (gcells f) 0 (gcells g) = gcells g := by
  have : ∀ (news l r : List AV), news.length = r.length → setCells (l ++ r) l.length news = l ++ news := by
    intro news
    induction news with
    | nil => intro l r h; obtain rfl : r = [] := List.length_eq_zero_iff.1 h.symm; simp [setCells]
    | cons x n ih =>
      intro l r h
      cases r with
      | nil => simp at h
      | cons y r =>
        have := ih (l ++ [x]) r (by simpa using h)
        simp only [setCells]
        rw [show (l ++ y :: r).set l.length x = l ++ x :: r by simp [List.set_append]]
        simpa using this
  exact this (gcells g) [] (gcells f) (by rw [gcells_length, gcells_length])
theorem storeGG {K : AV → Heap → List Nat → Prop} {id ver : Nat} {ex : Bool} {f g : Nat → Nat → Bool} (hid : H[id]? = some (.row ver (gcells f) 0 ex)) (hbar : bar ≤ id) :
    storeWp base bar 64 (.ptr id ver 0) (.agg (gcells g)) H K = K (.tup []) (H.set id (.row ver (gcells g) 0 ex)) [id] := by
  rw [storeWp_ptr (size := 64) hid rfl (by simp [AV.cells, gcells_length]) (by omega) (by rw [gcells_length]; omega) hbar (.inr (by simp [AV.cells, gcells_tops]))]
  simp only [AV.cells, gcells_over]
end Go.Proofs.Ythoogegclpiefaa.Code
end
section
namespace Go.Proofs.Ythoogegclpiefaa.Code
open Go Go.Ab
variable {pure : Bool} {base bar : Nat} {H : Heap} {Q : AV → Heap → Prop}
/-! a workroom as a field -/
def wf (w : Nat → Nat) : Nat → Nat → Bool := fun a b => (w a).testBit b
end Go.Proofs.Ythoogegclpiefaa.Code
end
section
namespace Go.Proofs.Ythoogegclpiefaa.Code
open Go Go.Ab
variable {pure : Bool} {base bar : Nat} {H : Heap} {Q : AV → Heap → Prop}
/-! 40: is it parted -/
def testG (f : Nat → Nat → Bool) (a b c : Nat) : Bool := decide (a ≠ b) && (decide (b ≠ c) && (!f a b && (!f b c && f a c)))
def partG (f : Nat → Nat → Bool) (n : Nat) : Bool := (List.range n).all fun a => (List.range n).all fun b => (List.range n).all fun c => !testG f a b c
end Go.Proofs.Ythoogegclpiefaa.Code
end
section
namespace Go.Proofs.Ythoogegclpiefaa.Code
open Go Go.Ab
variable {pure : Bool} {base bar : Nat} {H : Heap} {Q : AV → Heap → Prop}
end Go.Proofs.Ythoogegclpiefaa.Code
end
section
namespace Go.Proofs.Ythoogegclpiefaa.Code
open Go Go.Ab
variable {pure : Bool} {base bar : Nat} {H : Heap} {Q : AV → Heap → Prop}
/-! 35: the house of a row -/
theorem shr_u32 {a b : Nat} (hb : b < 32) : abin .shr (.int .u32 (a : Int)) (.int .i64 (b : Int)) = some (.int .u32 ((a / 2 ^ b : Nat) : Int)) := by
  simp only [abin]
  rw [if_neg (by omega)]
  simp only [Int.toNat_natCast, show IntKind.u32.bits = 32 from rfl]
  congr 2
  rw [Nat.min_eq_left (by omega), show (2 : Int) ^ b = ((2 ^ b : Nat) : Int) by simp, Int.fdiv_eq_ediv_of_nonneg _ (Int.natCast_nonneg _)]
  exact (Int.natCast_ediv _ _).symm
theorem and_u32_one {a : Nat} (ha : a < 4294967296) : abin .and (.int .u32 a) (.int .u32 1) = some (.int .u32 ((a % 2 : Nat) : Int)) := by
  have e : (BitVec.ofInt 32 (a : Int) &&& BitVec.ofInt 32 ((1 : Nat) : Int)).toNat = a % 2 := by
    rw [BitVec.toNat_and, ofInt_toNat (w := 32) ha, ofInt_toNat (w := 32) (by omega), Nat.and_one_is_mod]
  simp only [abin, binInt, if_true]
  rw [show IntKind.u32.bits = 32 from rfl]
  have e' : (BitVec.ofInt 32 (a : Int) &&& BitVec.ofInt 32 (1 : Int)).toNat = a % 2 := e
  rw [e', Go.IntWalk.u32_in _ (by omega)]
def shrN (a b : Nat) : Nat := a / 2 ^ b
theorem shrN_bit {a b : Nat} : shrN a b % 2 = (a.testBit b).toNat := (Nat.toNat_testBit ..).symm
theorem shrN_le {a b : Nat} : shrN a b ≤ a := Nat.div_le_self _ _
def tri : Nat → Nat
  | 0 => 0
  | b + 1 => tri b + b
theorem tri_le : ∀ b, b ≤ 8 → tri b ≤ 28 := by decide
structure MadeTo (n bits b a : Nat) (l : List ZZ) (w : Nat → Nat) : Prop where
  room : openF n (fun _ => 0) l = .room w
  len : l.length ≤ tri b + a
  bit : ∀ x y, x < y → (y < b ∨ y = b ∧ x < a) → (w x).testBit y = bits.testBit (tri y + x)
  out : ∀ x y, x < y → ¬ (y < b ∨ y = b ∧ x < a) → (w x).testBit y = false
structure MadeOK (n bits : Nat) (l : List ZZ) (w : Nat → Nat) : Prop where
  room : openS n l = .room w
  len : l.length ≤ 28
  bit : ∀ x y, x < y → y < n → (w x).testBit y = bits.testBit (tri y + x)
theorem openF_snoc {n : Int} {p : ZZ} : ∀ {l : List ZZ} {w w' : Nat → Nat}, openF n w l = .room w' → openF n w (l ++ [p]) = openF n w' [p]
  | [], w, w', h => by
    simp only [openF, Opened.room.injEq] at h
    subst h; rfl
  | (a, b) :: r, w, w', h => by
    rw [List.cons_append]
    simp only [openF] at h ⊢
    split at h
    · cases h
    rename_i h1
    split at h
    · cases h
    rename_i h2
    split at h
    · cases h
    rename_i h3
    rw [if_neg h1, if_neg h2, if_neg h3]
    have := openF_snoc (p := p) h
    simpa only [openF] using this
theorem MadeTo.zero {n bits : Nat} : MadeTo n bits 0 0 [] (fun _ => 0) := ⟨rfl, Nat.zero_le _, fun x y _ h => by omega, fun x y _ _ => by simp⟩
theorem MadeTo.skip {n bits b a : Nat} {l : List ZZ} {w : Nat → Nat} (h : MadeTo n bits b a l w) (hab : a < b) (hb : bits.testBit (tri b + a) = false) : MadeTo n bits b (a + 1) l w :=
  ⟨h.room, by have := h.len; omega, fun x y hxy hc => by
    by_cases he : y = b ∧ x = a
    · obtain ⟨rfl, rfl⟩ := he
      rw [hb]; exact h.out x y hxy (by omega)
    · exact h.bit x y hxy (by omega), fun x y hxy hc => h.out x y hxy (by omega)⟩
theorem MadeTo.put {n bits b a : Nat} {l : List ZZ} {w : Nat → Nat} (h : MadeTo n bits b a l w) (hab : a < b) (hbn : b < n) (hb : bits.testBit (tri b + a) = true) : MadeTo n bits b (a + 1) (l ++ [((a : Int), (b : Int))]) (joinW w a b) := by
  refine ⟨?_, by have := h.len; simp; omega, fun x y hxy hc => ?_, fun x y hxy hc => ?_⟩
  · rw [openF_snoc h.room]
    simp only [openF]
    rw [if_neg (by omega), if_neg (by omega), Int.toNat_natCast, Int.toNat_natCast, if_neg (by rw [h.out a b hab (by omega)]; simp)]
  · rw [joinW_bit (by omega)]
    by_cases he : y = b ∧ x = a
    · obtain ⟨rfl, rfl⟩ := he
      simp [hb]
    · rw [h.bit x y hxy (by omega)]
      have e1 : (decide (x = a) && decide (y = b)) = false := by simp; omega
      have e2 : (decide (x = b) && decide (y = a)) = false := by simp; omega
      rw [e1, e2]; simp
  · rw [joinW_bit (by omega), h.out x y hxy (by omega)]
    have e1 : (decide (x = a) && decide (y = b)) = false := by simp; omega
    have e2 : (decide (x = b) && decide (y = a)) = false := by simp; omega
    rw [e1, e2]; simp
theorem MadeTo.next {n bits b : Nat} {l : List ZZ} {w : Nat → Nat} (h : MadeTo n bits b b l w) : MadeTo n bits (b + 1) 0 l w :=
  ⟨h.room, by have := h.len; simp [tri]; omega, fun x y hxy hc => h.bit x y hxy (by omega), fun x y hxy hc => h.out x y hxy (by omega)⟩
theorem MadeTo.done {n bits : Nat} {l : List ZZ} {w : Nat → Nat} (h : MadeTo n bits n 0 l w) (h1 : 1 ≤ n) (h8 : n ≤ 8) : MadeOK n bits l w :=
  ⟨by unfold openS; rw [if_pos (by simp [within]; omega)]; exact h.room, by have := h.len; have := tri_le n h8; omega, fun x y hxy hy => h.bit x y hxy (by omega)⟩
theorem wf_join {w : Nat → Nat} {a b : Nat} (hab : a ≠ b) : upd2 (upd2 (wf w) a b true) b a true = wf (joinW w a b) := by
  funext x y
  unfold wf upd2
  rw [joinW_bit hab]
  by_cases h1 : x = b ∧ y = a
  · obtain ⟨rfl, rfl⟩ := h1; simp
  · rw [if_neg h1]
    by_cases h2 : x = a ∧ y = b
    · obtain ⟨rfl, rfl⟩ := h2; simp
    · rw [if_neg h2]
      have e1 : (decide (x = a) && decide (y = b)) = false := by simp; omega
      have e2 : (decide (x = b) && decide (y = a)) = false := by simp; omega
      rw [e1, e2]; simp
theorem wf_zero : (fun _ _ => false) = wf (fun _ => 0) := by
  funext x y; simp [wf]
@[go_sem] theorem gz : AV.agg [.bool false, .bool false, .bool false, .bool false, .bool false, .bool false, .bool false, .bool false, .bool false, .bool false, .bool false, .bool false, .bool false, .bool false, .bool false, .bool false, .bool false, .bool false, .bool false, .bool false, .bool false, .bool false, .bool false, .bool false, .bool false, .bool false, .bool false, .bool false, .bool false, .bool false, .bool false, .bool false, .bool false, .bool false, .bool false, .bool false, .bool false, .bool false, .bool false, .bool false, .bool false, .bool false, .bool false, .bool false, .bool false, .bool false, .bool false, .bool false, .bool false, .bool false, .bool false, .bool false, .bool false, .bool false, .bool false, .bool false, .bool false, .bool false, .bool false, .bool false, .bool false, .bool false, .bool false, .bool false] = .agg (gcells (wf (fun _ => 0))) := by
  rw [← wf_zero]; rfl
/-- five blocks: the row that came in, two results, the house, who quarrels -/
def HM (H : Heap) (r : List AV) (n : Nat) (v : AV) (f : Nat → Nat → Bool) : Heap :=
  H ++ [.row 0 r 0 true, .row 0 [.int .i64 0, .nils] 0 true, .row 0 (gcells (wf (fun _ => 0))) 0 true, .row 0 [.int .i64 (n : Int), v] 0 true, .row 0 (gcells f) 0 true]
theorem HM_len {r : List AV} {n : Nat} {v : AV} {f : Nat → Nat → Bool} : (HM H r n v f).length = H.length + 5 := by simp [HM]
theorem HM_r {r : List AV} {n : Nat} {v : AV} {f : Nat → Nat → Bool} : (HM H r n v f)[H.length]? = some (.row 0 r 0 true) := by simp [HM, own_get0]
theorem HM_1 {r : List AV} {n : Nat} {v : AV} {f : Nat → Nat → Bool} : (HM H r n v f)[H.length + 1]? = some (.row 0 [.int .i64 0, .nils] 0 true) := by simp [HM, own_get]
theorem HM_h {r : List AV} {n : Nat} {v : AV} {f : Nat → Nat → Bool} : (HM H r n v f)[H.length + 3]? = some (.row 0 [.int .i64 (n : Int), v] 0 true) := by simp [HM, own_get]
theorem HM_f {r : List AV} {n : Nat} {v : AV} {f : Nat → Nat → Bool} : (HM H r n v f)[H.length + 4]? = some (.row 0 (gcells f) 0 true) := by simp [HM, own_get]
theorem HM_seth {r : List AV} {n : Nat} {v v' : AV} {f : Nat → Nat → Bool} : (HM H r n v f).set (H.length + 3) (.row 0 [.int .i64 (n : Int), v'] 0 true) = HM H r n v' f := by simp [HM, own_set]
theorem HM_setf {r : List AV} {n : Nat} {v : AV} {f f' : Nat → Nat → Bool} : (HM H r n v f).set (H.length + 4) (.row 0 (gcells f') 0 true) = HM H r n v f' := by simp [HM, own_set]
theorem l35a {n bits b : Nat} {p : AV} {H0 : Heap} (hbits : bits < 4294967296) (hn : n ≤ 8) (hb : b < n) (hbar : bar ≤ H0.length) {R : PQ} :
    ∀ (k a : Nat), a + k = b → ∀ (l : List ZZ) (w : Nat → Nat) (v : AV) (Hc : Heap), MadeTo n bits b a l w → Grow 2 (prs l) (HM H0 [p, .int .u32 (bits : Nat)] n v (wf w)) v Hc →
    (∀ l' w' v' Hc', MadeTo n bits b b l' w' → Grow 2 (prs l') (HM H0 [p, .int .u32 (bits : Nat)] n v' (wf w')) v' Hc' →
      R (.exit 2) [(2, .ptr H0.length 0 0), (4, .ptr (H0.length + 1) 0 0), (5, .ptr (H0.length + 2) 0 0), (6, .ptr (H0.length + 3) 0 0), (7, .ptr (H0.length + 4) 0 0), (8, .int .i64 ((tri b + b : Nat) : Int)), (19, .int .i64 (n : Nat)), (20, .int .i64 (b : Nat)), (9, .int .i64 (b : Nat)), (23, .int .i64 (b : Nat)), (24, .int .i64 (b : Nat)), (25, .bool false)] Hc') →
    Wp E H0.length bar (.loop c35_l0) [(2, .ptr H0.length 0 0), (4, .ptr (H0.length + 1) 0 0), (5, .ptr (H0.length + 2) 0 0), (6, .ptr (H0.length + 3) 0 0), (7, .ptr (H0.length + 4) 0 0), (8, .int .i64 ((tri b + a : Nat) : Int)), (19, .int .i64 (n : Nat)), (20, .int .i64 (b : Nat)), (9, .int .i64 (b : Nat)), (23, .int .i64 (b : Nat)), (24, .int .i64 (a : Nat))] Hc R := by
  intro k
  induction k with
  | zero =>
    intro a ha l w v Hc hm g h
    obtain rfl : a = b := by omega
    rw [wp_round c35_l0.eq_1]
    simp [go_sem]
    exact_mod_cast h l w v Hc hm g
  | succ k ih =>
    intro a ha l w v Hc hm g h
    have hlt : a < b := by omega
    have ht : tri b + a < 28 := by have := tri_le (b + 1) (by omega); simp only [tri] at this; omega
    have hll := hm.len
    have lb : aload Hc ⟨false, 1⟩ (.ptr H0.length 0 1) = some (.int .u32 (bits : Nat)) := by rw [aload_ptr (g.get HM_r)]; rfl
    have lv : aload Hc ⟨false, 1⟩ (.ptr (H0.length + 3) 0 1) = some v := by rw [aload_ptr (g.get HM_h)]; rfl
    have hgl := g.len
    rw [HM_len] at hgl
    have e1 : abin .shr (.int .u32 (bits : Int)) (.int .i64 ((tri b : Int) + (a : Int))) = some (.int .u32 ((shrN bits (tri b + a) : Nat) : Int)) := by
      have := shr_u32 (a := bits) (b := tri b + a) (by omega)
      rwa [Int.natCast_add] at this
    have e2 := and_u32_one (a := shrN bits (tri b + a)) (Nat.lt_of_le_of_lt shrN_le hbits)
    rw [shrN_bit] at e2
    have e4 : IntKind.i64.wrap ((tri b : Int) + (a : Int) + 1) = (tri b : Int) + ((a : Int) + 1) := by
      have := i64_suc (i := tri b + a) (by omega)
      rw [Int.natCast_add] at this
      rw [this]; omega
    rw [wp_round c35_l0.eq_1]
    cases hc : bits.testBit (tri b + a)
    · rw [hc] at e2
      have := ih (a + 1) (by omega) l w v Hc (hm.skip hlt hc) g h
      simp [go_sem, hlt, lb, e1, e2, e4, i64_suc (show a < 1000000 by omega)]
      simpa using this
    · rw [hc] at e2
      simp [go_sem, hlt, lb, e1, e2, lv, aop, fillA, setCells, chunks]
      refine g.pair (p := ((a : Int), (b : Int))) (by rw [HM_len]; omega) (by rw [HM_len]; omega) (by omega) fun v' H' tc g' => ?_
      obtain ⟨s1, s2⟩ := grow_slot g'
      simp [go_sem]
      rw [storeWp_ptr (size := 1) (g'.get HM_h) s1 (by rw [s2]; rfl) (by omega) (by simp) (by omega) (.inl (by omega))]
      have g2 := g'.set (i := H0.length + 3) (b := .row 0 [.int .i64 (n : Int), v'] 0 true) (by rw [HM_len]; omega)
      rw [HM_seth] at g2
      simp [go_sem, s2, show a < 8 by omega, show b < 8 by omega]
      rw [storeG (g2.get HM_f) (by omega) (by omega) (by omega)]
      have g3 := g2.set (i := H0.length + 4) (b := .row 0 (gcells (upd2 (wf w) a b true)) 0 true) (by rw [HM_len]; omega)
      rw [HM_setf] at g3
      simp [go_sem, show a < 8 by omega, show b < 8 by omega]
      rw [storeG (g3.get HM_f) (by omega) (by omega) (by omega)]
      have g4 := g3.set (i := H0.length + 4) (b := .row 0 (gcells (upd2 (upd2 (wf w) a b true) b a true)) 0 true) (by rw [HM_len]; omega)
      rw [HM_setf, wf_join (by omega)] at g4
      rw [wf_join (by omega)]
      have := ih (a + 1) (by omega) _ _ v' _ (hm.put hlt hb hc) g4 h
      simp [go_sem, e4, i64_suc (show a < 1000000 by omega)]
      simpa using this
theorem l35 {n bits : Nat} {p : AV} {H0 : Heap} (hbits : bits < 4294967296) (hn : n ≤ 8) (hbar : bar ≤ H0.length) {R : PQ} :
    ∀ (k b : Nat), b + k = n → ∀ (l : List ZZ) (w : Nat → Nat) (v : AV) (Hc : Heap), MadeTo n bits b 0 l w → Grow 2 (prs l) (HM H0 [p, .int .u32 (bits : Nat)] n v (wf w)) v Hc →
    (∀ l' w' v' Hc', MadeTo n bits n 0 l' w' → Grow 2 (prs l') (HM H0 [p, .int .u32 (bits : Nat)] n v' (wf w')) v' Hc' →
      R (.exit 0) [(2, .ptr H0.length 0 0), (4, .ptr (H0.length + 1) 0 0), (5, .ptr (H0.length + 2) 0 0), (6, .ptr (H0.length + 3) 0 0), (7, .ptr (H0.length + 4) 0 0), (8, .int .i64 ((tri n : Nat) : Int)), (19, .int .i64 (n : Nat)), (20, .int .i64 (n : Nat)), (21, .bool false)] Hc') →
    Wp E H0.length bar (.loop c35_l1) [(2, .ptr H0.length 0 0), (4, .ptr (H0.length + 1) 0 0), (5, .ptr (H0.length + 2) 0 0), (6, .ptr (H0.length + 3) 0 0), (7, .ptr (H0.length + 4) 0 0), (8, .int .i64 ((tri b : Nat) : Int)), (19, .int .i64 (n : Nat)), (20, .int .i64 (b : Nat))] Hc R := by
  intro k
  induction k with
  | zero =>
    intro b hb l w v Hc hm g h
    obtain rfl : b = n := by omega
    rw [wp_round c35_l1.eq_1]
    simp [go_sem]
    exact h l w v Hc hm g
  | succ k ih =>
    intro b hb l w v Hc hm g h
    have hlt : b < n := by omega
    rw [wp_round c35_l1.eq_1]
    simp [go_sem, hlt]
    refine l35a hbits hn hlt hbar b 0 (by omega) l w v Hc hm g fun l' w' v' Hc' hm' g' => ?_
    have := ih (b + 1) (by omega) l' w' v' Hc' hm'.next g' h
    simp [go_sem, i64_suc (show b < 1000000 by omega)]
    simpa [tri] using this
theorem k35 {p bits most n : Nat} (hp : p < 256) (hbits : bits < 4294967296) (h1 : 1 ≤ most) (h8 : most ≤ 8) (hbar : bar ≤ H.length) (hn : n = 1 + p % most)
    (h : ∀ q l w, isP q l → MadeOK n bits l w → Q (.tup [.agg [.int .i64 (n : Nat), q], .agg (gcells (wf w))]) H) :
    WpCall E pure base bar 35 [.agg [.int .u8 (p : Nat), .int .u32 (bits : Nat)], .int .i64 (most : Nat)] H Q := by
  rw [call35]
  have hb' := bar_ok (pure := pure) hbar
  have hm : (p : Int).tmod (most : Int) = (p : Int) % (most : Int) := Go.IntWalk.rem_in _ _ (by omega)
  have hmod : p % most < most := Nat.mod_lt _ (by omega)
  have hw : IntKind.i64.wrap (1 + (p : Int) % (most : Int)) = (n : Int) := by
    rw [show (1 : Int) + (p : Int) % (most : Int) = (n : Int) by rw [hn]; simp, i64_nat (by omega)]
  simp [go_sem, WpFun, c35] at hb' ⊢
  generalize (if pure = true then H.length else bar) = bar' at hb' ⊢
  simp [go_sem, aload, own_get0, own_get, Ab.part, i64_nat (show p < 9223372036854775808 by omega), abin_rem (show (most : Int) ≠ 0 by omega), hm, hw, storeWp, astore, own_set, setCells, show bar' ≤ H.length + 3 by omega]
  refine l35 hbits (show n ≤ 8 by omega) hb' n 0 (by omega) [] _ .nils _ .zero .nil fun l w v Hc hmade g => ?_
  obtain ⟨s1, s2⟩ := grow_slot g
  simp [go_sem, aload_ptr (g.get HM_h), loadGG (g.get HM_f)]
  have hm1 := hmade.done (by omega) (by omega)
  rw [storeWp_ptr (size := 2) (g.get HM_1) rfl rfl (by omega) (by simp) (by omega) (.inl (by omega))]
  have g2 := g.set (i := H.length + 1) (b := .row 0 [.int .i64 (n : Int), v] 0 true) (by rw [HM_len]; omega)
  have e2 : ((HM H [.int .u8 (p : Int), .int .u32 (bits : Int)] n v (wf w)).set (H.length + 1) (.row 0 [.int .i64 (n : Int), v] 0 true))[H.length + 2]? = some (.row 0 (gcells (wf (fun _ => 0))) 0 true) := by simp [HM, own_set, own_get]
  simp [go_sem]
  rw [storeGG (g2.get e2) (by omega)]
  have g3 := g2.set (i := H.length + 2) (b := .row 0 (gcells (wf w)) 0 true) (by simp [HM_len])
  have e3 : (((HM H [.int .u8 (p : Int), .int .u32 (bits : Int)] n v (wf w)).set (H.length + 1) (.row 0 [.int .i64 (n : Int), v] 0 true)).set (H.length + 2) (.row 0 (gcells (wf w)) 0 true))[H.length + 1]? = some (.row 0 [.int .i64 (n : Int), v] 0 true) := by simp [HM, own_set, own_get]
  have e4 : (((HM H [.int .u8 (p : Int), .int .u32 (bits : Int)] n v (wf w)).set (H.length + 1) (.row 0 [.int .i64 (n : Int), v] 0 true)).set (H.length + 2) (.row 0 (gcells (wf w)) 0 true))[H.length + 2]? = some (.row 0 (gcells (wf w)) 0 true) := by simp [HM, own_set, own_get]
  have hl3 : (((HM H [.int .u8 (p : Int), .int .u32 (bits : Int)] n v (wf w)).set (H.length + 1) (.row 0 [.int .i64 (n : Int), v] 0 true)).set (H.length + 2) (.row 0 (gcells (wf w)) 0 true)).length = H.length + 5 := by simp [HM_len]
  obtain ⟨H2, f1, f2, f3, f4⟩ := g3.frz (d := 4) (bar := bar') (by decide) ⟨_, prs_length⟩ prs_plain (by rw [hl3]; omega)
  have e5 : H2.take H.length = H := by
    have := congrArg (List.take H.length) f4
    rw [List.take_take, hl3, Nat.min_eq_left (by omega)] at this
    rw [this]; simp [HM, own_set]
  rw [show 4 + 3 = 7 from rfl] at f1
  simp [go_sem, aload_ptr (g3.get e3), loadGG (g3.get e4), f1]
  rw [plains (d := 5) gcells_plain]
  simp [go_sem, isP.out.top, e5]
  exact h _ l w isP.out hm1
end Go.Proofs.Ythoogegclpiefaa.Code
end
section
namespace Go.Proofs.Ythoogegclpiefaa.Code
open Go Go.Ab
variable {pure : Bool} {base bar : Nat} {H : Heap} {Q : AV → Heap → Prop}
theorem part_odd {n : Nat} {w : Nat → Nat} (h : RoomW n w) (hn : n ≤ 8) : partG (wf w) n = (oddS n w).isNone := by
  cases ho : oddS n w with
  | some t =>
    obtain ⟨a, b, c⟩ := t
    obtain ⟨ha, hb, hc, hab, hbc, hac, q1, q2, q3⟩ := odd_some h ho
    simp only [Option.isNone_some]
    cases hp : partG (wf w) n
    · rfl
    · simp only [partG, List.all_eq_true, List.mem_range] at hp
      have := hp a ha b hb c hc
      simp [testG, wf, hab, hbc, q1, q2, q3] at this
  | none =>
    simp only [Option.isNone_none]
    simp only [partG, List.all_eq_true, List.mem_range]
    intro a ha b hb c hc
    cases ht : testG (wf w) a b c
    · rfl
    · simp only [testG, wf, Bool.and_eq_true, decide_eq_true_eq, Bool.not_eq_true', ne_eq] at ht
      obtain ⟨h1, h2, h3, h4, h5⟩ := ht
      exfalso
      unfold oddS at ho
      rw [List.findSome?_eq_none_iff] at ho
      have := ho a (List.mem_range.2 ha)
      unfold oddB at this
      rw [List.findSome?_eq_none_iff] at this
      have := this b (List.mem_range.2 hb)
      simp only [oddC, Option.map_eq_none_iff] at this
      rw [if_neg (by simp [h1, h3]), List.head?_eq_none_iff] at this
      have hm : c ∈ bitsOf (band (clr (w a) (w b)) (pw n - 1)) := bits_mem.2 ⟨by omega, by rw [testBit_band, testBit_clr (h.lt a), testBit_all, h5, h4]; simp [hc]⟩
      rw [this] at hm
      simp at hm
end Go.Proofs.Ythoogegclpiefaa.Code
end
section
namespace Go.Proofs.Ythoogegclpiefaa.Code
open Go Go.Ab
end Go.Proofs.Ythoogegclpiefaa.Code
end
section
namespace Go.Proofs.Ythoogegclpiefaa.Code
open Go Go.Ab
/-! as many as there are places -/
theorem sub_len : ∀ {l m : List Nat}, l.Nodup → (∀ x ∈ l, x ∈ m) → l.length ≤ m.length
  | [], _, _, _ => by simp
  | x :: r, m, hn, h => by
    rw [List.nodup_cons] at hn
    have hx := h x (List.mem_cons_self ..)
    have h2 : ∀ y ∈ r, y ∈ m.erase x := fun y hy => by
      have hne : y ≠ x := fun hc => hn.1 (hc ▸ hy)
      exact (List.mem_erase_of_ne hne).2 (h y (List.mem_cons_of_mem _ hy))
    have := sub_len hn.2 h2
    rw [List.length_erase_of_mem hx] at this
    have := List.length_pos_of_mem hx
    rw [List.length_cons]; omega
theorem map_nodup {α β : Type} {f : α → β} {l : List α} (hn : l.Nodup) (h : ∀ x ∈ l, ∀ y ∈ l, f x = f y → x = y) : (l.map f).Nodup := by
  induction l with
  | nil => exact .nil
  | cons a r ih =>
    rw [List.nodup_cons] at hn
    rw [List.map_cons, List.nodup_cons]
    refine ⟨fun hc => ?_, ih hn.2 fun x hx y hy => h x (List.mem_cons_of_mem _ hx) y (List.mem_cons_of_mem _ hy)⟩
    obtain ⟨y, hy, he⟩ := List.mem_map.1 hc
    have := h y (List.mem_cons_of_mem _ hy) a (List.mem_cons_self ..) he
    exact hn.1 (this ▸ hy)
/-! the greatest of a list -/
def maxL (l : List Nat) : Nat := l.foldl max 0
theorem foldl_max : ∀ (l : List Nat) (a : Nat), a ≤ l.foldl max a ∧ (∀ x ∈ l, x ≤ l.foldl max a) ∧ (l.foldl max a = a ∨ l.foldl max a ∈ l)
  | [], a => ⟨Nat.le_refl _, by simp, .inl rfl⟩
  | x :: r, a => by
    obtain ⟨h1, h2, h3⟩ := foldl_max r (max a x)
    refine ⟨Nat.le_trans (Nat.le_max_left ..) h1, fun y hy => ?_, ?_⟩
    · rcases List.mem_cons.1 hy with rfl | hy
      · exact Nat.le_trans (Nat.le_max_right ..) h1
      · exact h2 y hy
    · rw [List.foldl_cons]
      rcases h3 with h3 | h3
      · rw [h3]
        rcases Nat.le_total a x with h | h
        · right; rw [Nat.max_eq_right h]; exact List.mem_cons_self ..
        · left; exact Nat.max_eq_left h
      · right; exact List.mem_cons_of_mem _ h3
theorem maxL_le {l : List Nat} {x : Nat} (h : x ∈ l) : x ≤ maxL l := (foldl_max l 0).2.1 x h
theorem maxL_mem {l : List Nat} (h : l ≠ []) : maxL l ∈ l := by
  rcases (foldl_max l 0).2.2 with h2 | h2
  · cases l with
    | nil => exact absurd rfl h
    | cons a r =>
      have := maxL_le (List.mem_cons_self (a := a) (l := r))
      have h3 : maxL (a :: r) = 0 := h2
      rw [h3] at this ⊢
      rw [show a = 0 by omega]; exact List.mem_cons_self ..
  · exact h2
/-! rooms -/
/-- people who quarrel have different rooms -/
def Proper (n : Nat) (w : Nat → Nat) (f : Nat → Nat) : Prop := ∀ x y, x < n → y < n → (w x).testBit y = true → f x ≠ f y
theorem fitW_iff {w : Nat → Nat} {b : List Nat} {r : Nat} : fitW w b r = true ↔ ∀ i, i < b.length → b[i]? = some r → (w b.length).testBit i = false := by
  unfold fitW
  simp only [List.all_eq_true, List.mem_range, Bool.or_eq_true, bne_iff_ne, ne_eq, Bool.not_eq_true']
  constructor
  · intro h i hi he
    rcases h i hi with h1 | h1
    · exact absurd he h1
    · exact h1
  · intro h i hi
    by_cases he : b[i]? = some r
    · exact .inr (h i hi he)
    · exact .inl he
theorem proper_fit {n : Nat} {w : Nat → Nat} {f : Nat → Nat} (h : Proper n w f) {i : Nat} (hi : i < n) : fitW w ((List.range i).map f) (f i) = true := by
  rw [fitW_iff]
  intro j hj he
  simp at hj
  have e : ((List.range i).map f)[j]? = some (f j) := by simp [hj]
  rw [e] at he
  simp only [List.length_map, List.length_range]
  cases hc : (w i).testBit j
  · rfl
  · exact absurd (Option.some.inj he).symm (h i j hi (by omega) hc)
/-- what is found is in order -/
theorem roomsF_sound {w : Nat → Nat} {m : Nat} : ∀ {k : Nat} {b c : List Nat}, roomsF (fitW w) m k b = some c →
    (∃ r, c = b ++ r ∧ r.length = k ∧ ∀ x ∈ r, x < m) ∧ ∀ i, b.length ≤ i → i < c.length → ∀ j, j < i → c[j]? = c[i]? → (w i).testBit j = false
  | 0, b, c, h => by
    simp [roomsF] at h
    subst h
    exact ⟨⟨[], by simp, rfl, by simp⟩, fun i h1 h2 => by omega⟩
  | k + 1, b, c, h => by
    simp only [roomsF] at h
    obtain ⟨l1, a, l2, h1, h2, h3⟩ := List.findSome?_eq_some_iff.1 h
    have ha : a < m := List.mem_range.1 (by rw [h1]; simp)
    split at h2
    · rename_i hf
      obtain ⟨⟨r, g1, g2, g3⟩, g4⟩ := roomsF_sound h2
      refine ⟨⟨a :: r, by rw [g1]; simp, by simp [g2], fun x hx => ?_⟩, fun i hi1 hi2 j hj he => ?_⟩
      · rcases List.mem_cons.1 hx with rfl | hx
        · exact ha
        · exact g3 x hx
      · by_cases hib : i = b.length
        · subst hib
          have e1 : c[b.length]? = some a := by rw [g1]; simp
          have e2 : c[j]? = b[j]? := by rw [g1, List.append_assoc, List.getElem?_append_left hj]
          rw [e1, e2] at he
          exact fitW_iff.1 hf j hj he
        · exact g4 i (by simp; omega) hi2 j hj he
    · cases h2
def cAt (c : List Nat) : Nat → Nat := fun x => (c[x]?).getD 0
theorem sound_proper {n m : Nat} {w : Nat → Nat} (hr : RoomW n w) {c : List Nat} (h : roomsF (fitW w) m n [] = some c) : c.length = n ∧ (∀ x ∈ c, x < m) ∧ Proper n w (cAt c) := by
  obtain ⟨⟨r, g1, g2, g3⟩, g4⟩ := roomsF_sound h
  rw [List.nil_append] at g1
  subst g1
  have key : ∀ x y, x < y → y < n → (w y).testBit x = true → cAt c x ≠ cAt c y := fun x y hxy hy hb hc => by
    have := g4 y (Nat.zero_le _) (by omega) x hxy (by
      unfold cAt at hc
      rw [List.getElem?_eq_getElem (by omega), List.getElem?_eq_getElem (by omega)] at hc ⊢
      simpa using hc)
    rw [this] at hb; cases hb
  refine ⟨g2, g3, fun x y hx hy hb => ?_⟩
  rcases Nat.lt_trichotomy x y with hxy | hxy | hxy
  · exact key x y hxy hy (by rw [hr.sym]; exact hb)
  · subst hxy; rw [hr.irr] at hb; cases hb
  · exact Ne.symm (key y x hxy hx hb)
/-- the fewest rooms -/
structure Fewest (n : Nat) (w : Nat → Nat) (c : List Nat) (k : Nat) : Prop where
  len : c.length = n
  lt : ∀ x ∈ c, x < k
  proper : Proper n w (cAt c)
  pos : 1 ≤ k
  le : k ≤ n
  least : ∀ (f : Nat → Nat) (m : Nat), Proper n w f → (∀ x, x < n → f x < m) → k ≤ m
  max : maxL c + 1 = k
theorem rooms_fewest {n : Nat} {w : Nat → Nat} (hr : RoomW n w) (h1 : 1 ≤ n) : ∃ k, Fewest n w (roomsS n w (n - 1)) k := by
  have key : ∀ (c : List Nat) (k : Nat), c.length = n → (∀ x ∈ c, x < k) → Proper n w (cAt c) → 1 ≤ k → k ≤ n → (∀ (f : Nat → Nat) (m : Nat), Proper n w f → (∀ x, x < n → f x < m) → k ≤ m) → Fewest n w c k := by
    intro c k hl hlt hp hk hkn hle
    refine ⟨hl, hlt, hp, hk, hkn, hle, ?_⟩
    have hne : c ≠ [] := fun hc => by rw [hc] at hl; simp at hl; omega
    have e1 := hlt _ (maxL_mem hne)
    have e2 := hle (cAt c) (maxL c + 1) hp fun x hx => by
      have : c[x]? = some c[x] := List.getElem?_eq_getElem (by omega)
      unfold cAt
      rw [this]
      exact Nat.lt_succ_of_le (maxL_le (List.getElem_mem _))
    omega
  have pos : ∀ (f : Nat → Nat) (m : Nat), (∀ x, x < n → f x < m) → 1 ≤ m := fun f m h => by have := h 0 (by omega); omega
  have none_of : ∀ m, roomsF (fitW w) m n [] = none → ∀ f : Nat → Nat, Proper n w f → ¬ ∀ x, x < n → f x < m := fun m hm f hp hf => by
    have := roomsF_some (fit := fitW w) (m := m) (n := n) f hf (fun i hi => proper_fit hp hi) n 0 (by omega)
    simp [hm] at this
  have e0 : n - (n - 1) = 1 := by omega
  unfold roomsS
  rw [e0]
  cases hf : (List.range' 1 (n - 1)).findSome? fun m => roomsF (fitW w) m n [] with
  | some c =>
    obtain ⟨l1, k, l2, g1, g2, g3⟩ := List.findSome?_eq_some_iff.1 hf
    have hk := List.mem_range'_1.1 (show k ∈ List.range' 1 (n - 1) by rw [g1]; simp)
    obtain ⟨s1, s2, s3⟩ := sound_proper hr g2
    refine ⟨k, key c k s1 s2 s3 (by omega) (by omega) fun f m hp hm => ?_⟩
    apply Decidable.byContradiction
    intro hc
    have hm1 := pos f m hm
    have hmem : m ∈ l1 := by
      have : m ∈ List.range' 1 (n - 1) := List.mem_range'_1.2 (by omega)
      rw [g1] at this
      rcases List.mem_append.1 this with h | h
      · exact h
      · exfalso
        have hs : (List.range' 1 (n - 1)).Pairwise (· < ·) := List.pairwise_lt_range' ..
        rw [g1, List.pairwise_append] at hs
        have hs2 := hs.2.1
        rw [List.pairwise_cons] at hs2
        rcases List.mem_cons.1 h with h | h
        · omega
        · have := hs2.1 m h; omega
    exact none_of m (g3 m hmem) f hp hm
  | none =>
    rw [List.findSome?_eq_none_iff] at hf
    refine ⟨n, key _ n (by simp) (by simp) (fun x y hx hy hb => ?_) h1 (Nat.le_refl _) fun f m hp hm => ?_⟩
    · unfold cAt
      simp only [Option.getD_none, List.getElem?_range hx, List.getElem?_range hy, Option.getD_some]
      intro hc; subst hc; rw [hr.irr] at hb; cases hb
    · apply Decidable.byContradiction
      intro hc
      have hm1 := pos f m hm
      exact none_of m (hf m (List.mem_range'_1.2 (by omega))) f hp hm
end Go.Proofs.Ythoogegclpiefaa.Code
end
section
namespace Go.Proofs.Ythoogegclpiefaa.Code
open Go Go.Ab
structure PartedW (n : Nat) (w : Nat → Nat) : Prop where
  room : RoomW n w
  le : n ≤ 8
  trans : ∀ a b c, a < n → b < n → c < n → (w a).testBit b = false → (w b).testBit c = false → (w a).testBit c = false
theorem parted_w {n : Nat} {w : Nat → Nat} (hr : RoomW n w) (hn : n ≤ 8) (h : partG (wf w) n = true) : PartedW n w := ⟨hr, hn, fun a b c ha hb hc h1 h2 => by
  simp only [partG, List.all_eq_true, List.mem_range] at h
  have := h a ha b hb c hc
  by_cases hab : a = b
  · subst hab; exact h2
  · by_cases hbc : b = c
    · subst hbc; exact h1
    · simpa [testG, wf, hab, hbc, h1, h2] using this⟩
end Go.Proofs.Ythoogegclpiefaa.Code
end
section
namespace Go.Proofs.Ythoogegclpiefaa.Code
open Go Go.Ab
variable {pure : Bool} {base bar : Nat} {H : Heap} {Q : AV → Heap → Prop}
/-! 55: the greatest -/
theorem take_max {l : List Nat} {i : Nat} (hi : i < l.length) : maxL (l.take (i + 1)) = max (maxL (l.take i)) l[i] := by
  unfold maxL
  rw [List.take_succ_eq_append_getElem hi, List.foldl_append]
  rfl
theorem l55 {v : AV} {l : List Nat} (hv : isL v l) (hl : l.length < 1000) {R : PQ} : ∀ (k i : Nat), i + k = l.length →
    R (.exit 0) [(0, v), (3, .int .i64 (maxL l : Nat)), (4, .int .i64 (l.length : Nat)), (15, .bool false)] H →
    Wp E base bar (.loop c55_l0) [(0, v), (3, .int .i64 (maxL (l.take i) : Nat)), (4, .int .i64 (i : Nat))] H R := by
  intro k
  induction k with
  | zero =>
    intro i hi h
    obtain rfl : i = l.length := by omega
    rw [wp_round c55_l0.eq_1]
    simp [go_sem, hv.len]
    exact h
  | succ k ih =>
    intro i hi h
    have hlt : i < l.length := by omega
    have hx := ih (i + 1) (by omega) h
    rw [take_max hlt] at hx
    have e : (if maxL (l.take i) < l[i] then ((l[i] : Nat) : Int) else ((maxL (l.take i) : Nat) : Int)) = ((max (maxL (l.take i)) l[i] : Nat) : Int) := by
      split <;> omega
    rw [wp_round c55_l0.eq_1]
    simp [go_sem, hv.len, hlt, hv.ix hlt, aop, i64_suc (show i < 1000000 by omega)]
    rw [e]
    exact hx
theorem k55 {v : AV} {l : List Nat} (hv : isL v l) (hl : l.length < 1000) (hne : 1 ≤ l.length) (h : Q (.int .i64 (maxL l : Nat)) H) : WpCall E pure base bar 55 [v] H Q := by
  rw [call55]
  cases l with
  | nil => simp at hne
  | cons c r =>
    simp [go_sem, WpFun, c55, hv.frz, hv.len, hv.ix0, show ¬ ((r.length : Int) + 1 < 1) by omega]
    have e1 : maxL ((c :: r).take 1) = c := by simp [maxL]
    have := l55 (base := H.length) (bar := if pure = true then H.length else bar) (H := H) hv hl (R := exitWp 0 (thenWp E H.length (if pure = true then H.length else bar)
              (((ACode.reg
                    [{ dst := some 24, op := AOp.mv (Opd.t 3), guard := none },
                      { dst := some 2, op := AOp.mv (Opd.t 24), guard := none }]
                    [2]).seq
                ACode.ret)) (retWp 0 H.length (if pure = true then H.length else bar) [ARes.tmp 2] Q))) r.length 1 (by simp; omega) (by simp [go_sem]; exact h)
    rw [e1] at this
    exact this
end Go.Proofs.Ythoogegclpiefaa.Code
end
section
namespace Go.Proofs.Ythoogegclpiefaa.Code
open Go Go.Ab
variable {pure : Bool} {base bar : Nat} {H : Heap} {Q : AV → Heap → Prop}
end Go.Proofs.Ythoogegclpiefaa.Code
end
section
namespace Go.Proofs.Ythoogegclpiefaa.Code
open Go Go.Ab
structure MadeBy (n a b : Nat) (l : List ZZ) (w : Nat → Nat) : Prop where
  room : openF n (fun _ => 0) l = .room w
  len : l.length ≤ 8 * a + b
  out : ∀ x y, x < y → ¬ (x < a ∨ x = a ∧ y < b) → (w x).testBit y = false
theorem MadeBy.zero {n : Nat} : MadeBy n 0 1 [] (fun _ => 0) := ⟨rfl, Nat.zero_le _, fun x y _ _ => by simp⟩
theorem MadeBy.skip {n b a : Nat} {l : List ZZ} {w : Nat → Nat} (h : MadeBy n a b l w) : MadeBy n a (b + 1) l w :=
  ⟨h.room, by have := h.len; omega, fun x y hxy hc => h.out x y hxy (by omega)⟩
theorem MadeBy.put {n b a : Nat} {l : List ZZ} {w : Nat → Nat} (h : MadeBy n a b l w) (hab : a < b) (hbn : b < n) : MadeBy n a (b + 1) (l ++ [((a : Int), (b : Int))]) (joinW w a b) := by
  refine ⟨?_, by have := h.len; simp; omega, fun x y hxy hc => ?_⟩
  · rw [openF_snoc h.room]
    simp only [openF]
    rw [if_neg (by omega), if_neg (by omega), Int.toNat_natCast, Int.toNat_natCast, if_neg (by rw [h.out a b hab (by omega)]; simp)]
  · rw [joinW_bit (by omega), h.out x y hxy (by omega)]
    have e1 : (decide (x = a) && decide (y = b)) = false := by simp; omega
    have e2 : (decide (x = b) && decide (y = a)) = false := by simp; omega
    rw [e1, e2]; simp
theorem MadeBy.next {n a : Nat} {l : List ZZ} {w : Nat → Nat} (h : MadeBy n a n l w) (hn : a < n) (h8 : n ≤ 8) : MadeBy n (a + 1) (a + 2) l w :=
  ⟨h.room, by have := h.len; omega, fun x y hxy hc => h.out x y hxy (by omega)⟩
end Go.Proofs.Ythoogegclpiefaa.Code
end
section
namespace Go.Proofs.Ythoogegclpiefaa.Code
open Go Go.Ab
variable {base bar : Nat} {H : Heap}
def Fill (F f : Nat → Nat) (P : List Nat) : Prop := ∀ x ∈ P, f x = F x
theorem Fill.put {F f : Nat → Nat} {P : List Nat} {x i : Nat} (h : Fill F f P) (hx : F x = i) : Fill F (upd f x i) (P ++ [x]) := fun y hy => by
  unfold upd
  split
  · rename_i he; subst he; exact hx.symm
  · rename_i hne
    rcases List.mem_append.1 hy with hy | hy
    · exact h y hy
    · simp only [List.mem_singleton] at hy; exact absurd hy hne
end Go.Proofs.Ythoogegclpiefaa.Code
end
section
namespace Go.Proofs.Ythoogegclpiefaa.Code
open Go Go.Ab
variable {base bar : Nat} {H : Heap}
end Go.Proofs.Ythoogegclpiefaa.Code
end
section
namespace Go.Proofs.Ythoogegclpiefaa.Code
open Go Go.Ab
variable {base bar : Nat} {H : Heap}
end Go.Proofs.Ythoogegclpiefaa.Code
end
section
namespace Go.Proofs.Ythoogegclpiefaa.Code
open Go Go.Ab
/-- the house's list: as it came, or still owned -/
def LV (l : List ZZ) (v : AV) (id : Nat) (H : Heap) : Prop := isP v l ∨ ∃ ver fz, v = .vec id ver 0 l.length 2 ∧ H[id]? = some (.row ver (prs l) fz false)
theorem LV.frz {l : List ZZ} {v : AV} {id : Nat} {H : Heap} (h : LV l v id H) : ∃ q' H', frz 7 0 H v = some (q', H') ∧ isP q' l ∧ LV l v id H' ∧ H'.length = H.length ∧ ∀ i, i ≠ id → H'[i]? = H[i]? := by
  rcases h with h | ⟨ver, fz, rfl, hid⟩
  · exact ⟨v, H, h.frz, h, .inl h, rfl, fun _ _ => rfl⟩
  · have e := frz_vec (d := 6) (bar := 0) (H := H) (id := id) (ver := ver) (off := 0) (len := l.length) (sz := 2) (cs := prs l) (fz := fz) (ex := false) (xs := prs l)
      (H' := H.set id (.row ver (prs l) (max fz (0 + l.length * 2)) false)) hid (by rw [prs_length]; omega) (Nat.zero_le _) (by
        rw [List.drop_zero, List.take_of_length_le (by rw [prs_length]; omega), plains prs_plain])
    rw [chunks_two] at e
    exact ⟨.lst 2 false (prA l), H.set id (.row ver (prs l) (max fz (0 + l.length * 2)) false), e, .lst (ex := false), .inr ⟨ver, max fz (0 + l.length * 2), rfl, set_get hid⟩, by simp, fun i hi => by rw [List.getElem?_set_ne (Ne.symm hi)]⟩
theorem LV.app {l : List ZZ} {v : AV} {id : Nat} {H X : Heap} (h : LV l v id H) : LV l v id (H ++ X) := by
  rcases h with h | ⟨ver, fz, rfl, hid⟩
  · exact .inl h
  · exact .inr ⟨ver, fz, rfl, old_get hid⟩
theorem LV.set {l : List ZZ} {v : AV} {id i : Nat} {H : Heap} {b : Blk} (h : LV l v id H) (hi : i ≠ id) : LV l v id (H.set i b) := by
  rcases h with h | ⟨ver, fz, rfl, hid⟩
  · exact .inl h
  · exact .inr ⟨ver, fz, rfl, by rw [List.getElem?_set_ne hi]; exact hid⟩
theorem frz_first {pure : Bool} {base bar : Nat} {fn : FuncId} {c : AFun} {args args' : List AV} {H H' : Heap} {Q : AV → Heap → Prop}
    (hc : ∀ {args : List AV} {H : Heap}, WpCall E pure base bar fn args H Q ↔ frzWp E pure base bar c Q (frzAll bar H args)) (h1 : frzAll bar H args = some (args', H')) (h2 : frzAll bar H' args' = some (args', H')) (h : WpCall E pure base bar fn args' H' Q) : WpCall E pure base bar fn args H Q := by
  rw [hc, h1]; rw [hc, h2] at h; exact h
theorem LV.house {l : List ZZ} {v : AV} {id : Nat} {H : Heap} {n : Int} (h : LV l v id H) : ∃ q' H', frzAll 0 H [.agg [.int .i64 n, v]] = some ([.agg [.int .i64 n, q']], H') ∧ frzAll 0 H' [.agg [.int .i64 n, q']] = some ([.agg [.int .i64 n, q']], H') ∧ isP q' l ∧ LV l v id H' ∧ H'.length = H.length ∧ ∀ i, i ≠ id → H'[i]? = H[i]? := by
  obtain ⟨q', H', h1, h2, h3, h4, h5⟩ := h.frz
  exact ⟨q', H', by simp [go_sem, h1], by simp [go_sem, h2.frz], h2, h3, h4, h5⟩
end Go.Proofs.Ythoogegclpiefaa.Code
end
section
namespace Go.Proofs.Ythoogegclpiefaa.Code
open Go Go.Ab
/-- one house's quarrels are among another's, under other names -/
structure Hom (n : Nat) (σ : Nat → Nat) (w w' : Nat → Nat) : Prop where
  lt : ∀ x, x < n → σ x < n
  inj : ∀ x y, x < n → y < n → σ x = σ y → x = y
  hom : ∀ x y, x < n → y < n → (w x).testBit y = true → (w' (σ x)).testBit (σ y) = true
def imgS (σ : Nat → Nat) (l : List Nat) : Nat := l.foldl (fun acc x => acc ||| 2 ^ σ x) 0
theorem img_bit {σ : Nat → Nat} {l : List Nat} {y : Nat} : (imgS σ l).testBit y = true ↔ ∃ x ∈ l, σ x = y := by
  have key : ∀ (l : List Nat) (acc : Nat), (l.foldl (fun acc x => acc ||| 2 ^ σ x) acc).testBit y = true ↔ acc.testBit y = true ∨ ∃ x ∈ l, σ x = y := by
    intro l
    induction l with
    | nil => intro acc; simp
    | cons a r ih =>
      intro acc
      simp only [List.foldl_cons, ih, Nat.testBit_or, Nat.testBit_two_pow, Bool.or_eq_true, decide_eq_true_eq, List.mem_cons]
      constructor
      · rintro ((h | h) | ⟨x, hx, h⟩)
        · exact .inl h
        · exact .inr ⟨a, .inl rfl, h⟩
        · exact .inr ⟨x, .inr hx, h⟩
      · rintro (h | ⟨x, rfl | hx, h⟩)
        · exact .inl (.inl h)
        · exact .inl (.inr h)
        · exact .inr ⟨x, hx, h⟩
  unfold imgS
  simpa using key l 0
theorem bits_nodup (s : Nat) : (bitsOf s).Nodup := (bits_pairwise s).imp fun h => Nat.ne_of_lt h
theorem img_len {n : Nat} {σ w w' : Nat → Nat} (h : Hom n σ w w') (hn : n ≤ 8) {s : Nat} (hs : s < pw n) : (bitsOf (imgS σ (bitsOf s))).length = (bitsOf s).length := by
  have hlt : ∀ x ∈ bitsOf s, x < n := fun x hx => bit_lt hs (bits_mem.1 hx).2
  have nd := map_nodup (f := σ) (bits_nodup s) fun x hx y hy he => h.inj x y (hlt x hx) (hlt y hy) he
  apply Nat.le_antisymm
  · have := sub_len (bits_nodup (imgS σ (bitsOf s))) (m := (bitsOf s).map σ) fun y hy => by
      obtain ⟨x, hx, he⟩ := img_bit.1 (bits_mem.1 hy).2
      exact List.mem_map.2 ⟨x, hx, he⟩
    simpa using this
  · have := sub_len nd (m := bitsOf (imgS σ (bitsOf s))) fun y hy => by
      obtain ⟨x, hx, rfl⟩ := List.mem_map.1 hy
      have := h.lt x (hlt x hx)
      exact bits_mem.2 ⟨by omega, img_bit.2 ⟨x, hx, rfl⟩⟩
    simpa using this
theorem img_pw {n : Nat} {σ w w' : Nat → Nat} (h : Hom n σ w w') {s : Nat} (hs : s < pw n) : imgS σ (bitsOf s) < pw n := lt_pw fun i hi => by
  obtain ⟨x, hx, rfl⟩ := img_bit.1 hi
  exact h.lt x (bit_lt hs (bits_mem.1 hx).2)
theorem img_pos {n : Nat} {σ w w' : Nat → Nat} (h : Hom n σ w w') (hn : n ≤ 8) {s : Nat} (h1 : 1 ≤ s) (hs : s < pw n) : 1 ≤ imgS σ (bitsOf s) := by
  apply Decidable.byContradiction
  intro hc
  have h0 : imgS σ (bitsOf s) = 0 := by omega
  have hl := img_len h hn hs
  rw [h0, bits_zero] at hl
  have := bits_zero_iff s (by have := pw_le hn; omega) (List.eq_nil_of_length_eq_zero hl.symm)
  omega
theorem img_brawl {n : Nat} {σ w w' : Nat → Nat} (hr : RoomW n w) (hr' : RoomW n w') (h : Hom n σ w w') (hn : n ≤ 8) {s : Nat} (hs : s < pw n) (hb : brawlS w s = true) : brawlS w' (imgS σ (bitsOf s)) = true := by
  have hp := pw_le hn
  have h1 := (brawl_iff hr (by omega)).1 hb
  have h2 := img_pw h hs
  refine (brawl_iff hr' (by omega)).2 fun u v hu hv huv => ?_
  obtain ⟨x, hx, rfl⟩ := img_bit.1 hu
  obtain ⟨y, hy, rfl⟩ := img_bit.1 hv
  have hx' := (bits_mem.1 hx).2
  have hy' := (bits_mem.1 hy).2
  exact h.hom x y (bit_lt hs hx') (bit_lt hs hy') (h1 x y hx' hy' fun hc => huv (by rw [hc]))
theorem count_hom {n : Nat} {σ w w' : Nat → Nat} (hr : RoomW n w) (hr' : RoomW n w') (h : Hom n σ w w') (hn : n ≤ 8) (size : Int) : countS n w size ≤ countS n w' size := by
  have hp := pw_le hn
  unfold countS
  have nd0 : (List.range' 1 (pw n - 1)).Nodup := List.nodup_range' ..
  have mem : ∀ s ∈ (List.range' 1 (pw n - 1)).filter (fun s => decide (((bitsOf s).length : Int) = size) && brawlS w s), 1 ≤ s ∧ s < pw n ∧ ((bitsOf s).length : Int) = size ∧ brawlS w s = true := fun s hs => by
    simp only [List.mem_filter, List.mem_range'_1, Bool.and_eq_true, decide_eq_true_eq] at hs
    exact ⟨hs.1.1, by omega, hs.2.1, hs.2.2⟩
  have nd := map_nodup (f := fun s => imgS σ (bitsOf s)) (nd0.filter fun s => decide (((bitsOf s).length : Int) = size) && brawlS w s) fun s hs t ht he => by
    obtain ⟨_, s2, _, _⟩ := mem s hs
    obtain ⟨_, t2, _, _⟩ := mem t ht
    have key : ∀ a b, a < pw n → b < pw n → imgS σ (bitsOf a) = imgS σ (bitsOf b) → ∀ x, a.testBit x = true → b.testBit x = true := fun a b ha hb he x hx => by
      have hxn := bit_lt ha hx
      have : (imgS σ (bitsOf b)).testBit (σ x) = true := by rw [← he]; exact img_bit.2 ⟨x, bits_mem.2 ⟨by omega, hx⟩, rfl⟩
      obtain ⟨y, hy, hxy⟩ := img_bit.1 this
      have hy' := (bits_mem.1 hy).2
      rw [← h.inj y x (bit_lt hb hy') hxn hxy]; exact hy'
    apply Nat.eq_of_testBit_eq
    intro x
    rw [Bool.eq_iff_iff]
    exact ⟨key s t s2 t2 he x, key t s t2 s2 he.symm x⟩
  have := sub_len nd (m := (List.range' 1 (pw n - 1)).filter fun s => decide (((bitsOf s).length : Int) = size) && brawlS w' s) fun y hy => by
    obtain ⟨s, hs, rfl⟩ := List.mem_map.1 hy
    obtain ⟨s1, s2, s3, s4⟩ := mem s hs
    have g1 := img_pos h hn s1 s2
    have g2 := img_pw h s2
    have g3 := img_len h hn s2
    simp only [List.mem_filter, List.mem_range'_1, Bool.and_eq_true, decide_eq_true_eq]
    exact ⟨by omega, by rw [g3]; exact s3, img_brawl hr hr' h hn s2 s4⟩
  simpa using this
theorem largest_hom {n : Nat} {σ w w' : Nat → Nat} (hr : RoomW n w) (hr' : RoomW n w') (h : Hom n σ w w') (hn : n ≤ 8) : (largestS n w).length ≤ (largestS n w').length := by
  rcases largest_is (n := n) (w := w) with he | ⟨s, s1, s2, s3, he⟩
  · rw [he]; simp
  · rw [he, ← img_len h hn s2]
    exact largest_max (img_pos h hn s1 s2) (img_pw h s2) (img_brawl hr hr' h hn s2 s3)
theorem rooms_hom {n k k' : Nat} {σ w w' : Nat → Nat} {c c' : List Nat} (h : Hom n σ w w') (f : Fewest n w c k) (f' : Fewest n w' c' k') : maxL c ≤ maxL c' := by
  have := f.least (fun x => cAt c' (σ x)) k' (fun x y hx hy hb => f'.proper (σ x) (σ y) (h.lt x hx) (h.lt y hy) (h.hom x y hx hy hb)) fun x hx => by
    have hs := h.lt x hx
    have hl := f'.len
    unfold cAt
    rw [List.getElem?_eq_getElem (by omega)]
    exact f'.lt _ (List.getElem_mem _)
  have := f.max
  have := f'.max
  omega
theorem odd_iso {n : Nat} {τ w w' : Nat → Nat} (hr : RoomW n w) (hr' : RoomW n w') (hn : n ≤ 8) (hlt : ∀ x, x < n → τ x < n) (he : ∀ x y, x < n → y < n → (w' x).testBit y = (w (τ x)).testBit (τ y)) (ho : oddS n w = none) : oddS n w' = none := by
  cases hs : oddS n w' with
  | none => rfl
  | some t =>
    obtain ⟨a, b, c⟩ := t
    obtain ⟨h1, h2, h3, _, _, _, h4, h5, h6⟩ := odd_some hr' hs
    have hp := parted_w hr hn (by rw [part_odd hr hn, ho]; rfl)
    have := hp.trans (τ a) (τ b) (τ c) (hlt a h1) (hlt b h2) (hlt c h3) (by rw [← he a b h1 h2]; exact h4) (by rw [← he b c h2 h3]; exact h5)
    rw [← he a c h1 h3, h6] at this
    cases this
/-! the list of a house -/
theorem openF_nodup {n : Int} : ∀ (l done : List ZZ) (w w' : Nat → Nat), Tells w done → n ≤ 8 → openF n w l = .room w' → l.Nodup ∧ ∀ p ∈ l, p ∉ done
  | [], done, w, w', _, _, _ => ⟨List.nodup_nil, by simp⟩
  | (a, b) :: r, done, w, w', ht, hn, h => by
    simp only [openF] at h
    split at h
    · cases h
    rename_i h1
    split at h
    · cases h
    rename_i h2
    split at h
    · cases h
    rename_i h3
    obtain ⟨a, rfl⟩ := Int.eq_ofNat_of_zero_le (show 0 ≤ a by omega)
    obtain ⟨b, rfl⟩ := Int.eq_ofNat_of_zero_le (show 0 ≤ b by omega)
    simp only [Int.toNat_natCast] at h h3
    obtain ⟨g1, g2⟩ := openF_nodup r (done ++ [((a : Int), (b : Int))]) _ w' (ht.step (by omega)) hn h
    refine ⟨List.nodup_cons.2 ⟨fun hc => g2 _ hc (by simp), g1⟩, fun p hp => ?_⟩
    rcases List.mem_cons.1 hp with rfl | hp
    · intro hc
      apply h3
      rw [ht a b (by omega) (by omega)]
      simp only [qin, List.any_eq_true]
      exact ⟨_, hc, by simp⟩
    · exact fun hc => g2 p hp (by simp [hc])
structure ListOK (n : Nat) (l : List ZZ) : Prop where
  valid : ∀ p ∈ l, 0 ≤ p.1 ∧ p.1 < p.2 ∧ p.2 < (n : Int)
  nodup : l.Nodup
theorem list_of {n : Nat} {l : List ZZ} {w : Nat → Nat} (h : openS (n : Int) l = .room w) : ListOK n l := by
  obtain ⟨h1, h2, h3, h4, h5, h6⟩ := openS_facts (m := n) rfl h
  exact ⟨openF_valid h6, (openF_nodup l [] _ w (fun x y _ _ => by simp [qin]) (by omega) h6).1⟩
theorem ListOK.open {n : Nat} {l : List ZZ} (h : ListOK n l) (h1 : 1 ≤ n) (hn : n ≤ 8) : ∃ w, openS (n : Int) l = .room w ∧ RoomW n w ∧ ∀ x y, x < n → y < n → (w x).testBit y = qin l x y := by
  obtain ⟨w, hw⟩ := openF_ok hn l [] (fun _ => 0) (fun x y _ _ => by simp [qin]) h.valid h.nodup (by simp) (by simp)
  have ho : openS (n : Int) l = .room w := by unfold openS; rw [if_pos (by simp [within]; omega)]; exact hw
  obtain ⟨_, _, _, ht, _, _⟩ := openS_facts (m := n) rfl ho
  exact ⟨w, ho, openS_room (m := n) rfl ho, fun x y hx hy => ht x y (by omega) (by omega)⟩
/-- people get other names: everyone a few further -/
def rotN (n t x : Nat) : Nat := (x + t) % n
def rotP (n t : Nat) (p : ZZ) : ZZ := (min ((p.1 + t) % n) ((p.2 + t) % n), max ((p.1 + t) % n) ((p.2 + t) % n))
theorem rotN_inj {n t x y : Nat} (hx : x < n) (hy : y < n) (h : rotN n t x = rotN n t y) : x = y := by
  unfold rotN at h
  have h1 : (x + t) % n = (y + t) % n := h
  have e1 := Nat.div_add_mod (x + t) n
  have e2 := Nat.div_add_mod (y + t) n
  rw [h1] at e1
  rcases Nat.lt_trichotomy ((x + t) / n) ((y + t) / n) with h2 | h2 | h2
  · have := Nat.mul_le_mul_left n h2
    rw [Nat.mul_succ] at this; omega
  · rw [h2] at e1; omega
  · have := Nat.mul_le_mul_left n h2
    rw [Nat.mul_succ] at this; omega
theorem rotP_nat {n t a b : Nat} : rotP n t ((a : Int), (b : Int)) = (((min (rotN n t a) (rotN n t b) : Nat) : Int), ((max (rotN n t a) (rotN n t b) : Nat) : Int)) := by
  have e : ∀ x : Nat, ((x : Int) + (t : Int)) % (n : Int) = ((rotN n t x : Nat) : Int) := fun x => by simp [rotN]
  unfold rotP
  simp only [e, Prod.mk.injEq]
  constructor <;> omega
theorem rot_list {n t : Nat} (hn : 1 ≤ n) {l : List ZZ} (h : ListOK n l) : ListOK n (l.map (rotP n t)).reverse := by
  have nat : ∀ p ∈ l, ∃ a b : Nat, p = ((a : Int), (b : Int)) ∧ a < b ∧ b < n := fun p hp => by
    obtain ⟨h1, h2, h3⟩ := h.valid p hp
    exact ⟨p.1.toNat, p.2.toNat, by apply Prod.ext <;> simp only [] <;> omega, by omega, by omega⟩
  refine ⟨fun p hp => ?_, List.pairwise_reverse.2 (List.Pairwise.imp Ne.symm (show (l.map (rotP n t)).Nodup from ?_))⟩
  · obtain ⟨q, hq, rfl⟩ := List.mem_map.1 (List.mem_reverse.1 hp)
    obtain ⟨a, b, rfl, h1, h2⟩ := nat q hq
    rw [rotP_nat]
    have hne : rotN n t a ≠ rotN n t b := fun hc => by have := rotN_inj (by omega) h2 hc; omega
    have l1 : rotN n t a < n := Nat.mod_lt _ (by omega)
    have l2 : rotN n t b < n := Nat.mod_lt _ (by omega)
    simp only; omega
  · refine map_nodup h.nodup fun p hp q hq he => ?_
    obtain ⟨a, b, rfl, h1, h2⟩ := nat p hp
    obtain ⟨c, d, rfl, h3, h4⟩ := nat q hq
    rw [rotP_nat, rotP_nat] at he
    simp only [Prod.mk.injEq] at he
    have he1 : min (rotN n t a) (rotN n t b) = min (rotN n t c) (rotN n t d) := by omega
    have he2 : max (rotN n t a) (rotN n t b) = max (rotN n t c) (rotN n t d) := by omega
    have : (rotN n t a = rotN n t c ∧ rotN n t b = rotN n t d) ∨ (rotN n t a = rotN n t d ∧ rotN n t b = rotN n t c) := by omega
    rcases this with ⟨e1, e2⟩ | ⟨e1, e2⟩
    · have := rotN_inj (by omega) (by omega) e1
      have := rotN_inj (by omega) (by omega) e2
      subst_vars; rfl
    · have := rotN_inj (by omega) (by omega) e1
      have := rotN_inj (by omega) (by omega) e2
      omega
theorem rot_qin {n t : Nat} {l : List ZZ} (h : ListOK n l) {x y : Nat} (hx : x < n) (hy : y < n) : qin (l.map (rotP n t)).reverse (rotN n t x) (rotN n t y) = qin l x y := by
  have nat : ∀ p ∈ l, ∃ a b : Nat, p = ((a : Int), (b : Int)) ∧ a < b ∧ b < n := fun p hp => by
    obtain ⟨h1, h2, h3⟩ := h.valid p hp
    exact ⟨p.1.toNat, p.2.toNat, by apply Prod.ext <;> simp only [] <;> omega, by omega, by omega⟩
  have inj := fun {a b : Nat} (ha : a < n) (hb : b < n) => rotN_inj (n := n) (t := t) ha hb
  rw [Bool.eq_iff_iff]
  simp only [qin, List.any_eq_true, List.mem_reverse, List.mem_map, Bool.or_eq_true, Bool.and_eq_true, beq_iff_eq]
  constructor
  · rintro ⟨_, ⟨p, hp, rfl⟩, hq⟩
    refine ⟨p, hp, ?_⟩
    obtain ⟨a, b, rfl, h1, h2⟩ := nat p hp
    rw [rotP_nat] at hq
    simp only at hq ⊢
    have : (rotN n t a = rotN n t x ∧ rotN n t b = rotN n t y) ∨ (rotN n t a = rotN n t y ∧ rotN n t b = rotN n t x) := by omega
    rcases this with ⟨e1, e2⟩ | ⟨e1, e2⟩
    · have := inj (by omega) hx e1
      have := inj (by omega) hy e2
      left; omega
    · have := inj (by omega) hy e1
      have := inj (by omega) hx e2
      right; omega
  · rintro ⟨p, hp, hq⟩
    refine ⟨_, ⟨p, hp, rfl⟩, ?_⟩
    obtain ⟨a, b, rfl, h1, h2⟩ := nat p hp
    rw [rotP_nat]
    simp only at hq ⊢
    have : (a = x ∧ b = y) ∨ (a = y ∧ b = x) := by omega
    rcases this with ⟨rfl, rfl⟩ | ⟨rfl, rfl⟩ <;> omega
theorem rot_back {n t x : Nat} (hx : x < n) : rotN n t (rotN n (n - t % n) x) = x := by
  unfold rotN
  have h1 : t % n < n := Nat.mod_lt _ (by omega)
  have h2 := Nat.div_add_mod t n
  have e : (x + (n - t % n)) % n + t = (x + (n - t % n)) % n + t % n + n * (t / n) := by omega
  rw [e, Nat.add_mul_mod_self_left, Nat.mod_add_mod, show x + (n - t % n) + t % n = x + n by omega, Nat.add_mod_right, Nat.mod_eq_of_lt hx]
theorem less_list {n i : Nat} {l : List ZZ} (h : ListOK n l) : ListOK n (l.take i ++ l.drop (i + 1)) := by
  have hs : (l.take i ++ l.drop (i + 1)).Sublist l := by
    have := List.Sublist.append (List.Sublist.refl (l.take i)) (List.drop_sublist_drop_left l (show i ≤ i + 1 by omega))
    rwa [List.take_append_drop] at this
  exact ⟨fun p hp => h.valid p (hs.subset hp), h.nodup.sublist hs⟩
theorem less_qin {i : Nat} {l : List ZZ} {x y : Int} (h : qin (l.take i ++ l.drop (i + 1)) x y = true) : qin l x y = true := by
  simp only [qin, List.any_eq_true] at h ⊢
  obtain ⟨p, hp, hq⟩ := h
  refine ⟨p, ?_, hq⟩
  rcases List.mem_append.1 hp with hp | hp
  · exact List.mem_of_mem_take hp
  · exact List.mem_of_mem_drop hp
/-- all that the law asks of the three houses -/
structure Named (n : Nat) (l lo lu : List ZZ) (w wo wu : Nat → Nat) : Prop where
  ow : openS (n : Int) l = .room w
  oo : openS (n : Int) lo = .room wo
  ou : openS (n : Int) lu = .room wu
  rw_ : RoomW n w
  ro : RoomW n wo
  ru : RoomW n wu
  count : ∀ size, countS n w size = countS n wo size
  less : ∀ size, countS n wu size ≤ countS n w size
  large : (largestS n w).length = (largestS n wo).length
  small : (largestS n wu).length ≤ (largestS n w).length
  rooms : maxL (roomsS n w (n - 1)) = maxL (roomsS n wo (n - 1))
  fewer : maxL (roomsS n wu (n - 1)) ≤ maxL (roomsS n w (n - 1))
  odd : (oddS n w).isNone = (oddS n wo).isNone
  lenw : (roomsS n w (n - 1)).length = n
  leno : (roomsS n wo (n - 1)).length = n
  lenu : (roomsS n wu (n - 1)).length = n
theorem named {n t : Nat} {l lu : List ZZ} {w : Nat → Nat} (h1 : 1 ≤ n) (hn : n ≤ 8) (ho : openS (n : Int) l = .room w) (hu : lu = l ∨ ∃ i, lu = l.take i ++ l.drop (i + 1)) :
    ∃ wo wu, Named n l (l.map (rotP n t)).reverse lu w wo wu := by
  have hr := openS_room (m := n) rfl ho
  have hl := list_of ho
  obtain ⟨_, _, _, ht, _, _⟩ := openS_facts (m := n) rfl ho
  obtain ⟨wo, oo, ro, bo⟩ := (rot_list (t := t) h1 hl).open h1 hn
  have hlu : ListOK n lu ∧ ∀ x y : Int, qin lu x y = true → qin l x y = true := by
    rcases hu with rfl | ⟨i, rfl⟩
    · exact ⟨hl, fun _ _ h => h⟩
    · exact ⟨less_list hl, fun _ _ h => less_qin h⟩
  obtain ⟨wu, ou, ru, bu⟩ := hlu.1.open h1 hn
  have rlt : ∀ t x, rotN n t x < n := fun t x => Nat.mod_lt _ (by omega)
  have eq1 : ∀ x y, x < n → y < n → (w x).testBit y = (wo (rotN n t x)).testBit (rotN n t y) := fun x y hx hy => by
    rw [bo _ _ (rlt t x) (rlt t y), rot_qin hl hx hy, ht x y (by omega) (by omega)]
  have eq2 : ∀ x y, x < n → y < n → (wo x).testBit y = (w (rotN n (n - t % n) x)).testBit (rotN n (n - t % n) y) := fun x y hx hy => by
    rw [eq1 _ _ (rlt _ x) (rlt _ y), rot_back hx, rot_back hy]
  have hom1 : Hom n (rotN n t) w wo := ⟨fun x _ => rlt t x, fun x y hx hy h => rotN_inj hx hy h, fun x y hx hy hb => by rw [← eq1 x y hx hy]; exact hb⟩
  have hom2 : Hom n (rotN n (n - t % n)) wo w := ⟨fun x _ => rlt _ x, fun x y hx hy h => rotN_inj hx hy h, fun x y hx hy hb => by rw [← eq2 x y hx hy]; exact hb⟩
  have hom3 : Hom n (fun x => x) wu w := ⟨fun _ h => h, fun _ _ _ _ h => h, fun x y hx hy hb => by
    rw [ht x y (by omega) (by omega)]
    rw [bu x y hx hy] at hb
    exact hlu.2 _ _ hb⟩
  obtain ⟨k, f⟩ := rooms_fewest hr h1
  obtain ⟨ko, fo⟩ := rooms_fewest ro h1
  obtain ⟨ku, fu⟩ := rooms_fewest ru h1
  refine ⟨wo, wu, ho, oo, ou, hr, ro, ru, fun size => Nat.le_antisymm (count_hom hr ro hom1 hn size) (count_hom ro hr hom2 hn size), fun size => count_hom ru hr hom3 hn size,
    Nat.le_antisymm (largest_hom hr ro hom1 hn) (largest_hom ro hr hom2 hn), largest_hom ru hr hom3 hn, Nat.le_antisymm (rooms_hom hom1 f fo) (rooms_hom hom2 fo f), rooms_hom hom3 fu f, ?_, f.len, fo.len, fu.len⟩
  cases e1 : oddS n w with
  | none => rw [odd_iso hr ro hn (fun x _ => rlt _ x) eq2 e1]
  | some a =>
    cases e2 : oddS n wo with
    | none =>
      have := odd_iso ro hr hn (fun x _ => rlt _ x) eq1 e2
      rw [this] at e1; cases e1
    | some b => rfl
end Go.Proofs.Ythoogegclpiefaa.Code
end
section
namespace Go.Proofs.Ythoogegclpiefaa.Code
open Go Go.Ab
variable {H : Heap}
/-- the list of a house: frozen, or still owned, perhaps with cells behind it -/
def LO (l : List ZZ) (v : AV) (id : Nat) (H : Heap) : Prop := isP v l ∨ ∃ ver fz rest ex, v = .vec id ver 0 l.length 2 ∧ H[id]? = some (.row ver (prs l ++ rest) fz ex)
theorem LO.app {l : List ZZ} {v : AV} {id : Nat} {X : Heap} (h : LO l v id H) : LO l v id (H ++ X) := by
  rcases h with h | ⟨ver, fz, rest, ex, rfl, hid⟩
  · exact .inl h
  · exact .inr ⟨ver, fz, rest, ex, rfl, old_get hid⟩
theorem LO.keep {l : List ZZ} {v : AV} {id i : Nat} {b : Blk} (h : LO l v id H) (hi : i ≠ id) : LO l v id (H.set i b) := by
  rcases h with h | ⟨ver, fz, rest, ex, rfl, hid⟩
  · exact .inl h
  · exact .inr ⟨ver, fz, rest, ex, rfl, by rw [List.getElem?_set_ne hi]; exact hid⟩
theorem LO.fz {l l' : List ZZ} {v v' : AV} {id id' ver fz fz' : Nat} {cs : List AV} {ex : Bool} (h : LO l v id H) (hid' : H[id']? = some (.row ver cs fz ex)) : LO l v id (H.set id' (.row ver cs fz' ex)) := by
  rcases h with h | ⟨ver1, fz1, rest, ex1, rfl, hid⟩
  · exact .inl h
  · by_cases hi : id' = id
    · subst hi
      rw [hid] at hid'
      simp only [Option.some.injEq, Blk.row.injEq] at hid'
      obtain ⟨rfl, rfl, rfl, rfl⟩ := hid'
      exact .inr ⟨ver1, fz', rest, ex1, rfl, set_get hid⟩
    · exact .inr ⟨ver1, fz1, rest, ex1, rfl, by rw [List.getElem?_set_ne hi]; exact hid⟩
theorem LO.house {l : List ZZ} {v : AV} {id : Nat} {n : Int} (h : LO l v id H) : ∃ q' H', frzAll 0 H [.agg [.int .i64 n, v]] = some ([.agg [.int .i64 n, q']], H') ∧ frzAll 0 H' [.agg [.int .i64 n, q']] = some ([.agg [.int .i64 n, q']], H') ∧ isP q' l ∧
    (∀ i, i ≠ id → H'[i]? = H[i]?) ∧ ∀ l' v' id', LO l' v' id' H → LO l' v' id' H' := by
  rcases h with h | ⟨ver, fz, rest, ex, rfl, hid⟩
  · exact ⟨v, H, by simp [go_sem, h.frz], by simp [go_sem, h.frz], h, fun _ _ => rfl, fun _ _ _ h => h⟩
  · have e := frz_vec (d := 6) (bar := 0) (H := H) (id := id) (ver := ver) (off := 0) (len := l.length) (sz := 2) (cs := prs l ++ rest) (fz := fz) (ex := ex) (xs := prs l)
      (H' := H.set id (.row ver (prs l ++ rest) (max fz (0 + l.length * 2)) ex)) hid (by rw [List.length_append, prs_length]; omega) (Nat.zero_le _) (by
        rw [List.drop_zero, List.take_append_of_le_length (by rw [prs_length]; omega), List.take_of_length_le (by rw [prs_length]; omega), plains prs_plain])
    rw [chunks_two] at e
    refine ⟨.lst 2 false (prA l), H.set id (.row ver (prs l ++ rest) (max fz (0 + l.length * 2)) ex), by simp [go_sem, e], by simp [go_sem, isP.lst.frz], .lst, fun i hi => by rw [List.getElem?_set_ne (Ne.symm hi)], fun l' v' id' h => ?_⟩
    exact LO.fz (l' := l) (v' := v') h hid
theorem asrc_LO {l : List ZZ} {v : AV} {id : Nat} (h : LO l v id H) : asrc H 2 v = some (prs l) := by
  rcases h with (⟨rfl, rfl⟩ | ⟨ex, rfl⟩) | ⟨ver, fz, rest, ex, rfl, hid⟩
  · rfl
  · rw [asrc_lst]
    congr 1
    simp [prA, prs, List.flatMap_map, AV.cells]
  · simp only [asrc, if_true, hid]
    rw [if_pos ⟨trivial, by rw [List.length_append, prs_length]; omega⟩, List.drop_zero, List.take_append_of_le_length (by rw [prs_length]; omega), List.take_of_length_le (by rw [prs_length]; omega)]
/-- one pair, and a list behind it -/
theorem app_front {l : List ZZ} {v : AV} {id base : Nat} {p : ZZ} {K : AV → Heap → List Nat → Prop} (h : LO l v id H) (hl : l.length < 1000)
    (hk : ∀ v' id' H' tc, (H' = H ∨ ∃ b, H' = H ++ [b]) → LO (p :: l) v' id' H' → (id' = H.length ∨ id' = id) → K v' H' tc) : appWp base 0 2 16 (some (.lst 2 true [.agg (zc p)])) (some v) H K := by
  simp only [appWp, asrc_LO h, frzAll, frz.frzs]
  rw [plains (d := 6) prs_plain]
  simp only
  rw [if_neg (by rw [prs_length]; omega)]
  simp only [aappend, ne_eq, not_true_eq_false, if_false]
  by_cases he : l = []
  · subst he
    simp only [show (prs ([] : List ZZ)).isEmpty = true from rfl, if_true]
    exact hk _ id _ _ (.inl rfl) (.inl (.inr ⟨true, rfl⟩)) (.inr rfl)
  · have hne : (prs l).isEmpty = false := by
      cases hc : (prs l).isEmpty
      · rfl
      · exact absurd (prs_eq_nil.1 (by simpa using hc)) he
    rw [hne]
    simp only [Bool.false_eq_true, if_false, List.length_singleton, prs_length, Nat.mul_div_cancel_left _ (show 0 < 2 by decide), true_and]
    rw [if_pos (by omega)]
    simp only
    refine hk _ H.length _ _ (.inr ⟨_, rfl⟩) (.inr ⟨0, 0, [], false, by simp [Nat.add_comm], ?_⟩) (.inl rfl)
    simp [own_get0, AV.cells, prs, zc]
theorem k57 {q : AV} {l : List ZZ} {base : Nat} {Q : AV → Heap → Prop} (hq : isP q l) (hl : l.length < 1000) (hbase : base ≤ H.length)
    (h0 : l = [] → ∀ v, isP v l → Q v H) (h1 : l ≠ [] → Q (.vec H.length 0 0 l.length 2) (H ++ [.row 0 (prs l) 0 false])) : WpCall E false base 0 57 [q] H Q := by
  rw [call57]
  rcases hq with ⟨rfl, rfl⟩ | ⟨ex, rfl⟩
  · simp [go_sem, WpFun, c57, eqWp, aeq]
    exact h0 rfl _ .nil
  · simp [go_sem, WpFun, c57, eqWp, aeq, aop, fillA, chunks]
    simp only [appWp, asrc_lst, show (prA l).flatMap AV.cells = prs l by simp [prA, prs, List.flatMap_map, AV.cells], frzAll, frz.frzs]
    rw [plains (d := 6) prs_plain]
    simp only [chunks, List.length_nil, Nat.zero_div]
    rw [if_neg (by rw [prs_length]; omega)]
    simp only [aappend, ne_eq, not_true_eq_false, if_false]
    by_cases he : l = []
    · subst he
      simp [go_sem, prs]
      exact h0 rfl _ (.inr ⟨true, rfl⟩)
    · have hne : (prs l).isEmpty = false := by
        cases hc : (prs l).isEmpty
        · rfl
        · exact absurd (prs_eq_nil.1 (by simpa using hc)) he
      rw [hne]
      simp only [Bool.false_eq_true, if_false, List.length_nil, prs_length, Nat.mul_div_cancel_left _ (show 0 < 2 by decide), true_and, Nat.zero_add]
      rw [if_pos (by omega)]
      simp [go_sem]
      exact h1 he
end Go.Proofs.Ythoogegclpiefaa.Code
end
section
namespace Go.Proofs.Ythoogegclpiefaa.Code
open Go Go.Ab
variable {H : Heap}
theorem setCells_tail : ∀ (vs A R : List AV), vs.length ≤ R.length → ∃ R', setCells (A ++ R) A.length vs = A ++ R'
  | [], A, R, _ => ⟨R, rfl⟩
  | v :: vs, A, [], h => by simp at h
  | v :: vs, A, r :: R, h => by
    obtain ⟨R', hR⟩ := setCells_tail vs (A ++ [v]) R (by simpa using h)
    refine ⟨v :: R', ?_⟩
    simp only [setCells]
    rw [show (A ++ r :: R).set A.length v = A ++ [v] ++ R by simp [List.set_append]]
    simpa using hR
theorem del_cells {l : List ZZ} {i : Nat} (hi : i < l.length) : ∃ rest, rest.length = 2 ∧ setCells (prs l) (i * 2) (prs (l.drop (i + 1))) = prs (l.take i ++ l.drop (i + 1)) ++ rest := by
  have e1 : prs l = prs (l.take i) ++ prs (l.drop i) := by rw [← prs_append, List.take_append_drop]
  have e2 : (prs (l.take i)).length = i * 2 := by rw [prs_length, List.length_take, Nat.min_eq_left (by omega)]; omega
  have key : ∀ (vs A R : List AV), vs.length ≤ R.length → ∃ R', setCells (A ++ R) A.length vs = A ++ vs ++ R' := by
    intro vs
    induction vs with
    | nil => intro A R _; exact ⟨R, by simp [setCells]⟩
    | cons v vs ih =>
      intro A R h
      cases R with
      | nil => simp at h
      | cons r R =>
        obtain ⟨R', hR⟩ := ih (A ++ [v]) R (by simpa using h)
        refine ⟨R', ?_⟩
        simp only [setCells]
        rw [show (A ++ r :: R).set A.length v = A ++ [v] ++ R by simp [List.set_append]]
        simpa using hR
  obtain ⟨R', hR⟩ := key (prs (l.drop (i + 1))) (prs (l.take i)) (prs (l.drop i)) (by simp only [prs_length, List.length_drop]; omega)
  rw [e2, ← e1] at hR
  refine ⟨R', ?_, by rw [hR, prs_append]⟩
  have := congrArg List.length hR
  rw [setCells_length] at this
  simp only [List.length_append, prs_length, List.length_take, List.length_drop] at this
  omega
theorem app_in {l : List ZZ} {id ver i base : Nat} {K : AV → Heap → List Nat → Prop} (hid : H[id]? = some (.row ver (prs l) 0 false)) (hi : i + 1 < l.length) (hl : l.length < 1000) (hbase : base ≤ id)
    (hk : ∀ (rest : List AV) tc, rest.length = 2 → K (.vec id ver 0 (l.length - 1) 2) (H.set id (.row ver (prs (l.take i ++ l.drop (i + 1)) ++ rest) 0 false)) tc) :
    appWp base 0 2 16 (some (.vec id ver 0 i 2)) (some (.vec id ver ((i + 1) * 2) (l.length - (i + 1)) 2)) H K := by
  have hlen : (prs l).length = 2 * l.length := prs_length
  have hsrc : ((prs l).drop ((i + 1) * 2)).take ((l.length - (i + 1)) * 2) = prs (l.drop (i + 1)) := by
    have e1 : prs l = prs (l.take (i + 1)) ++ prs (l.drop (i + 1)) := by rw [← prs_append, List.take_append_drop]
    have e2 : (prs (l.take (i + 1))).length = (i + 1) * 2 := by rw [prs_length, List.length_take, Nat.min_eq_left (by omega)]; omega
    rw [e1, ← e2, List.drop_left, List.take_of_length_le (by rw [prs_length, List.length_drop]; omega)]
  have hn : (prs (l.drop (i + 1))).length = 2 * (l.length - (i + 1)) := by rw [prs_length, List.length_drop]
  have hne : (prs (l.drop (i + 1))).isEmpty = false := by
    cases hc : prs (l.drop (i + 1)) with
    | nil => rw [hc] at hn; simp at hn; omega
    | cons a r => rfl
  simp only [appWp, asrc, hid, if_true]
  rw [if_pos ⟨trivial, by rw [hlen]; omega⟩]
  simp only [hsrc, frzAll, frz.frzs]
  rw [plains (d := 6) prs_plain]
  simp only
  rw [if_neg (by rw [hn]; omega)]
  have hdiv : (prs (l.drop (i + 1))).length / 2 = l.length - (i + 1) := by rw [hn]; omega
  simp only [aappend, ne_eq, not_true_eq_false, if_false, hid, hdiv, hne, Bool.false_eq_true]
  rw [if_neg (by rw [hlen]; simp only [false_or, Nat.zero_add]; omega), if_pos (by rw [hlen]; omega), if_pos ⟨trivial, by omega, Nat.zero_le _, .inl hbase⟩]
  simp only
  obtain ⟨rest, hrl, hr⟩ := del_cells (l := l) (i := i) (by omega)
  rw [Nat.zero_add, hr, show i + (l.length - (i + 1)) = l.length - 1 by omega]
  exact hk rest _ hrl
theorem app_nil {l : List ZZ} {id ver i base : Nat} {K : AV → Heap → List Nat → Prop} (hid : H[id]? = some (.row ver (prs l) 0 false)) (hi : i < l.length) (hl : l.length < 1000)
    (hk : ∀ tc, K (.vec id ver 0 i 2) H tc) : appWp base 0 2 16 (some (.vec id ver 0 i 2)) (some (.lst 2 false [])) H K := by
  have hlen : (prs l).length = 2 * l.length := prs_length
  simp only [appWp, asrc_lst, List.flatMap_nil, frzAll, frz.frzs, frzsW]
  rw [if_neg (by simp)]
  simp only [aappend, ne_eq, not_true_eq_false, if_false, hid, List.length_nil, Nat.zero_div, List.isEmpty_nil, if_true]
  rw [if_neg (by rw [hlen]; simp only [false_or, Nat.zero_add]; omega)]
  exact hk _
theorem k58 {l : List ZZ} {id ver i base : Nat} {Q : AV → Heap → Prop} (hid : H[id]? = some (.row ver (prs l) 0 false)) (hi : i < l.length) (hl : l.length < 1000) (hbase : base ≤ id)
    (h : ∀ H', (∀ j, j ≠ id → H'[j]? = H[j]?) → H'.length = H.length → LO (l.take i ++ l.drop (i + 1)) (.vec id ver 0 (l.length - 1) 2) id H' → Q (.vec id ver 0 (l.length - 1) 2) H') :
    WpCall E false base 0 58 [.vec id ver 0 l.length 2, .int .i64 (i : Nat), .int .i64 ((i + 1 : Nat) : Int)] H Q := by
  rw [call58]
  have hlen : (prs l).length = 2 * l.length := prs_length
  have hdiv : (prs l).length / 2 = l.length := by rw [hlen]; omega
  have hp : (0 : Int) ≤ (i : Int) + 1 := by omega
  have hne : ¬ ((i : Int) = (i : Int) + 1) := by omega
  have hlu : (l.take i ++ l.drop (i + 1)).length = l.length - 1 := by simp; omega
  have hlt := (List.getElem?_eq_some_iff.1 hid).1
  simp [go_sem, WpFun, c58, aop, aslice, hid, AV.asNat, optBound, bound1, hdiv, Opd.evo, evs, hi, show i + 1 ≤ l.length from hi, hp, hne, show i ≤ l.length by omega, hlen]
  have fin : ∀ (H1 : Heap) (rest : List AV), H1[id]? = some (.row ver (prs (l.take i ++ l.drop (i + 1)) ++ rest) 0 false) → rest.length = 2 → H1.length = H.length → (∀ j, j ≠ id → H1[j]? = H[j]?) →
      Q (.vec id ver 0 (l.length - 1) 2) (H1.set id (.row ver (setCells (prs (l.take i ++ l.drop (i + 1)) ++ rest) ((l.length - 1) * 2) [.int .i64 0, .int .i64 0]) 0 false)) := fun H1 rest h1 h2 h3 h4 => by
    obtain ⟨R', hR⟩ := setCells_tail [.int .i64 0, .int .i64 0] (prs (l.take i ++ l.drop (i + 1))) rest (by simp [h2])
    rw [prs_length, hlu, Nat.mul_comm] at hR
    refine h _ (fun j hj => by rw [List.getElem?_set_ne (Ne.symm hj)]; exact h4 j hj) (by simp [h3]) (.inr ⟨ver, 0, R', false, by rw [hlu], ?_⟩)
    rw [hR]
    exact set_get h1
  by_cases hlast : i + 1 < l.length
  · simp [go_sem, hlast]
    refine app_in hid hlast hl hbase fun rest tc hrl => ?_
    have h1 : (H.set id (.row ver (prs (l.take i ++ l.drop (i + 1)) ++ rest) 0 false))[id]? = some (.row ver (prs (l.take i ++ l.drop (i + 1)) ++ rest) 0 false) := set_get hid
    have h2 : ∀ j, j ≠ id → (H.set id (.row ver (prs (l.take i ++ l.drop (i + 1)) ++ rest) 0 false))[j]? = H[j]? := fun j hj => List.getElem?_set_ne (Ne.symm hj)
    have h3 : (H.set id (.row ver (prs (l.take i ++ l.drop (i + 1)) ++ rest) 0 false)).length = H.length := by simp
    generalize H.set id (.row ver (prs (l.take i ++ l.drop (i + 1)) ++ rest) 0 false) = H1 at h1 h2 h3 ⊢
    have := fin H1 rest h1 hrl h3 h2
    have hL : (prs (l.take i ++ l.drop (i + 1)) ++ rest).length = 2 * l.length := by rw [List.length_append, prs_length, hlu, hrl]; omega
    generalize prs (l.take i ++ l.drop (i + 1)) ++ rest = cs at h1 this hL
    simp [go_sem, aop, aslice, h1, AV.asNat, optBound, bound1, Opd.evo, evs, hL, show l.length ≤ l.length - 1 + 1 by omega, show l.length - 1 < l.length by omega, show l.length - (l.length - 1) = 1 by omega, show ¬ l.length ≤ l.length - 1 by omega,
      show (l.length - 1) * 2 + 2 ≤ 2 * l.length by omega, AV.top.tops, AV.top]
    exact this
  · have hil : i = l.length - 1 := by omega
    subst hil
    have := fin H (prs (l.drop (l.length - 1))) (by
      rw [show l.drop (l.length - 1 + 1) = [] from List.drop_eq_nil_of_le (by omega), List.append_nil, ← prs_append, List.take_append_drop]; exact hid) (by rw [prs_length, List.length_drop]; omega) rfl (fun _ _ => rfl)
    rw [show prs (l.take (l.length - 1) ++ l.drop (l.length - 1 + 1)) ++ prs (l.drop (l.length - 1)) = prs l by
      rw [show l.drop (l.length - 1 + 1) = [] from List.drop_eq_nil_of_le (by omega), List.append_nil, ← prs_append, List.take_append_drop]] at this
    simp [go_sem, hlast, show ¬ (l.length * 2 < 2 * l.length) by omega]
    refine app_nil hid hi hl fun tc => ?_
    generalize prs l = cs at hid hlen this
    simp [go_sem, aop, aslice, hid, AV.asNat, optBound, bound1, Opd.evo, evs, hlen, show l.length ≤ l.length - 1 + 1 by omega, show l.length - 1 < l.length by omega, show l.length - (l.length - 1) = 1 by omega, show ¬ l.length ≤ l.length - 1 by omega,
      show (l.length - 1) * 2 + 2 ≤ 2 * l.length by omega, AV.top.tops, AV.top]
    exact this
end Go.Proofs.Ythoogegclpiefaa.Code
end
section
namespace Go.Proofs.Ythoogegclpiefaa.Code
open Go Go.Ab
variable {H : Heap}
theorem LO.cells {l : List ZZ} {v : AV} {id : Nat} (h : LO l v id H) : v.cells = [v] := by
  rcases h with h | ⟨ver, fz, rest, ex, rfl, hid⟩
  · exact h.cells
  · rfl
theorem LO.isTup {l : List ZZ} {v : AV} {id : Nat} (h : LO l v id H) : v.isTup = false := by
  rcases h with h | ⟨ver, fz, rest, ex, rfl, hid⟩
  · exact h.isTup
  · rfl
theorem LO.ext {l : List ZZ} {v : AV} {id : Nat} {b : Blk} (h : LO l v id H) : LO l v id (H ++ [b]) := h.app
theorem l13a {n t less : Nat} {q : AV} {l : List ZZ} (hq : isP q l) (hv : ListOK n l) (hn1 : 1 ≤ n) (hn8 : n ≤ 8) (hl : l.length < 1000) (ht : t < 256) {R : PQ} : ∀ (k i : Nat) (v : AV) (id : Nat) (H : Heap), i + k = l.length →
    H[1]? = some (.row 0 [.int .i64 (n : Nat), q] 0 true) → H[3]? = some (.row 0 [.int .i64 (n : Nat), v] 0 true) → LO ((l.take i).map (rotP n t)).reverse v id H → id ≠ 1 → id ≠ 3 → 4 ≤ H.length →
    (∀ (v : AV) (id : Nat) (H : Heap), H[1]? = some (.row 0 [.int .i64 (n : Nat), q] 0 true) → H[3]? = some (.row 0 [.int .i64 (n : Nat), v] 0 true) → LO (l.map (rotP n t)).reverse v id H → id ≠ 1 → id ≠ 3 → 4 ≤ H.length →
      R (.exit 0) [(1, .int .u8 (t : Nat)), (2, .int .u8 (less : Nat)), (7, .ptr 1 0 0), (9, .int .i64 (n : Nat)), (10, .ptr 3 0 0), (41, q), (42, .int .i64 (l.length : Nat)), (43, .int .i64 (l.length : Nat)), (44, .bool false)] H) →
    Wp E 0 0 (.loop c13_l0) [(1, .int .u8 (t : Nat)), (2, .int .u8 (less : Nat)), (7, .ptr 1 0 0), (9, .int .i64 (n : Nat)), (10, .ptr 3 0 0), (41, q), (42, .int .i64 (l.length : Nat)), (43, .int .i64 (i : Nat))] H R := by
  intro k
  induction k with
  | zero =>
    intro i v id H hi h1 h3 hlo hi1 hi3 hlen h
    obtain rfl : i = l.length := by omega
    rw [wp_round c13_l0.eq_1]
    simp [go_sem]
    rw [List.take_length] at hlo
    exact h v id H h1 h3 hlo hi1 hi3 hlen
  | succ k ih =>
    intro i v id H hi h1 h3 hlo hi1 hi3 hlen h
    have hlt : i < l.length := by omega
    obtain ⟨g1, g2, g3⟩ := hv.valid l[i] (List.getElem_mem hlt)
    obtain ⟨a, ha⟩ := Int.eq_ofNat_of_zero_le (show 0 ≤ l[i].1 by omega)
    obtain ⟨b, hb⟩ := Int.eq_ofNat_of_zero_le (show 0 ≤ l[i].2 by omega)
    have hp : l[i] = ((a : Int), (b : Int)) := Prod.ext ha hb
    have hab : a < b := by omega
    have hbn : b < n := by omega
    have era : ∀ x : Nat, x < 8 → (IntKind.i64.wrap ((x : Int) + (t : Int))).tmod (n : Int) = ((rotN n t x : Nat) : Int) := fun x hx => by
      rw [show (x : Int) + (t : Int) = ((x + t : Nat) : Int) by omega, i64_nat (by omega), Go.IntWalk.rem_in _ _ (by omega)]
      simp [rotN]
    have hn0 : (n : Int) ≠ 0 := by omega
    rw [wp_round c13_l0.eq_1]
    have emin : (if rotN n t b < rotN n t a then ((rotN n t b : Nat) : Int) else ((rotN n t a : Nat) : Int)) = (rotP n t l[i]).1 := by
      rw [hp, rotP_nat]; simp only; split <;> omega
    have emax : (if rotN n t a < rotN n t b then ((rotN n t b : Nat) : Int) else ((rotN n t a : Nat) : Int)) = (rotP n t l[i]).2 := by
      rw [hp, rotP_nat]; simp only; split <;> omega
    have e0 : ∀ b : Blk, aload (H ++ [b]) ⟨false, 1⟩ (.ptr 3 0 1) = some v := fun b => by rw [aload_ptr (old_get h3)]; rfl
    simp [go_sem, hlt, hq.ix hlt, ha, hb, emin, emax, zc, storeWp, astore, own_get0, own_set0, setCells, aload, Ab.part, old_get h3, i64_nat (show t < 9223372036854775808 by omega), abin_rem hn0, era a (by omega), era b (by omega), aop, fillA, chunks, evs]
    refine app_front (p := rotP n t l[i]) hlo.ext (by simp; omega) fun v' id' H' tc hH hlo' hid => ?_
    have s1 : H'[1]? = some (.row 0 [.int .i64 (n : Nat), q] 0 true) ∧ H'[3]? = some (.row 0 [.int .i64 (n : Nat), v] 0 true) ∧ 4 ≤ H'.length := by
      rcases hH with rfl | ⟨b, rfl⟩
      · exact ⟨old_get h1, old_get h3, by simp; omega⟩
      · exact ⟨old_get (old_get h1), old_get (old_get h3), by simp; omega⟩
    obtain ⟨s1, s3, sl⟩ := s1
    have hid1 : id' ≠ 1 ∧ id' ≠ 3 := by
      rcases hid with rfl | rfl
      · constructor <;> (rw [List.length_append]; simp only [List.length_singleton]; omega)
      · exact ⟨hi1, hi3⟩
    have hne : v'.top ≤ 1000000000 ∨ True := .inr trivial
    have e3 : ((l.take (i + 1)).map (rotP n t)).reverse = rotP n t l[i] :: ((l.take i).map (rotP n t)).reverse := by
      rw [List.take_succ_eq_append_getElem hlt, List.map_append, List.reverse_append]; rfl
    rw [← e3] at hlo'
    have next := ih (i + 1) v' id' (H'.set 3 (.row 0 [.int .i64 (n : Nat), v'] 0 true)) (by omega) (by rw [List.getElem?_set_ne (by omega)]; exact s1) (set_get s3) (hlo'.keep (Ne.symm hid1.2)) hid1.1 hid1.2 (by simp; omega) h
    simp [go_sem, storeWp, astore, s3, setCells, hlo'.cells, hlo'.isTup, i64_suc (show i < 1000000 by omega)]
    exact next
end Go.Proofs.Ythoogegclpiefaa.Code
end
section
namespace Go.Proofs.Ythoogegclpiefaa.Code
open Go Go.Ab
theorem frz_more {H H' : Heap} {a a' : AV} {k : IntKind} {x : Int} (h : frzAll 0 H [a] = some ([a'], H')) : frzAll 0 H [a, .int k x] = some ([a', .int k x], H') := by
  simp only [frzAll, frz.frzs, frzsW] at h ⊢
  cases hf : frz 8 0 H a with
  | none => rw [hf] at h; cases h
  | some p =>
    rw [hf] at h
    simp only [Option.some.injEq, Prod.mk.injEq, List.cons.injEq, and_true] at h
    obtain ⟨h1, h2⟩ := h
    subst h1 h2
    rfl
/-- the three houses in their cells -/
structure HS (n : Nat) (q : AV) (lo : List ZZ) (v : AV) (io : Nat) (lu : List ZZ) (vu : AV) (iu i5 : Nat) (H : Heap) : Prop where
  h1 : H[1]? = some (.row 0 [.int .i64 (n : Nat), q] 0 true)
  h3 : H[3]? = some (.row 0 [.int .i64 (n : Nat), v] 0 true)
  h5 : H[i5]? = some (.row 0 [.int .i64 (n : Nat), vu] 0 true)
  lo : LO lo v io H
  lu : LO lu vu iu H
  ne : (io ≠ 1 ∧ io ≠ 3 ∧ io ≠ i5) ∧ iu ≠ 1 ∧ iu ≠ 3 ∧ iu ≠ i5
section
variable {n io iu i5 : Nat} {q v vu : AV} {lo lu : List ZZ} {H : Heap}
theorem HS.fo (h : HS n q lo v io lu vu iu i5 H) : ∃ q' H', frzAll 0 H [.agg [.int .i64 (n : Nat), v]] = some ([.agg [.int .i64 (n : Nat), q']], H') ∧ frzAll 0 H' [.agg [.int .i64 (n : Nat), q']] = some ([.agg [.int .i64 (n : Nat), q']], H') ∧ isP q' lo ∧ HS n q lo v io lu vu iu i5 H' := by
  obtain ⟨q', H', e1, e2, e3, e4, e5⟩ := h.lo.house (n := (n : Int))
  exact ⟨q', H', e1, e2, e3, (e4 1 (Ne.symm h.ne.1.1)).trans h.h1, (e4 3 (Ne.symm h.ne.1.2.1)).trans h.h3, (e4 i5 (Ne.symm h.ne.1.2.2)).trans h.h5, e5 _ _ _ h.lo, e5 _ _ _ h.lu, h.ne⟩
theorem HS.fu (h : HS n q lo v io lu vu iu i5 H) : ∃ q' H', frzAll 0 H [.agg [.int .i64 (n : Nat), vu]] = some ([.agg [.int .i64 (n : Nat), q']], H') ∧ frzAll 0 H' [.agg [.int .i64 (n : Nat), q']] = some ([.agg [.int .i64 (n : Nat), q']], H') ∧ isP q' lu ∧ HS n q lo v io lu vu iu i5 H' := by
  obtain ⟨q', H', e1, e2, e3, e4, e5⟩ := h.lu.house (n := (n : Int))
  exact ⟨q', H', e1, e2, e3, (e4 1 (Ne.symm h.ne.2.1)).trans h.h1, (e4 3 (Ne.symm h.ne.2.2.1)).trans h.h3, (e4 i5 (Ne.symm h.ne.2.2.2)).trans h.h5, e5 _ _ _ h.lo, e5 _ _ _ h.lu, h.ne⟩
theorem HS.d1 (h : HS n q lo v io lu vu iu i5 H) : aload H ⟨true, 2⟩ (.ptr 1 0 0) = some (.agg [.int .i64 (n : Nat), q]) := by rw [aload_ptr h.h1]; rfl
theorem HS.d3 (h : HS n q lo v io lu vu iu i5 H) : aload H ⟨true, 2⟩ (.ptr 3 0 0) = some (.agg [.int .i64 (n : Nat), v]) := by rw [aload_ptr h.h3]; rfl
theorem HS.d5 (h : HS n q lo v io lu vu iu i5 H) : aload H ⟨true, 2⟩ (.ptr i5 0 0) = some (.agg [.int .i64 (n : Nat), vu]) := by rw [aload_ptr h.h5]; rfl
theorem l13b {l : List ZZ} {w wo wu : Nat → Nat} (hq : isP q l) (N : Named n l lo lu w wo wu) (hl : l.length < 1000) (hlo : lo.length < 1000) (hlu : lu.length < 1000) (hn8 : n ≤ 8) {R : PQ} : ∀ (k x : Nat) (H : Heap), x + k = n + 1 → 1 ≤ x → HS n q lo v io lu vu iu i5 H →
    (∀ H, HS n q lo v io lu vu iu i5 H → R (.exit 2) [(7, .ptr 1 0 0), (9, .int .i64 (n : Nat)), (10, .ptr 3 0 0), (15, .ptr i5 0 0), (18, .int .i64 ((n + 1 : Nat) : Int)), (97, .bool false)] H) →
    Wp E 0 0 (.loop c13_l1) [(7, .ptr 1 0 0), (9, .int .i64 (n : Nat)), (10, .ptr 3 0 0), (15, .ptr i5 0 0), (18, .int .i64 (x : Nat))] H R := by
  intro k
  induction k with
  | zero =>
    intro x H hx h1 hs h
    obtain rfl : x = n + 1 := by omega
    have hgt : ¬ (n : Int) + 1 ≤ (n : Int) := by omega
    rw [wp_round c13_l1.eq_1]
    simp [go_sem, hgt]
    exact h H hs
  | succ k ih =>
    intro x H hx h1 hs h
    have hle : x ≤ n := by omega
    have hw8 : within 1 8 (x : Int) = true := by simp [within]; omega
    rw [wp_round c13_l1.eq_1]
    simp [go_sem, hle, hs.d1]
    refine k43 hq hl (Nat.zero_le _) (fun e he => by rw [N.ow] at he; cases he) (fun m w' _ _ _ _ _ hf => by rw [hw8] at hf; cases hf) (fun m w' hm _ _ _ he _ => ?_)
    rw [N.ow] at he; cases he
    obtain rfl : n = m := by omega
    obtain ⟨q1, H1, e1, e1', hq1, hs1⟩ := hs.fo
    simp [go_sem, hs.d3]
    refine frz_first call43 (frz_more e1) (frz_more e1') ?_
    refine k43 hq1 hlo (Nat.zero_le _) (fun e he => by rw [N.oo] at he; cases he) (fun m w' _ _ _ _ _ hf => by rw [hw8] at hf; cases hf) (fun m w' hm _ _ _ he _ => ?_)
    rw [N.oo] at he; cases he
    obtain rfl : n = m := by omega
    obtain ⟨q2, H2, e2, e2', hq2, hs2⟩ := hs1.fu
    simp [go_sem, hs1.d5]
    refine frz_first call43 (frz_more e2) (frz_more e2') ?_
    refine k43 hq2 hlu (Nat.zero_le _) (fun e he => by rw [N.ou] at he; cases he) (fun m w' _ _ _ _ _ hf => by rw [hw8] at hf; cases hf) (fun m w' hm _ _ _ he _ => ?_)
    rw [N.ou] at he; cases he
    obtain rfl : n = m := by omega
    have c1 := N.count (x : Int)
    have c2 := N.less (x : Int)
    have next := ih (x + 1) H2 (by omega) (by omega) hs2 h
    rw [c1] at c2
    have c3 : ¬ countS n wo (x : Int) < countS n wu (x : Int) := by omega
    simp [go_sem, c1, c3, natEq, i64_suc (show x < 1000000 by omega)]
    exact next
end
end Go.Proofs.Ythoogegclpiefaa.Code
end
section
namespace Go.Proofs.Ythoogegclpiefaa.Code
open Go Go.Ab
theorem LO.low {l : List ZZ} {v : AV} {id : Nat} {H : Heap} (h : LO l v id H) (h1 : id ≠ 1) (h3 : id ≠ 3) (hl : 4 ≤ H.length) : ∃ id', LO l v id' H ∧ id' ≠ 1 ∧ id' ≠ 3 ∧ id' < H.length := by
  rcases h with h | ⟨ver, fz, rest, ex, rfl, hid⟩
  · exact ⟨0, .inl h, by omega, by omega, by omega⟩
  · exact ⟨id, .inr ⟨ver, fz, rest, ex, rfl, hid⟩, h1, h3, (List.getElem?_eq_some_iff.1 hid).1⟩
set_option maxRecDepth 4000 in
theorem law13 {p bits t less : Nat} (hp : p < 256) (hbits : bits < 4294967296) (ht : t < 256) (hless : less < 256) :
    WpCall E false 0 0 13 [.agg [.int .u8 (p : Nat), .int .u32 (bits : Nat)], .int .u8 (t : Nat), .int .u8 (less : Nat)] [] (fun v _ => v = .bool true) := by
  rw [call13]
  have e0 : aload [Blk.row 0 [AV.int .u8 (p : Nat), .int .u32 (bits : Nat)] 0 true] ⟨true, 2⟩ (.ptr 0 0 0) = some (.agg [.int .u8 (p : Nat), .int .u32 (bits : Nat)]) := rfl
  simp [go_sem, WpFun, c13, e0]
  refine k35 (most := 8) (n := 1 + p % 8) hp hbits (by omega) (by omega) (Nat.zero_le _) rfl fun q l w hq hm => ?_
  have hn1 : 1 ≤ 1 + p % 8 := by omega
  have hn8 : 1 + p % 8 ≤ 8 := by omega
  generalize 1 + p % 8 = n at *
  have ho := hm.room
  have hl : l.length < 1000 := by have := hm.len; omega
  have d1 : ∀ r, aload (Blk.row 0 [AV.int .u8 (p : Nat), .int .u32 (bits : Nat)] 0 true :: Blk.row 0 [.int .i64 (n : Nat), q] 0 true :: r) ⟨false, 1⟩ (.ptr 1 0 0) = some (.int .i64 (n : Nat)) := fun r => rfl
  have d2 : ∀ r, aload (Blk.row 0 [AV.int .u8 (p : Nat), .int .u32 (bits : Nat)] 0 true :: Blk.row 0 [.int .i64 (n : Nat), q] 0 true :: r) ⟨false, 1⟩ (.ptr 1 0 1) = some q := fun r => rfl
  simp [go_sem, storeWp, astore, setCells, hq.cells, hq.top, hq.isTup, gcells_length, gcells_over, d1, d2, fillA, hq.len]
  refine l13a hq (list_of ho) hn1 hn8 hl ht l.length 0 .nils 5 _ (by omega) rfl rfl (.inl .nil) (by omega) (by omega) (by simp) fun v io0 H h1 h3 hlo0 hi10 hi30 hlen => ?_
  obtain ⟨io, hlo, hi1, hi3, hil⟩ := hlo0.low hi10 hi30 hlen
  have d3 : aload H ⟨false, 1⟩ (.ptr 1 0 1) = some q := by rw [aload_ptr h1]; rfl
  simp [go_sem, d3]
  have hlo1000 : (l.map (rotP n t)).reverse.length < 1000 := by simp; omega
  by_cases he : l = []
  case' pos =>
    refine k57 hq hl (by simp) (fun _ vc hvc => ?_) (fun hne => absurd he hne)
    obtain ⟨wo, wu, N⟩ := named (t := t) (lu := l) hn1 hn8 ho (.inl rfl)
    have hlu : l.length < 1000 := hl
    have hs : HS n q (l.map (rotP n t)).reverse v io l vc (H.length + 1) H.length (H ++ [.row 0 [.int .i64 (n : Nat), vc] 0 true]) :=
      ⟨old_get h1, old_get h3, by simp [own_get0], hlo.ext, .inl hvc, ⟨hi1, hi3, by omega⟩, by omega, by omega, by omega⟩
    generalize hHH : H ++ [Blk.row 0 [.int .i64 (n : Nat), vc] 0 true] = HH at hs
    have h0 : ¬ 0 < l.length := by rw [he]; simp
    simp [go_sem, fillA, setCells, storeWp, astore, own_get0, own_set0, hvc.cells, hvc.top, hvc.isTup, aload, Ab.part, hvc.len, hHH, hs.h5, h0]
  case' neg =>
    refine k57 hq hl (by simp) (fun h => absurd h he) (fun _ => ?_)
    have hpos : 0 < l.length := List.length_pos_iff.2 he
    obtain ⟨ii, hil, hrem⟩ : ∃ ii : Nat, ii < l.length ∧ (less : Int).tmod (l.length : Int) = (ii : Int) := ⟨less % l.length, Nat.mod_lt _ hpos, by
      rw [Go.IntWalk.rem_in _ _ (by omega)]; simp⟩
    have hn0 : (l.length : Int) ≠ 0 := by omega
    simp [go_sem, fillA, setCells, storeWp, astore, own_get, own_set, aload, Ab.part, hpos, i64_nat (show less < 9223372036854775808 by omega), abin_rem hn0, hrem, i64_suc (show ii < 1000000 by omega)]
    refine k58 (id := H.length) (by simp [own_get]) hil hl (Nat.zero_le _) fun H' hs1 hs2 hLO => ?_
    obtain ⟨wo, wu, N⟩ := named (t := t) (lu := l.take ii ++ l.drop (ii + 1)) hn1 hn8 ho (.inr ⟨ii, rfl⟩)
    have hlu : (l.take ii ++ l.drop (ii + 1)).length < 1000 := by simp; omega
    have g1 := (hs1 1 (by omega)).trans (old_get h1)
    have g3 := (hs1 3 (by omega)).trans (old_get h3)
    have g5 : H'[H.length + 1]? = some (.row 0 [.int .i64 (n : Nat), .vec H.length 0 0 l.length 2] 0 true) := (hs1 (H.length + 1) (by omega)).trans (by simp [own_get])
    have hlo2 : LO (l.map (rotP n t)).reverse v io H' := by
      rcases hlo with h | ⟨ver, fz, rest, ex, rfl, hid⟩
      · exact .inl h
      · exact .inr ⟨ver, fz, rest, ex, rfl, (hs1 io (by omega)).trans (old_get hid)⟩
    have hs : HS n q (l.map (rotP n t)).reverse v io (l.take ii ++ l.drop (ii + 1)) (.vec H.length 0 0 (l.length - 1) 2) H.length (H.length + 1) (H'.set (H.length + 1) (.row 0 [.int .i64 (n : Nat), .vec H.length 0 0 (l.length - 1) 2] 0 true)) :=
      ⟨by rw [List.getElem?_set_ne (by omega)]; exact g1, by rw [List.getElem?_set_ne (by omega)]; exact g3, set_get g5, hlo2.keep (by omega), hLO.keep (by omega), ⟨hi1, hi3, by omega⟩, by omega, by omega, by omega⟩
    generalize hHH : H'.set (H.length + 1) (.row 0 [.int .i64 (n : Nat), .vec H.length 0 0 (l.length - 1) 2] 0 true) = HH at hs
    simp [go_sem, storeWp, astore, g5, setCells, AV.cells, AV.isTup, hHH]
  all_goals
    refine l13b hq N hl hlo1000 hlu hn8 n 1 HH (by omega) (by omega) hs fun H hs => ?_
    simp [go_sem, hs.d1]
    refine k37 hq hl (Nat.zero_le _) (fun e he => by rw [N.ow] at he; cases he) (fun m w' hm _ _ _ he a1 ha1 => ?_)
    rw [N.ow] at he; cases he
    obtain rfl : n = m := by omega
    obtain ⟨q1, H1, e1, e1', hq1, hs1⟩ := hs.fo
    simp [go_sem, hs.d3]
    refine frz_first call37 e1 e1' ?_
    refine k37 hq1 hlo1000 (Nat.zero_le _) (fun e he => by rw [N.oo] at he; cases he) (fun m w' hm _ _ _ he a2 ha2 => ?_)
    rw [N.oo] at he; cases he
    obtain rfl : n = m := by omega
    obtain ⟨q2, H2, e2, e2', hq2, hs2⟩ := hs1.fu
    simp [go_sem, hs1.d5]
    refine frz_first call37 e2 e2' ?_
    refine k37 hq2 hlu (Nat.zero_le _) (fun e he => by rw [N.ou] at he; cases he) (fun m w' hm _ _ _ he a3 ha3 => ?_)
    rw [N.ou] at he; cases he
    obtain rfl : n = m := by omega
    have c1 := N.large
    have c2 := N.small
    rw [c1] at c2
    have c3 : ¬ (largestS n wo).length < (largestS n wu).length := by omega
    simp [go_sem, ha1.len, ha2.len, ha3.len, c1, c3, natEq, hs2.d1]
    clear ha1 ha2 ha3 a1 a2 a3
    refine k16 hq hl (Nat.zero_le _) (fun e he => by rw [N.ow] at he; cases he) (fun m w' hm _ _ _ he a1 ha1 => ?_)
    rw [N.ow] at he; cases he
    obtain rfl : n = m := by omega
    obtain ⟨q3, H3, e3, e3', hq3, hs3⟩ := hs2.fo
    simp [go_sem, hs2.d3]
    refine frz_first call16 e3 e3' ?_
    refine k16 hq3 hlo1000 (Nat.zero_le _) (fun e he => by rw [N.oo] at he; cases he) (fun m w' hm _ _ _ he a2 ha2 => ?_)
    rw [N.oo] at he; cases he
    obtain rfl : n = m := by omega
    obtain ⟨q4, H4, e4, e4', hq4, hs4⟩ := hs3.fu
    simp [go_sem, hs3.d5]
    refine frz_first call16 e4 e4' ?_
    refine k16 hq4 hlu (Nat.zero_le _) (fun e he => by rw [N.ou] at he; cases he) (fun m w' hm _ _ _ he a3 ha3 => ?_)
    rw [N.ou] at he; cases he
    obtain rfl : n = m := by omega
    have b1 := N.lenw
    have b2 := N.leno
    have b3 := N.lenu
    simp [go_sem, ha1.len, ha2.len, ha3.len, b1, b2, b3, natEq]
    refine k55 ha1 (by omega) (by omega) ?_
    simp [go_sem]
    refine k55 ha2 (by omega) (by omega) ?_
    have c4 := N.rooms
    have c5 := N.fewer
    rw [c4] at c5
    have c6 : ¬ maxL (roomsS n wo (n - 1)) < maxL (roomsS n wu (n - 1)) := by omega
    simp [go_sem, c4, natEq]
    refine k55 ha3 (by omega) (by omega) ?_
    simp [go_sem]
    refine k55 ha1 (by omega) (by omega) ?_
    simp [go_sem, c4, c6, hs4.d1]
    have c7 := N.odd
    refine k18 hq hl (Nat.zero_le _) (fun e he => by rw [N.ow] at he; cases he) (fun m w' hm _ _ _ he hodd => ?_) (fun m w' hm _ _ _ he x y z hodd => ?_)
    all_goals
      rw [N.ow] at he; cases he
      obtain rfl : n = m := by omega
      rw [hodd] at c7
      obtain ⟨q5, H5, e5, e5', hq5, hs5⟩ := hs4.fo
      simp [go_sem, hs4.d3]
      refine frz_first call18 e5 e5' ?_
      refine k18 hq5 hlo1000 (Nat.zero_le _) (fun e he => by rw [N.oo] at he; cases he) (fun m w' hm _ _ _ he hodd2 => ?_) (fun m w' hm _ _ _ he x2 y2 z2 hodd2 => ?_)
      all_goals
        rw [N.oo] at he; cases he
        obtain rfl : n = m := by omega
        rw [hodd2] at c7
        first
          | (simp at c7; done)
          | simp [go_sem, call15]
theorem named_true {p bits t less : Nat} (hp : p < 256) (hbits : bits < 4294967296) (ht : t < 256) (hless : less < 256) : ∃ f H', acall E f 13 [.agg [.int .u8 (p : Nat), .int .u32 (bits : Nat)], .int .u8 (t : Nat), .int .u8 (less : Nat)] [] = some (.bool true, H') := by
  obtain ⟨f, v, H', h, rfl⟩ := law13 hp hbits ht hless
  exact ⟨f, H', h⟩
end Go.Proofs.Ythoogegclpiefaa.Code
end
