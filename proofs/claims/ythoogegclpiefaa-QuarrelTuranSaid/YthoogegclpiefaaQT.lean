/-
  Parts of the proofs about this chapter, joined: contracts of functions and plain laws.
-/
import Derived.Test.YthoogegclpiefaaCall
import Derived.Test.YthoogegclpiefaaAbO
import Derived.KernelRfl
import Derived.IntWalk
set_option linter.all false
section
namespace Go.Proofs.Ythoogegclpiefaa.Code
open Go Go.Ab
attribute [go_sem ↓] wpop_app
variable {pure : Bool} {base bar : Nat} {H : Heap} {Q : AV → Heap → Prop}
/-- is a number from a to b -/
def within (a b n : Int) : Bool := decide (a ≤ n) && decide (n ≤ b)
theorem k79 {n : Int} : WpCall E pure base bar 79 [.int .i64 n] H Q ↔ Q (.bool (within 1 8 n)) H := by
  rw [call79]
  simp [go_sem, WpFun, c79]
  unfold within
  by_cases h : 1 ≤ n <;> simp [h]
def tz8 (s : Nat) : Nat := ((List.range 8).find? (s.testBit ·)).getD 8
theorem tz8_tab : ∀ i, i < 256 → c66_b0[i]? = some (tz8 i).toUInt8 := by decide +kernel
theorem tz8_lt (s : Nat) : tz8 s ≤ 8 := by
  unfold tz8
  cases h : (List.range 8).find? (s.testBit ·) with
  | none => simp
  | some i => have := List.mem_of_find?_eq_some h; simp at this; simp; omega
theorem k66 {s : Nat} (hs : s < 256) : WpCall E pure base bar 66 [.int .u8 s] H Q ↔ Q (.int .i64 (tz8 s)) H := by
  rw [call66]
  have h2 := tz8_lt s
  simp [go_sem, WpFun, c66, aop, AV.asNat, tz8_tab s hs]
  rw [show ((tz8 s : Nat) : Int) % 256 = tz8 s by omega, i64_nat (by omega)]
/-- the people of a set -/
def bitsOf (s : Nat) : List Nat := (List.range 8).filter (s.testBit ·)
theorem bits_step : ∀ s, s < 256 → s ≠ 0 → bitsOf s = tz8 s :: bitsOf (band s (s - 1)) ∧ band s (s - 1) < s := by decide +kernel
theorem bits_zero : bitsOf 0 = [] := by decide
theorem bits_len (s : Nat) : (bitsOf s).length ≤ 8 := by
  unfold bitsOf
  exact Nat.le_trans (List.length_filter_le _ _) (by simp)
theorem u8_sub1 {s : Nat} (hs : s < 256) (h0 : s ≠ 0) : IntKind.u8.wrap ((s : Int) - 1) = ((s - 1 : Nat) : Int) := by
  rw [show (s : Int) - 1 = ((s - 1 : Nat) : Int) by omega, u8_nat (by omega)]
theorem l67 (H0 : Heap) (hb : bar ≤ H0.length) (hbase : base ≤ H0.length) {R : PQ} : ∀ (s : Nat), s < 256 → ∀ (done : List Nat) (v : AV) (H : Heap), Grow 1 (nats done) H0 v H → done.length + (bitsOf s).length ≤ 1000 →
    (∀ v' H', Grow 1 (nats (done ++ bitsOf s)) H0 v' H' → R (.exit 0) [(0, .int .u8 0), (3, v'), (5, .bool false)] H') →
    Wp E base bar (.loop c67_l0) [(0, .int .u8 s), (3, v)] H R := by
  intro s
  induction s using Nat.strongRecOn with
  | _ s ih =>
    intro hs done v H hg hl h
    rw [wp_round c67_l0.eq_1]
    simp [go_sem]
    by_cases h0 : s = 0
    · subst h0
      simp [go_sem]
      exact h v H (by simpa [bits_zero] using hg)
    · have e := bits_step s hs h0
      simp [go_sem, h0, k66 hs, aop, fillA, setCells, chunks, AV.noVec.noVecs, AV.noVec]
      rw [e.1] at hl
      simp at hl
      refine hg.nat hb hbase (by omega) fun v' H' tc g' => ?_
      simp [go_sem, u8_sub1 hs h0, and_u8 hs (show s - 1 < 256 by omega)]
      refine ih _ e.2 (by omega) _ _ _ g' (by simp; omega) fun v'' H'' g'' => h _ _ ?_
      rw [e.1]; simpa using g''
theorem k67 {s : Nat} (hs : s < 256) (hb : bar ≤ H.length) (h : Q (outL 1 (nats (bitsOf s))) H) : WpCall E pure base bar 67 [.int .u8 s] H Q := by
  rw [call67]
  have hb := bar_ok (pure := pure) hb
  simp [go_sem, WpFun, c67] at hb ⊢
  refine l67 H hb (Nat.le_refl _) s hs [] _ _ .nil (by have := bits_len s; simp; omega) fun v' H' g => ?_
  simp [go_sem]
  refine g.out hb (Nat.le_refl _) ?_
  simpa using h
end Go.Proofs.Ythoogegclpiefaa.Code
end
section
namespace Go.Proofs.Ythoogegclpiefaa.Code
open Go Go.Ab
variable {pure : Bool} {base bar : Nat} {H : Heap} {Q : AV → Heap → Prop}
theorem k87 {s x : Nat} (hs : s < 256) : WpCall E pure base bar 87 [.int .u8 s, .int .i64 x] H Q ↔ Q (.bool (s.testBit x)) H := by
  rw [call87]
  simp [go_sem, WpFun, c87, shr_u8, and_u8_one, shr_lt hs, shr_bit s hs]
  cases s.testBit x <;> simp
theorem k90 {n : Int} : WpCall E pure base bar 90 [.int .i64 n] H Q ↔ Q (.bool false) H := by
  rw [call90]
  simp [go_sem, WpFun, c90]
def cmp3 (a b : Nat) : Int := if a < b then -1 else if b < a then 1 else 0
theorem k88 {a b : Nat} : WpCall E pure base bar 88 [.int .i64 a, .int .i64 b] H Q ↔ Q (.int .i64 (cmp3 a b)) H := by
  rw [call88]
  simp [go_sem, WpFun, c88, k90]

  unfold cmp3
  by_cases h : a < b
  · simp [h]
  · by_cases h2 : b < a <;> simp [h, h2]
/-- two people quarrel -/
def joinW (w : Nat → Nat) (a b : Nat) : Nat → Nat := upd (upd w a (bor (w a) (pw b))) b (bor (upd w a (bor (w a) (pw b)) b) (pw a))
theorem upd_lt {w : Nat → Nat} {i x : Nat} (hw : ∀ j, w j < 256) (hx : x < 256) : ∀ j, upd w i x j < 256 := fun j => by unfold upd; split <;> simp [*]
theorem joinW_lt {w : Nat → Nat} {a b : Nat} (hw : ∀ j, w j < 256) (ha : a < 8) (hb : b < 8) : ∀ j, joinW w a b j < 256 := by
  have h1 := upd_lt (i := a) hw (bor_lt (hw a) (pw_lt hb))
  exact upd_lt h1 (bor_lt (h1 b) (pw_lt ha))
theorem k81 {id ver n a b : Nat} {ex : Bool} {w : Nat → Nat} (hid : H[id]? = some (.row ver (wcells n w) 0 ex)) (hw : ∀ x, w x < 256) (ha : a < 8) (hb : b < 8) (hbar : bar ≤ id)
    (h : Q (.tup []) (H.set id (.row ver (wcells n (joinW w a b)) 0 ex))) :
    WpCall E false base bar 81 [.ptr id ver 0, .int .i64 a, .int .i64 b] H Q := by
  rw [call81]
  have h1 := upd_lt (i := a) hw (bor_lt (hw a) (pw_lt hb))
  simp [go_sem, WpFun, c81, ha, hb, loadW hid, storeW hid, shl_u8, or_u8, hw, pw_lt, hbar, loadW (set_row hid), storeW (set_row hid), h1, set_take]
  exact h
end Go.Proofs.Ythoogegclpiefaa.Code
end
section
namespace Go.Proofs.Ythoogegclpiefaa.Code
open Go Go.Ab
variable {pure : Bool} {base bar : Nat} {H : Heap} {Q : AV → Heap → Prop}
def cmpL : List Nat → List Nat → Int
  | [], [] => 0
  | [], _ :: _ => -1
  | _ :: _, [] => 1
  | a :: x, b :: y => if cmp3 a b = 0 then cmpL x y else cmp3 a b
theorem i64_suc {i : Nat} (h : i < 1000000) : IntKind.i64.wrap ((i : Int) + 1) = ((i + 1 : Nat) : Int) := by
  rw [show (i : Int) + 1 = ((i + 1 : Nat) : Int) by omega, i64_nat (by omega)]
theorem cmpL_nil {x y : List Nat} (h : x.length ≤ y.length) (hx : x = []) : cmpL x y = if x.length < y.length then -1 else 0 := by
  subst hx
  cases y <;> simp [cmpL]
theorem l82 {a b : AV} {x y : List Nat} (ha : isL a x) (hb : isL b y) (hx : x.length < 100000) (hy : y.length < 100000) {R : PQ} : ∀ (k i : Nat), i + k = x.length → i ≤ y.length →
    (R .ret [(4, .int .i64 (cmpL (x.drop i) (y.drop i)))] H) →
    (x.length ≤ y.length → cmpL (x.drop i) (y.drop i) = (if x.length < y.length then -1 else 0) → R (.exit 0) [(0, a), (1, b), (9, a), (10, .int .i64 (x.length : Nat)), (11, .int .i64 (x.length : Nat)), (12, .bool false)] H) →
    Wp E base bar (.loop c82_l0) [(0, a), (1, b), (9, a), (10, .int .i64 (x.length : Nat)), (11, .int .i64 (i : Nat))] H R := by
  intro k
  induction k with
  | zero =>
    intro i hi hy2 hr he
    obtain rfl : i = x.length := by omega
    rw [wp_round c82_l0.eq_1]
    simp [go_sem]
    refine he hy2 ?_
    have := cmpL_nil (x := x.drop x.length) (y := y.drop x.length) (by simp) (by simp)
    rw [this]
    simp only [List.length_drop, Nat.sub_self]
    have : (0 < y.length - x.length) ↔ (x.length < y.length) := by omega
    simp [this]
  | succ k ih =>
    intro i hi hy2 hr he
    rw [wp_round c82_l0.eq_1]
    have hlt : i < x.length := by omega
    simp [go_sem, hlt, ha.ix hlt, hb.len]
    by_cases hyi : y.length ≤ i
    · simp [go_sem, hyi]
      rw [List.drop_eq_getElem_cons hlt, List.drop_eq_nil_of_le hyi] at hr
      exact hr
    · have hyi : i < y.length := by omega
      simp [go_sem, show ¬ y.length ≤ i by omega, hb.ix hyi, k88]
      rw [List.drop_eq_getElem_cons hlt, List.drop_eq_getElem_cons hyi] at hr he
      simp only [cmpL] at hr he
      by_cases hc : cmp3 x[i] y[i] = 0
      · simp [go_sem, hc, i64_suc (show i < 1000000 by omega)] at hr he ⊢
        exact ih (i + 1) (by omega) (by omega) hr he
      · simp [go_sem, hc] at hr ⊢
        exact hr
theorem k82 {a b : AV} {x y : List Nat} (ha : isL a x) (hb : isL b y) (hx : x.length < 100000) (hy : y.length < 100000) (h : Q (.int .i64 (cmpL x y)) H) : WpCall E pure base bar 82 [a, b] H Q := by
  rw [call82]
  simp [go_sem, WpFun, c82, ha.frz, hb.frz, ha.len]
  refine l82 ha hb hx hy x.length 0 (by omega) (by omega) ?_ ?_
  · simp [go_sem]; exact h
  · intro hl he
    simp only [List.drop_zero] at he
    rw [he] at h
    simp [go_sem, ha.len, hb.len]
    by_cases hc : x.length < y.length
    · simp [go_sem, hc] at h ⊢; exact h
    · simp [go_sem, hc] at h ⊢; exact h
theorem bits_lt {s x : Nat} (h : x ∈ bitsOf s) : x < 8 := by simp [bitsOf] at h; exact h.1
/-- each two of a set quarrel -/
def brawlS (w : Nat → Nat) (s : Nat) : Bool := (bitsOf s).all fun x => clr s (w x) == pw x
theorem l84 {id ver n s : Nat} {ex : Bool} {w : Nat → Nat} {fz : Nat} {v : AV} {l : List Nat} (hid : H[id]? = some (.row ver (wcells n w) fz ex)) (hw : ∀ x, w x < 256) (hs : s < 256) (hv : isL v l) (h8 : ∀ x ∈ l, x < 8) (hl : l.length < 1000) {R : PQ} :
    ∀ (k i : Nat), i + k = l.length →
    (((l.drop i).all fun x => clr s (w x) == pw x) = false → R .ret [(4, .bool false)] H) →
    (((l.drop i).all fun x => clr s (w x) == pw x) = true → R (.exit 0) [(0, .ptr id ver 0), (1, .int .u8 s), (8, v), (9, .int .i64 (l.length : Nat)), (10, .int .i64 (l.length : Nat)), (11, .bool false)] H) →
    Wp E base bar (.loop c84_l0) [(0, .ptr id ver 0), (1, .int .u8 s), (8, v), (9, .int .i64 (l.length : Nat)), (10, .int .i64 (i : Nat))] H R := by
  intro k
  induction k with
  | zero =>
    intro i hi hr he
    obtain rfl : i = l.length := by omega
    rw [wp_round c84_l0.eq_1]
    simp [go_sem]
    exact he (by simp)
  | succ k ih =>
    intro i hi hr he
    have hlt : i < l.length := by omega
    have hx := h8 _ (List.getElem_mem hlt)
    rw [wp_round c84_l0.eq_1]
    rw [List.drop_eq_getElem_cons hlt] at hr he
    simp [go_sem, hlt, hv.ix hlt, loadW hid hx, andNot_u8, hw, hs, shl_u8, hx]
    by_cases hc : clr s (w l[i]) = pw l[i]
    · simp only [List.all_cons, show (clr s (w l[i]) == pw l[i]) = true by simpa using hc, Bool.true_and] at hr he
      simp [go_sem, show ((clr s (w l[i]) : Nat) : Int) = (pw l[i] : Nat) by rw [hc], i64_suc (show i < 1000000 by omega)]
      exact ih (i + 1) (by omega) hr he
    · simp only [List.all_cons, show (clr s (w l[i]) == pw l[i]) = false by simpa using hc, Bool.false_and] at hr
      simp [go_sem, show ¬ ((clr s (w l[i]) : Nat) : Int) = (pw l[i] : Nat) by omega]
      exact hr trivial
theorem k84 {id ver n s : Nat} {ex : Bool} {w : Nat → Nat} {fz : Nat} (hid : H[id]? = some (.row ver (wcells n w) fz ex)) (hw : ∀ x, w x < 256) (hs : s < 256) (hb : bar ≤ H.length) (h : Q (.bool (brawlS w s)) H) :
    WpCall E pure base bar 84 [.ptr id ver 0, .int .u8 s] H Q := by
  rw [call84]
  have hb' := bar_ok (pure := pure) hb
  simp [go_sem, WpFun, c84] at hb' ⊢
  refine k67 hs hb' ?_
  have hl := bits_len s
  simp [go_sem, isL.out.len]
  refine l84 hid hw hs isL.out (fun x hx => bits_lt hx) (by omega) (bitsOf s).length 0 (by omega) ?_ ?_
  · intro he
    simp only [List.drop_zero] at he
    simp [go_sem]
    rw [show brawlS w s = false from he] at h; exact h
  · intro he
    simp only [List.drop_zero] at he
    simp [go_sem]
    rw [show brawlS w s = true from he] at h; exact h
end Go.Proofs.Ythoogegclpiefaa.Code
end
section
namespace Go.Proofs.Ythoogegclpiefaa.Code
open Go Go.Ab
variable {pure : Bool} {base bar : Nat} {H : Heap} {Q : AV → Heap → Prop}
theorem shl_i64 {n : Nat} (hn : n < 62) : abin .shl (.int .i64 1) (.int .i64 (n : Int)) = some (.int .i64 ((pw n : Nat) : Int)) := by
  have h2 : (2 : Nat) ^ n < 9223372036854775808 := Nat.lt_of_lt_of_le (Nat.pow_lt_pow_right (by decide) hn) (by decide)
  simp only [abin]
  rw [if_neg (by omega), Int.toNat_natCast, show min n IntKind.i64.bits = n from Nat.min_eq_left (by simp [IntKind.bits]; omega)]
  rw [show (1 : Int) * 2 ^ n = ((2 ^ n : Nat) : Int) by simp, i64_nat h2]; rfl
def bestStep (w : Nat → Nat) (best : List Nat) (s : Nat) : List Nat :=
  if best.length ≤ (bitsOf s).length ∧ brawlS w s = true ∧ (best.length < (bitsOf s).length ∨ cmpL (bitsOf s) best < 0) then bitsOf s else best
/-- the first largest brawl -/
def largestS (n : Nat) (w : Nat → Nat) : List Nat := (List.range' 1 (pw n - 1)).foldl (bestStep w) []
theorem pw_le {n : Nat} (hn : n ≤ 8) : pw n ≤ 256 := Nat.pow_le_pow_right (by decide) hn
theorem l77 {id ver n : Nat} {ex : Bool} {w : Nat → Nat} {fz : Nat} (hid : H[id]? = some (.row ver (wcells n w) fz ex)) (hw : ∀ x, w x < 256) (hn : n ≤ 8) (hb : bar ≤ H.length) {R : PQ} :
    ∀ (k s : Nat) (best : List Nat) (bv : AV), s + k = pw n → isL bv best → best.length ≤ 8 →
    (∀ bv', isL bv' ((List.range' s k).foldl (bestStep w) best) → R (.exit 0) [(0, .ptr id ver 0), (3, bv'), (4, .int .i64 (pw n : Nat)), (12, .bool false)] H) →
    Wp E base bar (.loop c77_l0) [(0, .ptr id ver 0), (3, bv), (4, .int .i64 (s : Nat))] H R := by
  intro k
  induction k with
  | zero =>
    intro s best bv hs hv hl h
    obtain rfl : s = pw n := by omega
    rw [wp_round c77_l0.eq_1]
    simp [go_sem, loadN hid, shl_i64 (show n < 62 by omega)]
    exact h bv hv
  | succ k ih =>
    intro s best bv hs hv hl h
    have := pw_le hn
    have h8 : s < 256 := by omega
    have hlt : s < pw n := by omega
    have hbl := bits_len s
    rw [wp_round c77_l0.eq_1]
    simp [go_sem, loadN hid, shl_i64 (show n < 62 by omega), hlt, u8_nat h8]
    refine k67 h8 hb ?_
    simp only [List.range'_succ, List.foldl_cons] at h
    have hst : bestStep w best s = if best.length ≤ (bitsOf s).length ∧ brawlS w s = true ∧ (best.length < (bitsOf s).length ∨ cmpL (bitsOf s) best < 0) then bitsOf s else best := rfl
    simp [go_sem, isL.out.len, hv.len]
    by_cases h1 : best.length ≤ (bitsOf s).length
    · simp [go_sem, h1, u8_nat h8]
      refine k84 hid hw h8 hb ?_
      cases h2 : brawlS w s
      · simp [go_sem, i64_suc (show s < 1000000 by omega)]
        rw [hst, if_neg (by simp [h2])] at h
        exact ih (s + 1) best bv (by omega) hv hl h
      · simp [go_sem, isL.out.len, hv.len]
        by_cases h3 : best.length < (bitsOf s).length
        · simp [go_sem, h3, show ¬ (bitsOf s).length ≤ best.length by omega, i64_suc (show s < 1000000 by omega)]
          rw [hst, if_pos ⟨h1, h2, .inl h3⟩] at h
          exact ih (s + 1) _ _ (by omega) isL.out hbl h
        · simp [go_sem, h3, show (bitsOf s).length ≤ best.length by omega]
          refine k82 isL.out hv (by omega) (by omega) ?_
          simp [go_sem]
          by_cases h4 : cmpL (bitsOf s) best < 0
          · simp [go_sem, h4, i64_suc (show s < 1000000 by omega)]
            rw [hst, if_pos ⟨h1, h2, .inr h4⟩] at h
            exact ih (s + 1) _ _ (by omega) isL.out hbl h
          · simp [go_sem, h4, i64_suc (show s < 1000000 by omega)]
            rw [hst, if_neg (by intro hc; rcases hc.2.2 with h | h <;> contradiction)] at h
            exact ih (s + 1) best bv (by omega) hv hl h
    · simp [go_sem, h1, i64_suc (show s < 1000000 by omega)]
      rw [hst, if_neg (by intro hc; exact h1 hc.1)] at h
      exact ih (s + 1) best bv (by omega) hv hl h
theorem k77 {id ver n : Nat} {ex : Bool} {w : Nat → Nat} {fz : Nat} (hid : H[id]? = some (.row ver (wcells n w) fz ex)) (hw : ∀ x, w x < 256) (hn : n ≤ 8) (hb : bar ≤ H.length) (h : ∀ v, isL v (largestS n w) → Q v H) :
    WpCall E pure base bar 77 [.ptr id ver 0] H Q := by
  rw [call77]
  have hb' := bar_ok (pure := pure) hb
  simp [go_sem, WpFun, c77] at hb' ⊢
  have h1 : 1 ≤ pw n := Nat.one_le_two_pow
  refine l77 hid hw hn hb' (pw n - 1) 1 [] .nils (by omega) .nil (by simp) fun v hv => ?_
  simp [go_sem]
  refine leaveL hv ?_
  simpa using h v hv
end Go.Proofs.Ythoogegclpiefaa.Code
end
section
namespace Go.Proofs.Ythoogegclpiefaa.Code
open Go Go.Ab
variable {pure : Bool} {base bar : Nat} {H : Heap} {Q : AV → Heap → Prop}
theorem natEq {a b : Nat} : ((a : Int) = (b : Int)) ↔ a = b := by omega
theorem natLt {a : Nat} : ((a : Int) < 8) ↔ a < 8 := by omega
/-- b copies a: all forget b -/
def forgetW (w : Nat → Nat) (b k : Nat) : Nat → Nat := fun x => if x < k then clr (w x) (pw b) else w x
theorem forgetW_lt {w : Nat → Nat} {b k : Nat} (hw : ∀ x, w x < 256) : ∀ x, forgetW w b k x < 256 := fun x => by
  unfold forgetW; split
  · exact clr_lt (hw x)
  · exact hw x
def joins (w : Nat → Nat) (b : Nat) (l : List Nat) : Nat → Nat := l.foldl (fun w x => joinW w b x) w
/-- b copies a -/
def takeW (n : Nat) (w : Nat → Nat) (a b : Nat) : Nat → Nat := joins (upd (forgetW w b n) b 0) b (bitsOf (upd (forgetW w b n) b 0 a))
end Go.Proofs.Ythoogegclpiefaa.Code
end
section
namespace Go.Proofs.Ythoogegclpiefaa.Code
open Go Go.Ab
variable {pure : Bool} {base bar : Nat} {H : Heap} {Q : AV → Heap → Prop}
end Go.Proofs.Ythoogegclpiefaa.Code
end
section
namespace Go.Proofs.Ythoogegclpiefaa.Code
open Go Go.Ab
variable {pure : Bool} {base bar : Nat} {H : Heap} {Q : AV → Heap → Prop}
/-- two blocks: the result's, and the house's under construction -/
def HB (H : Heap) (n : Nat) (v : AV) : Heap := H ++ [.row 0 [.int .i64 0, .nils] 0 true, .row 0 [.int .i64 (n : Int), v] 0 true]
theorem HB_len {n : Nat} {v : AV} : (HB H n v).length = H.length + 2 := by simp [HB]
theorem HB_get {n : Nat} {v : AV} : (HB H n v)[H.length + 1]? = some (.row 0 [.int .i64 (n : Int), v] 0 true) := by simp [HB, own_get]
theorem HB_get0 {n : Nat} {v : AV} : (HB H n v)[H.length]? = some (.row 0 [.int .i64 0, .nils] 0 true) := by simp [HB, own_get0]
theorem HB_old {n i : Nat} {v : AV} {b : Blk} (h : H[i]? = some b) : (HB H n v)[i]? = some b := old_get h
theorem HB_set {n : Nat} {v v' : AV} : (HB H n v).set (H.length + 1) (.row 0 [.int .i64 (n : Int), v'] 0 true) = HB H n v' := by simp [HB, own_set]
/-- those with greater numbers -/
def above (a : Nat) (l : List Nat) : List ZZ := (l.filter fun b => decide (a < b)).map fun (b : Nat) => ((a : Int), (b : Int))
theorem above_len {a : Nat} {l : List Nat} : (above a l).length ≤ l.length := by simp [above, List.length_filter_le]
theorem above_pos {a x : Nat} {r : List Nat} (h : a < x) : above a (x :: r) = ((a : Int), (x : Int)) :: above a r := by simp [above, h]
theorem above_neg {a x : Nat} {r : List Nat} (h : ¬ a < x) : above a (x :: r) = above a r := by simp [above, h]
/-- the quarrels of a workroom -/
def houseS (n : Nat) (w : Nat → Nat) : List ZZ := (List.range n).flatMap fun a => above a (bitsOf (w a))
theorem grow_slot {cells : List AV} {H0 : Heap} {v : AV} (g : Grow 2 cells H0 v H) : v.isTup = false ∧ v.cells = [v] := by
  rcases g with ⟨_, rfl, _⟩ | ⟨_, _, _, _, rfl, _⟩ <;> exact ⟨rfl, rfl⟩
theorem l71a {id n a : Nat} {H0 : Heap} {lv : AV} {l : List Nat} (hv : isL lv l) (hl : l.length ≤ 8) (hbar : bar ≤ H0.length) {R : PQ} :
    ∀ (k j : Nat), j + k = l.length → ∀ (done : List ZZ) (v : AV) (Hc : Heap), done.length ≤ 1000 + j → Grow 2 (prs done) (HB H0 n v) v Hc →
    (∀ v' Hc', Grow 2 (prs (done ++ above a (l.drop j))) (HB H0 n v') v' Hc' → R (.exit 2) [(0, .ptr id 0 0), (2, .ptr H0.length 0 0), (3, .ptr (H0.length + 1) 0 0), (15, .int .i64 (n : Nat)), (16, .int .i64 (a : Nat)), (4, .int .i64 (a : Nat)), (25, lv), (26, .int .i64 (l.length : Nat)), (27, .int .i64 (l.length : Nat)), (28, .bool false)] Hc') →
    Wp E H0.length bar (.loop c71_l0) [(0, .ptr id 0 0), (2, .ptr H0.length 0 0), (3, .ptr (H0.length + 1) 0 0), (15, .int .i64 (n : Nat)), (16, .int .i64 (a : Nat)), (4, .int .i64 (a : Nat)), (25, lv), (26, .int .i64 (l.length : Nat)), (27, .int .i64 (j : Nat))] Hc R := by
  intro k
  induction k with
  | zero =>
    intro j hj done v Hc hd g h
    obtain rfl : j = l.length := by omega
    rw [wp_round c71_l0.eq_1]
    simp [go_sem]
    rw [List.drop_length] at h
    exact h v Hc (by simpa [above] using g)
  | succ k ih =>
    intro j hj done v Hc hd g h
    have hlt : j < l.length := by omega
    rw [wp_round c71_l0.eq_1]
    rw [List.drop_eq_getElem_cons hlt] at h
    simp [go_sem, hlt, hv.ix hlt]
    by_cases h1 : a < l[j]
    · rw [above_pos h1] at h
      simp [go_sem, h1, aload_ptr (g.get HB_get), aop, chunks]
      refine g.pair (p := ((a : Int), ((l[j] : Nat) : Int))) (by rw [HB_len]; omega) (by rw [HB_len]; omega) (by omega) fun v' H' tc g' => ?_
      obtain ⟨s1, s2⟩ := grow_slot g'
      simp [go_sem]
      rw [storeWp_ptr (size := 1) (g'.get HB_get) s1 (by rw [s2]; rfl) (by omega) (by simp) (by omega) (.inl (by omega))]
      simp [go_sem, s2, i64_suc (show j < 1000000 by omega)]
      have g2 := g'.set (i := H0.length + 1) (b := .row 0 [.int .i64 (n : Int), v'] 0 true) (by rw [HB_len]; omega)
      rw [HB_set] at g2
      refine ih (j + 1) (by omega) _ v' _ (by simp; omega) g2 ?_
      simpa using h
    · rw [above_neg h1] at h
      simp [go_sem, h1, i64_suc (show j < 1000000 by omega)]
      exact ih (j + 1) (by omega) _ v Hc (by omega) g h
theorem l71b {id n : Nat} {ex : Bool} {w : Nat → Nat} {fz : Nat} {H0 : Heap} (hid : H0[id]? = some (.row 0 (wcells n w) fz ex)) (hw : ∀ x, w x < 256) (hn : n ≤ 8) (hbar : bar ≤ H0.length) {R : PQ} :
    ∀ (k a : Nat), a + k = n → ∀ (done : List ZZ) (v : AV) (Hc : Heap), done.length ≤ 100 * a → Grow 2 (prs done) (HB H0 n v) v Hc →
    (∀ v' Hc', Grow 2 (prs (done ++ (List.range' a k).flatMap fun a => above a (bitsOf (w a)))) (HB H0 n v') v' Hc' → R (.exit 0) [(0, .ptr id 0 0), (2, .ptr H0.length 0 0), (3, .ptr (H0.length + 1) 0 0), (15, .int .i64 (n : Nat)), (16, .int .i64 (n : Nat)), (17, .bool false)] Hc') →
    Wp E H0.length bar (.loop c71_l1) [(0, .ptr id 0 0), (2, .ptr H0.length 0 0), (3, .ptr (H0.length + 1) 0 0), (15, .int .i64 (n : Nat)), (16, .int .i64 (a : Nat))] Hc R := by
  intro k
  induction k with
  | zero =>
    intro a ha done v Hc hd g h
    obtain rfl : a = n := by omega
    rw [wp_round c71_l1.eq_1]
    simp [go_sem]
    exact h v Hc (by simpa using g)
  | succ k ih =>
    intro a ha done v Hc hd g h
    have hlt : a < n := by omega
    have hbl := bits_len (w a)
    have hgl := g.len
    rw [HB_len] at hgl
    rw [wp_round c71_l1.eq_1]
    simp only [List.range'_succ, List.flatMap_cons, ← List.append_assoc] at h
    simp [go_sem, hlt, show a < 8 by omega, loadW (g.get (HB_old hid)) (show a < 8 by omega)]
    refine k67 (hw a) (by omega) ?_
    simp [go_sem, isL.out.len]
    refine l71a isL.out hbl hbar (bitsOf (w a)).length 0 (by omega) done v Hc (by omega) g fun v' Hc' g' => ?_
    simp [go_sem, i64_suc (show a < 1000000 by omega)]
    have := above_len (a := a) (l := bitsOf (w a))
    rw [List.drop_zero] at g'
    exact ih (a + 1) (by omega) _ v' Hc' (by simp; omega) g' h
theorem k71 {id n : Nat} {ex : Bool} {w : Nat → Nat} {fz : Nat} (hid : H[id]? = some (.row 0 (wcells n w) fz ex)) (hw : ∀ x, w x < 256) (hn : n ≤ 8) (hb : bar ≤ H.length)
    (h : Q (.agg [.int .i64 (n : Int), outL 2 (prs (houseS n w))]) H) : WpCall E pure base bar 71 [.ptr id 0 0] H Q := by
  rw [call71]
  have hb' := bar_ok (pure := pure) hb
  simp [go_sem, WpFun, c71] at hb' ⊢
  generalize (if pure = true then H.length else bar) = bar' at hb' ⊢
  simp [loadN (old_get hid), go_sem, storeWp, astore, own_get, own_set, hb', show bar' ≤ H.length + 1 by omega]
  refine l71b hid hw hn hb' n 0 (by omega) [] .nils _ (by simp) Grow.nil fun v' Hc' g => ?_
  obtain ⟨s1, s2⟩ := grow_slot g
  simp [go_sem, aload_ptr (g.get HB_get)]
  rw [storeWp_ptr (size := 2) (g.get HB_get0) rfl rfl (by omega) (by simp) hb' (.inl (Nat.le_refl _))]
  have g2 := g.set (i := H.length) (b := .row 0 [.int .i64 (n : Int), v'] 0 true) (by rw [HB_len]; omega)
  have hl2 : ((HB H n v').set H.length (.row 0 [.int .i64 (n : Int), v'] 0 true)).length = H.length + 2 := by simp [HB_len]
  have e2 : (Hc'.set H.length (.row 0 [.int .i64 (n : Int), v'] 0 true))[H.length]? = some (.row 0 [.int .i64 (n : Int), v'] 0 true) := g2.get (by simp [HB, own_set0, own_get0])
  simp [go_sem, aload_ptr e2]
  obtain ⟨H2, f1, f2, f3, f4⟩ := g2.frz (d := 4) (bar := bar') (by decide) ⟨_, prs_length⟩ prs_plain (by rw [hl2]; omega)
  have e3 : H2.take H.length = H := by
    have := congrArg (List.take H.length) f4
    rw [List.take_take, hl2, Nat.min_eq_left (by omega)] at this
    rw [this]; simp [HB, own_set0]
  rw [show 4 + 3 = 7 from rfl] at f1
  simp only [f1]
  have e4 : ([] ++ (List.range' 0 n).flatMap fun a => above a (bitsOf (w a))) = houseS n w := by rw [houseS, List.range_eq_range']; rfl
  rw [e4]
  simp [go_sem, isP.out.top, e3]
  exact h
end Go.Proofs.Ythoogegclpiefaa.Code
end
section
namespace Go.Proofs.Ythoogegclpiefaa.Code
open Go Go.Ab
variable {pure : Bool} {base bar : Nat} {H : Heap} {Q : AV → Heap → Prop}
@[go_sem] theorem aload_fp_agg {s : Nat} {cs : List AV} : aload H ⟨true, s⟩ (.fp (.agg cs)) = if cs.length = s then some (.agg cs) else none := by simp [aload]
theorem leave1_nil {e : Int} : leave 1 base bar [.nilp, .int .i64 e] H = some (.tup [.nilp, .int .i64 e], H.take base) := by
  have h2 : frzAll bar H [.nilp, .int .i64 e] = some ([.nilp, .int .i64 e], H) := rfl
  simp only [leave, h2]
  simp [firstOwn, AV.top.tops, AV.top, tupled]
theorem leave1_ptr {id ver n fz : Nat} {ex : Bool} {w : Nat → Nat} {e : Int} (hid : H[id]? = some (.row ver (wcells n w) fz ex)) (hb : base ≤ id) :
    leave 1 base bar [.ptr id ver 0, .int .i64 e] H = some (.tup [.ptr base ver 0, .int .i64 e], H.take base ++ [.row ver (wcells n w) fz ex]) := by
  have h1 : frzAll bar H (wcells n w) = some (wcells n w, H) := by
    simp only [frzAll, frz.frzs]
    exact plains (d := 6) wcells_plain
  have h2 : frzAll bar H [.ptr id ver 0, .int .i64 e] = some ([.ptr id ver 0, .int .i64 e], H) := rfl
  simp only [leave, h2]
  simp [firstOwn, hb, hid, h1, wcells_tops, movable, AV.top, moveP, tupled]
inductive Opened where
  | err (e : Int)
  | room (w : Nat → Nat)
def openF (n : Int) : (Nat → Nat) → List ZZ → Opened
  | w, [] => .room w
  | w, p :: r => if p.1 < 0 ∨ p.2 < 0 ∨ n ≤ p.1 ∨ n ≤ p.2 then .err 2 else if p.2 ≤ p.1 then .err 7 else if (w p.1.toNat).testBit p.2.toNat = true then .err 6 else openF n (joinW w p.1.toNat p.2.toNat) r
/-- the workroom of a house, or its error -/
def openS (n : Int) (l : List ZZ) : Opened := if within 1 8 n = true then openF n (fun _ => 0) l else .err 1
/-- two blocks: the house that came in, and the workroom -/
def HO (H : Heap) (n : Nat) (q : AV) (w : Nat → Nat) : Heap := H ++ [.row 0 [.int .i64 (n : Int), q] 0 true, .row 0 (wcells n w) 0 true]
theorem HO_len {n : Nat} {q : AV} {w : Nat → Nat} : (HO H n q w).length = H.length + 2 := by simp [HO]
theorem l61 {n : Nat} {q : AV} {l : List ZZ} (hq : isP q l) (hn : n ≤ 8) (hl : l.length < 1000) (hbar : bar ≤ H.length) {R : PQ} :
    ∀ (k i : Nat) (w : Nat → Nat), i + k = l.length → (∀ x, w x < 256) →
    (∀ e H', openF n w (l.drop i) = .err e → H'.take H.length = H → R .ret [(2, .nilp), (3, .int .i64 e)] H') →
    (∀ w', (∀ x, w' x < 256) → openF n w (l.drop i) = .room w' → R (.exit 0) [(1, .ptr H.length 0 0), (4, .ptr (H.length + 1) 0 0), (18, q), (19, .int .i64 (l.length : Nat)), (20, .int .i64 (l.length : Nat)), (21, .bool false)] (HO H n q w')) →
    Wp E H.length bar (.loop c61_l0) [(1, .ptr H.length 0 0), (4, .ptr (H.length + 1) 0 0), (18, q), (19, .int .i64 (l.length : Nat)), (20, .int .i64 (i : Nat))] (HO H n q w) R := by
  intro k
  induction k with
  | zero =>
    intro i w hi hw h1 h2
    obtain rfl : i = l.length := by omega
    rw [wp_round c61_l0.eq_1]
    simp [go_sem]
    rw [List.drop_length] at h2
    exact h2 w hw rfl
  | succ k ih =>
    intro i w hi hw h1 h2
    have hlt : i < l.length := by omega
    rw [wp_round c61_l0.eq_1]
    rw [List.drop_eq_getElem_cons hlt] at h1 h2
    have e0 : ∀ L : List Blk, HO H n q w ++ L = H ++ (.row 0 [.int .i64 (n : Int), q] 0 true :: .row 0 (wcells n w) 0 true :: L) := fun L => by simp [HO]
    simp [go_sem, hlt, hq.ix hlt, HO_len, zc, storeWp, astore, e0, own_get, own_set, show bar ≤ H.length + 2 by omega, aload, aop]
    generalize l[i] = p at h1 h2 ⊢
    obtain ⟨a, b⟩ := p
    simp only [openF] at h1 h2
    by_cases h0 : a < 0 ∨ b < 0 ∨ (n : Int) ≤ a ∨ (n : Int) ≤ b
    · have g1 := h1 2 (H ++ [.row 0 [.int .i64 (n : Int), q] 0 true, .row 0 (wcells n w) 0 true, .row 0 [.int .i64 a, .int .i64 b] 0 true]) (by rw [if_pos h0]) (by simp)
      by_cases h3 : 0 ≤ (if b < a then b else a)
      · have h4 : (n : Int) ≤ (if a < b then b else a) := by split at h3 <;> split <;> omega
        simp [h3, h4, go_sem]
        exact g1
      · simp [h3, go_sem]
        exact g1
    · rw [if_neg h0] at h1 h2
      obtain ⟨a, rfl⟩ := Int.eq_ofNat_of_zero_le (show 0 ≤ a by omega)
      obtain ⟨b, rfl⟩ := Int.eq_ofNat_of_zero_le (show 0 ≤ b by omega)
      have h3 : 0 ≤ (if (b : Int) < a then (b : Int) else a) := by split <;> omega
      have h4 : ¬ (n : Int) ≤ (if (a : Int) < b then (b : Int) else a) := by split <;> omega
      simp only [h3, h4, if_true, if_false]
      have ha : a < 8 := by omega
      have hb : b < 8 := by omega
      simp only [Int.toNat_natCast] at h1 h2 ⊢
      by_cases h5 : b ≤ a
      · have g1 := h1 7 (H ++ [.row 0 [.int .i64 (n : Int), q] 0 true, .row 0 (wcells n w) 0 true, .row 0 [.int .i64 (a : Int), .int .i64 (b : Int)] 0 true]) (by rw [if_pos (by omega)]) (by simp)
        simp [show (b : Int) ≤ a by omega]
        exact g1
      · rw [if_neg (by omega)] at h1 h2
        simp [go_sem, show ¬ (b : Int) ≤ a by omega, natLt, ha, wcells_get ha, k87, hw]
        cases h6 : (w a).testBit b
        · rw [if_neg (by simp [h6])] at h1 h2
          simp [go_sem]
          refine k81 (id := H.length + 1) (n := n) (ex := true) (by simp [own_get]) hw ha hb (by omega) ?_
          simp [go_sem, own_set, hq.top, HO_len, i64_suc (show i < 1000000 by omega)]
          exact ih (i + 1) _ (by omega) (joinW_lt hw ha hb) h1 h2
        · have g1 := h1 6 (H ++ [.row 0 [.int .i64 (n : Int), q] 0 true, .row 0 (wcells n w) 0 true, .row 0 [.int .i64 (a : Int), .int .i64 (b : Int)] 0 true]) (by rw [if_pos h6]) (by simp)
          simp [go_sem]
          exact g1
theorem k61 {n : Int} {q : AV} {l : List ZZ} (hq : isP q l) (hl : l.length < 1000) (hbar : bar ≤ H.length)
    (h1 : ∀ e, openS n l = .err e → Q (.tup [.nilp, .int .i64 e]) H)
    (h2 : ∀ (m : Nat) (w : Nat → Nat), n = m → 1 ≤ m → m ≤ 8 → (∀ x, w x < 256) → openS n l = .room w → Q (.tup [.ptr H.length 0 0, .int .i64 0]) (H ++ [.row 0 (wcells m w) 0 true])) :
    WpCall E false base bar 61 [.agg [.int .i64 n, q]] H Q := by
  rw [call61]
  simp [go_sem, WpFun, c61, hq.frz, aload, own_get0, k79]
  unfold openS at h1 h2
  cases hr : within 1 8 n
  · simp only [hr] at h1
    simp [go_sem, leave1_nil]
    exact h1 1 rfl
  · simp only [hr, if_true] at h1 h2
    have hr' := hr
    simp [within] at hr'
    obtain ⟨n, rfl⟩ := Int.eq_ofNat_of_zero_le (show 0 ≤ n by omega)
    have e0 : (AV.int .i64 (n : Int) :: List.replicate 8 (.int .u8 0)) = wcells n (fun _ => 0) := by simp [wcells]; rfl
    simp [go_sem, hq.len, own_get, own_get0, aload]
    refine l61 hq (by omega) hl hbar l.length 0 (fun _ => 0) (by omega) (fun _ => by decide) ?_ ?_
    · intro e H' he ht
      simp [go_sem, leave1_nil, ht]
      exact h1 e (by simpa using he)
    · intro w' hw' he
      simp [go_sem]
      rw [leave1_ptr (id := H.length + 1) (n := n) (w := w') (fz := 0) (ex := true) (by simp [HO, own_get]) (by omega)]
      simp [go_sem, HO]
      exact h2 n w' rfl (by omega) (by omega) hw' (by simpa using he)
end Go.Proofs.Ythoogegclpiefaa.Code
end
section
namespace Go.Proofs.Ythoogegclpiefaa.Code
open Go Go.Ab
variable {pure : Bool} {base bar : Nat} {H : Heap} {Q : AV → Heap → Prop}
theorem openF_err {n : Int} : ∀ {l : List ZZ} {w : Nat → Nat} {e : Int}, openF n w l = .err e → e ≠ 0
  | [], w, e, h => by simp [openF] at h
  | p :: r, w, e, h => by
    simp only [openF] at h
    split at h
    · cases h; decide
    · split at h
      · cases h; decide
      · split at h
        · cases h; decide
        · exact openF_err h
theorem openS_err {n : Int} {l : List ZZ} {e : Int} (h : openS n l = .err e) : e ≠ 0 := by
  unfold openS at h
  split at h
  · exact openF_err h
  · cases h; decide
theorem k37 {n : Int} {q : AV} {l : List ZZ} (hq : isP q l) (hl : l.length < 1000) (hbar : bar ≤ H.length)
    (h1 : ∀ e, openS n l = .err e → Q (.tup [.nils, .int .i64 e]) H)
    (h2 : ∀ (m : Nat) (w : Nat → Nat), n = m → 1 ≤ m → m ≤ 8 → (∀ x, w x < 256) → openS n l = .room w → ∀ v, isL v (largestS m w) → Q (.tup [v, .int .i64 0]) H) :
    WpCall E pure base bar 37 [.agg [.int .i64 n, q]] H Q := by
  rw [call37]
  have hb' := bar_ok (pure := pure) hbar
  simp [go_sem, WpFun, c37, hq.frz, aload] at hb' ⊢
  refine k61 hq hl (by simp; omega) ?_ ?_
  · intro e he
    simp [go_sem, openS_err he]
    exact h1 e he
  · intro m w hm hm1 hm8 hw he
    simp [go_sem]
    refine k77 (id := H.length + 1) (n := m) (w := w) (fz := 0) (ex := true) (by simp [own_get]) hw hm8 (by simp; omega) fun v hv => ?_
    simp [go_sem, hv.frz, hv.top]
    exact h2 m w hm hm1 hm8 hw he v hv
end Go.Proofs.Ythoogegclpiefaa.Code
end
section
namespace Go.Proofs.Ythoogegclpiefaa.Code
open Go Go.Ab
variable {pure : Bool} {base bar : Nat} {H : Heap} {Q : AV → Heap → Prop}
/-- do two quarrel in a list -/
def qin (l : List ZZ) (a b : Int) : Bool := l.any fun p => (p.1 == a && p.2 == b) || (p.1 == b && p.2 == a)
/-- the masks say who quarrels -/
def Tells (w : Nat → Nat) (l : List ZZ) : Prop := ∀ x y : Nat, x < 8 → y < 8 → (w x).testBit y = qin l x y
theorem joinW_bit {w : Nat → Nat} {a b x y : Nat} (hab : a ≠ b) : (joinW w a b x).testBit y = ((w x).testBit y || (decide (x = a) && decide (y = b)) || (decide (x = b) && decide (y = a))) := by
  unfold joinW upd
  by_cases h1 : x = b
  · subst h1
    simp [testBit_bor, testBit_pw, Ne.symm hab, eq_comm]
  · by_cases h2 : x = a
    · subst h2; simp [testBit_bor, testBit_pw, h1, eq_comm]
    · simp [h1, h2]
theorem Tells.step {w : Nat → Nat} {l : List ZZ} {a b : Nat} (h : Tells w l) (hab : a ≠ b) : Tells (joinW w a b) (l ++ [((a : Int), (b : Int))]) := fun x y hx hy => by
  rw [joinW_bit hab, h x y hx hy]
  simp only [qin, List.any_append, List.any_cons, List.any_nil, Bool.or_false, Bool.or_assoc]
  congr 1
  have e : ∀ {u v : Nat}, ((u : Int) == (v : Int)) = decide (v = u) := fun {u v} => by
    by_cases h : u = v
    · subst h; simp
    · have : ¬ v = u := fun hc => h hc.symm
      simp [h, this]
      omega
  simp only [e]
  rw [Bool.and_comm (decide (x = b))]
/-- the block of a house that came in -/
def HI (H : Heap) (n : Int) (q : AV) : Heap := H ++ [.row 0 [.int .i64 n, q] 0 true]
theorem HI_get {n : Int} {q : AV} : (HI H n q)[H.length]? = some (.row 0 [.int .i64 n, q] 0 true) := by simp [HI, own_get0]
end Go.Proofs.Ythoogegclpiefaa.Code
end
section
namespace Go.Proofs.Ythoogegclpiefaa.Code
open Go Go.Ab
variable {pure : Bool} {base bar : Nat} {H : Heap} {Q : AV → Heap → Prop}
/-- in how many pairs a number is -/
def degF (l : List ZZ) (x : Nat) : Nat := (l.filter fun p => p.1 == (x : Int) || p.2 == (x : Int)).length
theorem degF_step {l : List ZZ} {a b : Nat} (hab : a ≠ b) : degF (l ++ [((a : Int), (b : Int))]) = upd (upd (degF l) a (degF l a + 1)) b (upd (degF l) a (degF l a + 1) b + 1) := by
  funext x
  have e : ∀ {u v : Nat}, ((u : Int) == (v : Int)) = decide (v = u) := fun {u v} => by
    by_cases h : u = v
    · subst h; simp
    · have : ¬ v = u := fun hc => h hc.symm
      simp [this]; omega
  simp only [degF, upd, List.filter_append, List.length_append, List.filter_cons, List.filter_nil, e]
  by_cases h1 : x = b
  · subst h1; simp [Ne.symm hab]
  · by_cases h2 : x = a
    · subst h2; simp [h1]
    · simp [h1, h2]
end Go.Proofs.Ythoogegclpiefaa.Code
end
section
namespace Go.Proofs.Ythoogegclpiefaa.Code
open Go Go.Ab
variable {pure : Bool} {base bar : Nat} {H : Heap} {Q : AV → Heap → Prop}
end Go.Proofs.Ythoogegclpiefaa.Code
end
section
namespace Go.Proofs.Ythoogegclpiefaa.Code
open Go Go.Ab
variable {pure : Bool} {base bar : Nat} {H : Heap} {Q : AV → Heap → Prop}
/-- what a call found, and its own copy of the house, are as they were -/
def Pre (H : Heap) (n : Int) (q : AV) (Hc : Heap) : Prop := H.length + 1 ≤ Hc.length ∧ ∀ j, j < H.length + 1 → Hc[j]? = (HI H n q)[j]?
theorem Pre.get {n : Int} {q : AV} {Hc : Heap} (h : Pre H n q Hc) : Hc[H.length]? = some (.row 0 [.int .i64 n, q] 0 true) := by
  rw [h.2 _ (by omega), HI_get]
theorem Pre.n {n : Int} {q : AV} {Hc : Heap} (h : Pre H n q Hc) {s : Nat} : aload Hc ⟨false, s⟩ (.ptr H.length 0 0) = some (.int .i64 n) := by rw [aload_ptr h.get]; rfl
theorem Pre.q {n : Int} {q : AV} {Hc : Heap} (h : Pre H n q Hc) {s : Nat} : aload Hc ⟨false, s⟩ (.ptr H.length 0 1) = some q := by rw [aload_ptr h.get]; rfl
theorem Pre.h {n : Int} {q : AV} {Hc : Heap} (h : Pre H n q Hc) : aload Hc ⟨true, 2⟩ (.ptr H.length 0 0) = some (.agg [.int .i64 n, q]) := by rw [aload_ptr h.get]; rfl
theorem Pre.take {n : Int} {q : AV} {Hc : Heap} (h : Pre H n q Hc) : Hc.take H.length = H := by
  apply List.ext_getElem?
  intro j
  rw [List.getElem?_take]
  by_cases hj : j < H.length
  · rw [if_pos hj, h.2 j (by omega)]
    simp [HI, List.getElem?_append_left hj]
  · rw [if_neg hj, List.getElem?_eq_none (by omega)]
theorem Pre.next {n : Int} {q : AV} {Hc Hd : Heap} (h : Pre H n q Hc) (hl : Hc.length ≤ Hd.length) (hs : ∀ j, j < H.length + 1 → Hd[j]? = Hc[j]?) : Pre H n q Hd :=
  ⟨by have := h.1; omega, fun j hj => (hs j hj).trans (h.2 j hj)⟩
end Go.Proofs.Ythoogegclpiefaa.Code
end
section
namespace Go.Proofs.Ythoogegclpiefaa.Code
open Go Go.Ab
variable {pure : Bool} {base bar : Nat} {H : Heap} {Q : AV → Heap → Prop}
theorem isLL.ix0 {v : AV} {l : List Nat} {r : List (List Nat)} (h : isLL v (l :: r)) : ∃ u, isL u l ∧ ∀ (H : Heap) (k : IntKind) (K : AV → Heap → List Nat → Prop), ixaSWp 1 (some v) (some (.int k 0)) H K = K (.fp u) H [] := by
  rcases h with ⟨_, he⟩ | ⟨ex, vs, rfl, ha⟩
  · cases he
  · cases vs with
    | nil => exact ha.elim
    | cons u us =>
      refine ⟨u, ha.1, fun H k K => ?_⟩
      rw [ixaSWp_lst]
      simp [valWp_some]
end Go.Proofs.Ythoogegclpiefaa.Code
end
section
namespace Go.Proofs.Ythoogegclpiefaa.Code
open Go Go.Ab
variable {pure : Bool} {base bar : Nat} {H : Heap} {Q : AV → Heap → Prop}
end Go.Proofs.Ythoogegclpiefaa.Code
end
section
namespace Go.Proofs.Ythoogegclpiefaa.Code
open Go Go.Ab
theorem bits_bor : ∀ s, s < 256 → ∀ b, b < 8 → s.testBit b = false → (bitsOf (bor s (pw b))).length = (bitsOf s).length + 1 := by decide +kernel
theorem qin_sym {l : List ZZ} {a b : Int} : qin l a b = qin l b a := by
  unfold qin
  congr 1
  funext p
  exact Bool.or_comm ..
theorem openF_often {n : Nat} (hn : n ≤ 8) : ∀ (l done : List ZZ) (w w' : Nat → Nat), (∀ x, w x < 256) → Tells w done → (∀ x, x < 8 → (bitsOf (w x)).length = degF done x) → openF n w l = .room w' →
    (∀ x, w' x < 256) ∧ Tells w' (done ++ l) ∧ ∀ x, x < 8 → (bitsOf (w' x)).length = degF (done ++ l) x
  | [], done, w, w', hw, ht, hd, h => by
    simp only [openF, Opened.room.injEq] at h
    subst h
    simpa using ⟨hw, ht, hd⟩
  | (a, b) :: r, done, w, w', hw, ht, hd, h => by
    simp only [openF] at h
    split at h
    · cases h
    rename_i h1
    split at h
    · cases h
    rename_i h2
    split at h
    · cases h
    rename_i h3
    obtain ⟨a, rfl⟩ := Int.eq_ofNat_of_zero_le (show 0 ≤ a by omega)
    obtain ⟨b, rfl⟩ := Int.eq_ofNat_of_zero_le (show 0 ≤ b by omega)
    simp only [Int.toNat_natCast, Bool.not_eq_true] at h3 h
    have ha : a < 8 := by omega
    have hb : b < 8 := by omega
    have hab : a ≠ b := by omega
    have h4 : (w b).testBit a = false := by
      rw [ht b a hb ha, qin_sym, ← ht a b ha hb]; exact h3
    have := openF_often hn r (done ++ [((a : Int), (b : Int))]) (joinW w a b) w' (joinW_lt hw ha hb) (ht.step hab) (fun x hx => ?_) h
    · simpa using this
    · rw [degF_step hab]
      unfold joinW
      unfold upd
      by_cases hxb : x = b
      · subst hxb
        simp only [if_true, Ne.symm hab, if_false]
        rw [bits_bor _ (hw x) _ ha h4, hd x hx]
      · by_cases hxa : x = a
        · subst hxa
          simp only [if_true, hab, if_false]
          rw [bits_bor _ (hw x) _ hb h3, hd x hx]
        · simp only [hxa, hxb, if_false]
          exact hd x hx
theorem openS_facts {n : Int} {m : Nat} {l : List ZZ} {w : Nat → Nat} (hm : n = m) (h : openS n l = .room w) : m ≤ 8 ∧ 1 ≤ m ∧ (∀ x, w x < 256) ∧ Tells w l ∧ (∀ x, x < 8 → (bitsOf (w x)).length = degF l x) ∧ openF m (fun _ => 0) l = .room w := by
  subst hm
  unfold openS at h
  split at h
  · rename_i hr
    simp [within] at hr
    have := openF_often (n := m) (by omega) l [] (fun _ => 0) w (fun _ => by decide) (fun x y _ _ => by simp [qin]) (fun x _ => by simp [degF, bitsOf]) h
    rw [List.nil_append] at this
    exact ⟨by omega, by omega, this.1, this.2.1, this.2.2, h⟩
  · cases h
end Go.Proofs.Ythoogegclpiefaa.Code
end
section
namespace Go.Proofs.Ythoogegclpiefaa.Code
open Go Go.Ab
theorem bits_mem {s x : Nat} : x ∈ bitsOf s ↔ x < 8 ∧ s.testBit x = true := by simp [bitsOf]
theorem bits_pairwise (s : Nat) : (bitsOf s).Pairwise (· < ·) := by
  unfold bitsOf
  exact List.Pairwise.filter _ (by decide)
end Go.Proofs.Ythoogegclpiefaa.Code
end
section
namespace Go.Proofs.Ythoogegclpiefaa.Code
open Go Go.Ab
theorem cmp3_zero {a b : Nat} : cmp3 a b = 0 ↔ a = b := by
  unfold cmp3; split
  · omega
  · split <;> omega
theorem cmp3_neg {a b : Nat} : cmp3 a b < 0 ↔ a < b := by
  unfold cmp3; split
  · omega
  · split <;> omega
theorem cmpL_trans : ∀ {x y z : List Nat}, cmpL x y < 0 → cmpL y z < 0 → cmpL x z < 0
  | [], [], _, h, _ => by simp [cmpL] at h
  | [], _ :: _, [], _, h => by simp [cmpL] at h
  | [], _ :: _, _ :: _, _, _ => by simp [cmpL]
  | _ :: _, [], _, h, _ => by simp [cmpL] at h
  | _ :: _, _ :: _, [], _, h => by simp [cmpL] at h
  | a :: x, b :: y, c :: z, h, k => by
    simp only [cmpL] at h k ⊢
    split at h
    · rename_i h1
      have := cmp3_zero.1 h1
      subst this
      split at k
      · rename_i h2
        rw [if_pos h2]; exact cmpL_trans h k
      · rename_i h2
        rw [if_neg h2]; exact k
    · have hab := cmp3_neg.1 h
      split at k
      · rename_i h2
        have := cmp3_zero.1 h2
        subst this
        rw [if_neg (by rw [cmp3_zero]; omega)]; exact h
      · have hbc := cmp3_neg.1 k
        rw [if_neg (by rw [cmp3_zero]; omega)]
        exact cmp3_neg.2 (by omega)
/-- a list is better than another one: longer, or as long and smaller -/
def better (x y : List Nat) : Prop := y.length < x.length ∨ x.length = y.length ∧ cmpL x y < 0
theorem better.trans {x y z : List Nat} (h : better x y) (k : better y z) : better x z := by
  rcases h with h | ⟨h1, h2⟩ <;> rcases k with k | ⟨k1, k2⟩
  · exact .inl (by omega)
  · exact .inl (by omega)
  · exact .inl (by omega)
  · exact .inr ⟨by omega, cmpL_trans h2 k2⟩
theorem bestStep_eq {w : Nat → Nat} {b : List Nat} {s : Nat} : (brawlS w s = true ∧ better (bitsOf s) b ∧ bestStep w b s = bitsOf s) ∨ (¬ (brawlS w s = true ∧ better (bitsOf s) b) ∧ bestStep w b s = b) := by
  unfold bestStep better
  split
  · rename_i h
    refine .inl ⟨h.2.1, ?_, rfl⟩
    rcases h.2.2 with h3 | h3
    · exact .inl h3
    · by_cases h4 : b.length < (bitsOf s).length
      · exact .inl h4
      · exact .inr ⟨by omega, h3⟩
  · rename_i h
    refine .inr ⟨fun hc => h ⟨?_, hc.1, ?_⟩, rfl⟩
    · rcases hc.2 with h3 | ⟨h3, _⟩ <;> omega
    · rcases hc.2 with h3 | ⟨_, h3⟩
      · exact .inl h3
      · exact .inr h3
theorem fold_best {w : Nat → Nat} : ∀ (M : List Nat) (b : List Nat), (M.foldl (bestStep w) b = b ∨ ∃ s ∈ M, brawlS w s = true ∧ M.foldl (bestStep w) b = bitsOf s) ∧
    (∀ s ∈ M, brawlS w s = true → ¬ better (bitsOf s) (M.foldl (bestStep w) b)) ∧ (M.foldl (bestStep w) b = b ∨ better (M.foldl (bestStep w) b) b)
  | [], b => ⟨.inl rfl, fun s hs => by simp at hs, .inl rfl⟩
  | s :: M, b => by
    obtain ⟨h1, h2, h3⟩ := fold_best M (bestStep w b s)
    simp only [List.foldl_cons]
    rcases bestStep_eq (w := w) (b := b) (s := s) with ⟨g1, g2, g3⟩ | ⟨g1, g2⟩
    · rw [g3] at h1 h2 h3 ⊢
      refine ⟨?_, fun t ht hb hc => ?_, ?_⟩
      · rcases h1 with h1 | ⟨t, ht, hb, he⟩
        · exact .inr ⟨s, List.mem_cons_self .., g1, h1⟩
        · exact .inr ⟨t, List.mem_cons_of_mem _ ht, hb, he⟩
      · rcases List.mem_cons.1 ht with rfl | ht
        · rcases h3 with h3 | h3
          · rw [h3] at hc
            rcases hc with hc | ⟨_, hc⟩
            · omega
            · have : ∀ x, cmpL x x = 0 := fun x => by
                induction x with
                | nil => rfl
                | cons a r ih => simp only [cmpL]; rw [if_pos (cmp3_zero.2 rfl)]; exact ih
              rw [this] at hc; omega
          · have := hc.trans h3
            rcases this with hc | ⟨_, hc⟩
            · omega
            · have : ∀ x, cmpL x x = 0 := fun x => by
                induction x with
                | nil => rfl
                | cons a r ih => simp only [cmpL]; rw [if_pos (cmp3_zero.2 rfl)]; exact ih
              rw [this] at hc; omega
        · exact h2 t ht hb hc
      · rcases h3 with h3 | h3
        · rw [h3]; exact .inr g2
        · exact .inr (h3.trans g2)
    · rw [g2] at h1 h2 h3 ⊢
      refine ⟨?_, fun t ht hb hc => ?_, h3⟩
      · rcases h1 with h1 | ⟨t, ht, hb, he⟩
        · exact .inl h1
        · exact .inr ⟨t, List.mem_cons_of_mem _ ht, hb, he⟩
      · rcases List.mem_cons.1 ht with rfl | ht
        · rcases h3 with h3 | h3
          · rw [h3] at hc; exact g1 ⟨hb, hc⟩
          · exact g1 ⟨hb, hc.trans h3⟩
        · exact h2 t ht hb hc
end Go.Proofs.Ythoogegclpiefaa.Code
end
section
namespace Go.Proofs.Ythoogegclpiefaa.Code
open Go Go.Ab
variable {pure : Bool} {base bar : Nat} {H : Heap} {Q : AV → Heap → Prop}
/-- the sets of those in each room -/
structure RoomsOK (b : List Nat) (s : Nat → Nat) : Prop where
  lt : ∀ r, s r < 256
  bit : ∀ r i, (s r).testBit i = decide (b[i]? = some r)
theorem RoomsOK.nil : RoomsOK [] (fun _ => 0) := ⟨fun _ => by decide, fun r i => by simp⟩
end Go.Proofs.Ythoogegclpiefaa.Code
end
section
namespace Go.Proofs.Ythoogegclpiefaa.Code
open Go Go.Ab
variable {pure : Bool} {base bar : Nat} {H : Heap} {Q : AV → Heap → Prop}
/-- a value is a list that is not nil, or nil -/
def isO (v : AV) : Option (List Nat) → Prop
  | none => v = .nils
  | some b => ∃ ex, v = .lst 1 ex (nats b)
theorem isO.l {v : AV} {b : List Nat} (h : isO v (some b)) : isL v b := .inr h
end Go.Proofs.Ythoogegclpiefaa.Code
end
section
namespace Go.Proofs.Ythoogegclpiefaa.Code
open Go Go.Ab
variable {pure : Bool} {base bar : Nat} {H : Heap} {Q : AV → Heap → Prop}
end Go.Proofs.Ythoogegclpiefaa.Code
end
section
namespace Go.Proofs.Ythoogegclpiefaa.Code
open Go Go.Ab
variable {pure : Bool} {base bar : Nat} {H : Heap} {Q : AV → Heap → Prop}
end Go.Proofs.Ythoogegclpiefaa.Code
end
section
namespace Go.Proofs.Ythoogegclpiefaa.Code
open Go Go.Ab
theorem filter_range_cut {p : Nat → Bool} {m : Nat} : ∀ (d : Nat), (∀ c, m ≤ c → c < m + d → p c = false) → (List.range (m + d)).filter p = (List.range m).filter p
  | 0, _ => rfl
  | d + 1, h => by
    rw [← Nat.add_assoc, List.range_succ, List.filter_append, filter_range_cut d fun c h1 h2 => h c h1 (by omega)]
    have : [m + d].filter p = [] := by simp [h (m + d) (by omega) (by omega)]
    rw [this, List.append_nil]
end Go.Proofs.Ythoogegclpiefaa.Code
end
section
namespace Go.Proofs.Ythoogegclpiefaa.Code
open Go Go.Ab
variable {pure : Bool} {base bar : Nat} {H : Heap} {Q : AV → Heap → Prop}
end Go.Proofs.Ythoogegclpiefaa.Code
end
section
namespace Go.Proofs.Ythoogegclpiefaa.Code
open Go Go.Ab
/-- a workroom: who quarrels with whom, both ways, nobody with himself, only those who are there -/
structure RoomW (n : Nat) (w : Nat → Nat) : Prop where
  lt : ∀ x, w x < 256
  sym : ∀ x y, (w x).testBit y = (w y).testBit x
  irr : ∀ x, (w x).testBit x = false
  dom : ∀ x y, (w x).testBit y = true → x < n ∧ y < n
theorem RoomW.zero {n : Nat} : RoomW n (fun _ => 0) := ⟨fun _ => by decide, fun _ _ => by simp, fun _ => by simp, fun x y h => by simp at h⟩
theorem RoomW.join {n a b : Nat} {w : Nat → Nat} (h : RoomW n w) (hn : n ≤ 8) (ha : a < n) (hb : b < n) (hab : a ≠ b) : RoomW n (joinW w a b) := by
  refine ⟨joinW_lt h.lt (by omega) (by omega), fun x y => ?_, fun x => ?_, fun x y hxy => ?_⟩
  · rw [joinW_bit hab, joinW_bit hab, h.sym x y]
    by_cases h1 : x = a <;> by_cases h2 : y = b <;> by_cases h3 : x = b <;> by_cases h4 : y = a <;> simp [h1, h2, h3, h4]
  · rw [joinW_bit hab, h.irr]
    by_cases h1 : x = a <;> by_cases h3 : x = b <;> simp [h1, h3] <;> omega
  · rw [joinW_bit hab] at hxy
    simp only [Bool.or_eq_true, Bool.and_eq_true, decide_eq_true_eq] at hxy
    rcases hxy with (hxy | ⟨h1, h2⟩) | ⟨h1, h2⟩
    · exact h.dom x y hxy
    · omega
    · omega
theorem openF_room {n : Nat} (hn : n ≤ 8) : ∀ {l : List ZZ} {w w' : Nat → Nat}, RoomW n w → openF n w l = .room w' → RoomW n w'
  | [], w, w', hw, h => by
    simp only [openF, Opened.room.injEq] at h
    subst h; exact hw
  | (a, b) :: r, w, w', hw, h => by
    simp only [openF] at h
    split at h
    · cases h
    rename_i h1
    split at h
    · cases h
    rename_i h2
    split at h
    · cases h
    obtain ⟨a, rfl⟩ := Int.eq_ofNat_of_zero_le (show 0 ≤ a by omega)
    obtain ⟨b, rfl⟩ := Int.eq_ofNat_of_zero_le (show 0 ≤ b by omega)
    exact openF_room hn (hw.join hn (by simp; omega) (by simp; omega) (by simp; omega)) h
theorem openS_room {n : Int} {m : Nat} {l : List ZZ} {w : Nat → Nat} (hm : n = m) (h : openS n l = .room w) : RoomW m w := by
  obtain ⟨h1, h2, h3, h4, h5, h6⟩ := openS_facts hm h
  exact openF_room h1 .zero h6
theorem rows_eq {n : Nat} {w w' : Nat → Nat} (h : ∀ x y, (w x).testBit y = (w' x).testBit y) : w = w' := by
  funext x
  exact Nat.eq_of_testBit_eq (h x)
/-! a copy -/
theorem joins_bit {b : Nat} : ∀ {l : List Nat} {w : Nat → Nat} {x y : Nat}, (∀ z ∈ l, z ≠ b) → (joins w b l x).testBit y = ((w x).testBit y || (decide (x = b) && decide (y ∈ l)) || (decide (y = b) && decide (x ∈ l)))
  | [], w, x, y, _ => by simp [joins]
  | z :: r, w, x, y, h => by
    have hz := h z (List.mem_cons_self ..)
    have e : joins w b (z :: r) = joins (joinW w b z) b r := rfl
    rw [e, joins_bit fun u hu => h u (List.mem_cons_of_mem _ hu), joinW_bit (Ne.symm hz)]
    by_cases h1 : x = b
    · subst h1
      by_cases h2 : y = x
      · subst h2
        simp [hz, Ne.symm hz]
      · by_cases h3 : y = z
        · subst h3; simp
        · simp [h2, h3, Ne.symm hz]
    · by_cases h2 : y = b
      · subst h2
        by_cases h3 : x = z
        · subst h3; simp
        · simp [h1, h3, Ne.symm hz]
      · simp [h1, h2]
theorem joins_lt {b : Nat} (hb : b < 8) : ∀ {l : List Nat} {w : Nat → Nat}, (∀ x, w x < 256) → (∀ z ∈ l, z < 8) → ∀ x, joins w b l x < 256
  | [], w, hw, _, x => hw x
  | z :: r, w, hw, h, x => joins_lt hb (l := r) (joinW_lt hw hb (h z (List.mem_cons_self ..))) (fun u hu => h u (List.mem_cons_of_mem _ hu)) x
theorem take_bit {n a b : Nat} {w : Nat → Nat} (h : RoomW n w) (hn : n ≤ 8) (hab : a ≠ b) (x y : Nat) :
    (takeW n w a b x).testBit y = if x = b then (if y = b then false else (w a).testBit y) else if y = b then (w a).testBit x else (w x).testBit y := by
  have hf : ∀ x, forgetW w b n x < 256 := forgetW_lt h.lt
  have e1 : upd (forgetW w b n) b 0 a = forgetW w b n a := by simp [upd, hab]
  have hfb : ∀ x y, (forgetW w b n x).testBit y = ((w x).testBit y && !decide (y = b)) := fun x y => by
    unfold forgetW
    split
    · rw [testBit_clr (h.lt x), testBit_pw]
      by_cases hy : y = b
      · subst hy; simp
      · simp [hy, Ne.symm hy]
    · rename_i hx
      cases hc : (w x).testBit y
      · simp
      · exact absurd (h.dom x y hc).1 hx
  have hmem : ∀ z, z ∈ bitsOf (forgetW w b n a) ↔ (w a).testBit z = true ∧ z ≠ b := fun z => by
    unfold bitsOf
    rw [List.mem_filter, hfb]
    simp only [List.mem_range, Bool.and_eq_true, Bool.not_eq_true', decide_eq_false_iff_not]
    constructor
    · rintro ⟨_, g⟩; exact g
    · intro g; have := (h.dom a z g.1).2; exact ⟨by omega, g⟩
  unfold takeW
  rw [e1, joins_bit fun z hz => ((hmem z).1 hz).2]
  simp only [hmem]
  unfold upd
  by_cases h1 : x = b
  · subst h1
    by_cases h2 : y = x
    · subst h2; simp
    · simp [h2]
  · by_cases h2 : y = b
    · subst h2
      simp [h1, hfb]
    · simp [h1, h2, hfb]
theorem RoomW.take {n a b : Nat} {w : Nat → Nat} (h : RoomW n w) (hn : n ≤ 8) (ha : a < n) (hb : b < n) (hab : a ≠ b) : RoomW n (takeW n w a b) := by
  refine ⟨fun x => joins_lt (by omega) (upd_lt (forgetW_lt h.lt) (by decide)) (fun z hz => bits_lt hz) x, fun x y => ?_, fun x => ?_, fun x y hxy => ?_⟩
  · rw [take_bit h hn hab, take_bit h hn hab]
    by_cases h1 : x = b <;> by_cases h2 : y = b <;> simp [h1, h2, h.sym x y]
  · rw [take_bit h hn hab]
    by_cases h1 : x = b <;> simp [h1, h.irr]
  · rw [take_bit h hn hab] at hxy
    by_cases h1 : x = b
    · subst h1
      by_cases h2 : y = x
      · simp [h2] at hxy
      · simp only [h2, if_true, if_false] at hxy
        exact ⟨hb, (h.dom _ _ hxy).2⟩
    · by_cases h2 : y = b
      · subst h2
        simp only [h1, if_true, if_false] at hxy
        exact ⟨(h.dom _ _ hxy).2, hb⟩
      · simp only [h1, h2, if_false] at hxy
        exact h.dom x y hxy
/-! the house of a workroom, in order -/
theorem above_split {n x : Nat} {p : Nat → Bool} (hx : x < n) : ((List.range n).filter fun y => decide (x < y) && p y) = (List.range' (x + 1) (n - (x + 1))).filter p := by
  have e : List.range n = List.range' 0 (x + 1) ++ List.range' (x + 1) (n - (x + 1)) := by
    have := List.range'_append_1 (s := 0) (m := x + 1) (n := n - (x + 1))
    rw [Nat.zero_add] at this
    rw [this, List.range_eq_range', show x + 1 + (n - (x + 1)) = n by omega]
  rw [e, List.filter_append]
  have e1 : (List.range' 0 (x + 1)).filter (fun y => decide (x < y) && p y) = [] := by
    rw [List.filter_eq_nil_iff]
    intro y hy
    have := List.mem_range'_1.1 hy
    simp; omega
  have e2 : (List.range' (x + 1) (n - (x + 1))).filter (fun y => decide (x < y) && p y) = (List.range' (x + 1) (n - (x + 1))).filter p := by
    apply List.filter_congr
    intro y hy
    have := List.mem_range'_1.1 hy
    simp [show x < y by omega]
  rw [e1, e2, List.nil_append]
/-- pairs in order -/
def enumR (n : Nat) (g : Nat → Nat → Bool) : List ZZ := (List.range n).flatMap fun x => ((List.range' (x + 1) (n - (x + 1))).filter (g x)).map fun (y : Nat) => ((x : Int), (y : Int))
theorem flatMap_congr {α β : Type} {f g : α → List β} : ∀ {l : List α}, (∀ x ∈ l, f x = g x) → l.flatMap f = l.flatMap g
  | [], _ => rfl
  | x :: r, h => by rw [List.flatMap_cons, List.flatMap_cons, h x (List.mem_cons_self ..), flatMap_congr fun y hy => h y (List.mem_cons_of_mem _ hy)]
theorem houseS_enum {n : Nat} {w : Nat → Nat} (h : RoomW n w) (hn : n ≤ 8) : houseS n w = enumR n fun x y => (w x).testBit y := by
  unfold houseS enumR
  apply flatMap_congr
  intro x hx
  have hx := List.mem_range.1 hx
  unfold above bitsOf
  congr 1
  obtain ⟨d, hd⟩ : ∃ d, 8 = n + d := ⟨8 - n, by omega⟩
  rw [List.filter_filter, hd, filter_range_cut d (fun c hc1 hc2 => by
    cases hc : (w x).testBit c
    · simp
    · have := (h.dom x c hc).2; omega), above_split hx]
theorem mem_enum {n : Nat} {g : Nat → Nat → Bool} {p : ZZ} : p ∈ enumR n g ↔ ∃ x y : Nat, x < y ∧ y < n ∧ g x y = true ∧ p = ((x : Int), (y : Int)) := by
  unfold enumR
  simp only [List.mem_flatMap, List.mem_range, List.mem_map, List.mem_filter, List.mem_range'_1]
  constructor
  · rintro ⟨x, hx, y, ⟨⟨h1, h2⟩, h3⟩, rfl⟩
    exact ⟨x, y, by omega, by omega, h3, rfl⟩
  · rintro ⟨x, y, h1, h2, h3, rfl⟩
    exact ⟨x, by omega, y, ⟨⟨by omega, by omega⟩, h3⟩, rfl⟩
theorem enum_nodup {n : Nat} {g : Nat → Nat → Bool} : (enumR n g).Nodup := by
  unfold enumR
  rw [List.Nodup, List.pairwise_flatMap]
  refine ⟨fun x _ => ?_, ?_⟩
  · rw [List.pairwise_map]
    have : (List.range' (x + 1) (n - (x + 1))).Pairwise (· < ·) := List.pairwise_lt_range' ..
    refine (this.filter _).imp fun {a b} hab hc => ?_
    simp only [Prod.mk.injEq] at hc
    omega
  · have : (List.range n).Pairwise (· < ·) := List.pairwise_lt_range
    refine this.imp fun {a b} hab u hu v hv hc => ?_
    simp only [List.mem_map] at hu hv
    obtain ⟨_, _, rfl⟩ := hu
    obtain ⟨_, _, rfl⟩ := hv
    simp only [Prod.mk.injEq] at hc
    omega
theorem openF_ok {n : Nat} (hn : n ≤ 8) : ∀ (l done : List ZZ) (w : Nat → Nat), Tells w done → (∀ p ∈ l, 0 ≤ p.1 ∧ p.1 < p.2 ∧ p.2 < (n : Int)) → l.Nodup → (∀ p ∈ l, p ∉ done) → (∀ p ∈ done, p.1 < p.2) → ∃ w', openF n w l = .room w'
  | [], done, w, _, _, _, _, _ => ⟨w, rfl⟩
  | (a, b) :: r, done, w, ht, hv, hnd, hnot, hdone => by
    obtain ⟨v1, v2, v3⟩ := hv (a, b) (List.mem_cons_self ..)
    simp only at v1 v2 v3
    obtain ⟨a, rfl⟩ := Int.eq_ofNat_of_zero_le v1
    obtain ⟨b, rfl⟩ := Int.eq_ofNat_of_zero_le (show 0 ≤ b by omega)
    have hq : qin done (a : Int) (b : Int) = false := by
      cases hq : qin done (a : Int) (b : Int)
      · rfl
      · simp only [qin, List.any_eq_true, Bool.or_eq_true, Bool.and_eq_true, beq_iff_eq] at hq
        obtain ⟨p, hp, hq⟩ := hq
        rcases hq with ⟨h1, h2⟩ | ⟨h1, h2⟩
        · refine absurd hp (hnot p ?_)
          obtain ⟨p1, p2⟩ := p
          simp only at h1 h2
          subst h1 h2
          exact List.mem_cons_self ..
        · have := hdone p hp
          omega
    rw [← ht a b (by omega) (by omega)] at hq
    simp only [openF]
    rw [if_neg (by omega), if_neg (by omega), Int.toNat_natCast, Int.toNat_natCast, if_neg (by simp [hq])]
    refine openF_ok hn r (done ++ [((a : Int), (b : Int))]) _ (ht.step (by omega)) (fun p hp => hv p (List.mem_cons_of_mem _ hp)) (List.nodup_cons.1 hnd).2 (fun p hp hc => ?_) (fun p hp => ?_)
    · rcases List.mem_append.1 hc with hc | hc
      · exact hnot p (List.mem_cons_of_mem _ hp) hc
      · simp only [List.mem_singleton] at hc
        subst hc
        exact (List.nodup_cons.1 hnd).1 hp
    · rcases List.mem_append.1 hp with hp | hp
      · exact hdone p hp
      · simp only [List.mem_singleton] at hp
        subst hp
        exact v2
theorem qin_house {n : Nat} {w : Nat → Nat} (h : RoomW n w) (hn : n ≤ 8) (x y : Nat) : qin (houseS n w) (x : Int) (y : Int) = (w x).testBit y := by
  rw [houseS_enum h hn, Bool.eq_iff_iff]
  simp only [qin, List.any_eq_true, Bool.or_eq_true, Bool.and_eq_true, beq_iff_eq]
  constructor
  · rintro ⟨p, hp, hq⟩
    obtain ⟨u, v, h1, h2, h3, rfl⟩ := mem_enum.1 hp
    simp only at hq
    rcases hq with ⟨h4, h5⟩ | ⟨h4, h5⟩
    · obtain rfl : u = x := by omega
      obtain rfl : v = y := by omega
      exact h3
    · obtain rfl : u = y := by omega
      obtain rfl : v = x := by omega
      rw [h.sym]; exact h3
  · intro hb
    obtain ⟨d1, d2⟩ := h.dom x y hb
    by_cases hxy : x < y
    · exact ⟨_, mem_enum.2 ⟨x, y, hxy, d2, hb, rfl⟩, .inl ⟨rfl, rfl⟩⟩
    · have hne : x ≠ y := fun hc => by subst hc; rw [h.irr] at hb; cases hb
      exact ⟨_, mem_enum.2 ⟨y, x, by omega, d1, by rw [h.sym]; exact hb, rfl⟩, .inr ⟨rfl, rfl⟩⟩
theorem open_house {n : Nat} {w : Nat → Nat} (h : RoomW n w) (h1 : 1 ≤ n) (hn : n ≤ 8) : openS (n : Int) (houseS n w) = .room w := by
  obtain ⟨w', hw'⟩ := openF_ok hn (houseS n w) [] (fun _ => 0) (fun x y _ _ => by simp [qin]) (fun p hp => by
    rw [houseS_enum h hn] at hp
    obtain ⟨u, v, g1, g2, g3, rfl⟩ := mem_enum.1 hp
    simp only; omega) (by rw [houseS_enum h hn]; exact enum_nodup) (by simp) (by simp)
  have ho : openS (n : Int) (houseS n w) = .room w' := by
    unfold openS
    rw [if_pos (by simp [within]; omega)]
    exact hw'
  have hr := openS_room rfl ho
  obtain ⟨_, _, _, ht, _, _⟩ := openS_facts (m := n) rfl ho
  rw [ho]
  congr 1
  refine rows_eq (n := n) fun x y => ?_
  by_cases hx : x < 8
  · by_cases hy : y < 8
    · rw [ht x y hx hy, qin_house h hn]
    · cases e1 : (w' x).testBit y
      · cases e2 : (w x).testBit y
        · rfl
        · have := (h.dom x y e2).2; omega
      · have := (hr.dom x y e1).2; omega
  · cases e1 : (w' x).testBit y
    · cases e2 : (w x).testBit y
      · rfl
      · have := (h.dom x y e2).1; omega
    · have := (hr.dom x y e1).1; omega
end Go.Proofs.Ythoogegclpiefaa.Code
end
section
namespace Go.Proofs.Ythoogegclpiefaa.Code
open Go Go.Ab
variable {pure : Bool} {base bar : Nat} {H : Heap} {Q : AV → Heap → Prop}
end Go.Proofs.Ythoogegclpiefaa.Code
end
section
namespace Go.Proofs.Ythoogegclpiefaa.Code
open Go Go.Ab
variable {pure : Bool} {base bar : Nat} {H : Heap} {Q : AV → Heap → Prop}
end Go.Proofs.Ythoogegclpiefaa.Code
end
section
namespace Go.Proofs.Ythoogegclpiefaa.Code
open Go Go.Ab
variable {pure : Bool} {base bar : Nat} {H : Heap} {Q : AV → Heap → Prop}
end Go.Proofs.Ythoogegclpiefaa.Code
end
section
namespace Go.Proofs.Ythoogegclpiefaa.Code
open Go Go.Ab
variable {pure : Bool} {base bar : Nat} {H : Heap} {Q : AV → Heap → Prop}
end Go.Proofs.Ythoogegclpiefaa.Code
end
section
namespace Go.Proofs.Ythoogegclpiefaa.Code
open Go Go.Ab
variable {pure : Bool} {base bar : Nat} {H : Heap} {Q : AV → Heap → Prop}
end Go.Proofs.Ythoogegclpiefaa.Code
end
section
namespace Go.Proofs.Ythoogegclpiefaa.Code
open Go Go.Ab
variable {pure : Bool} {base bar : Nat} {H : Heap} {Q : AV → Heap → Prop}
end Go.Proofs.Ythoogegclpiefaa.Code
end
section
namespace Go.Proofs.Ythoogegclpiefaa.Code
open Go Go.Ab
variable {pure : Bool} {base bar : Nat} {H : Heap} {Q : AV → Heap → Prop}
/-! brawls and copies -/
theorem brawl_iff {n s : Nat} {w : Nat → Nat} (h : RoomW n w) (hs : s < 256) : brawlS w s = true ↔ ∀ x y, s.testBit x = true → s.testBit y = true → x ≠ y → (w x).testBit y = true := by
  unfold brawlS
  simp only [List.all_eq_true, beq_iff_eq]
  constructor
  · intro hb x y hx hy hxy
    have hx8 : x < 8 := by
      apply Decidable.byContradiction
      intro hc
      rw [Nat.testBit_lt_two_pow (Nat.lt_of_lt_of_le hs (Nat.pow_le_pow_right (by decide) (Nat.not_lt.1 hc) : 2 ^ 8 ≤ 2 ^ x))] at hx
      cases hx
    have := congrArg (·.testBit y) (hb x (by simp [bitsOf, hx8, hx]))
    simp only [testBit_clr hs, testBit_pw, hy, Bool.true_and, hxy, decide_false, Bool.not_eq_false'] at this
    exact this
  · intro hb x hx
    simp only [bitsOf, List.mem_filter, List.mem_range] at hx
    apply Nat.eq_of_testBit_eq
    intro y
    rw [testBit_clr hs, testBit_pw]
    by_cases hxy : x = y
    · subst hxy; simp [hx.2, h.irr]
    · cases hy : s.testBit y
      · simp [hxy]
      · simp [hxy, hb x y hx.2 hy hxy]
theorem largest_max {n s : Nat} {w : Nat → Nat} (h1 : 1 ≤ s) (h2 : s < pw n) (hb : brawlS w s = true) : (bitsOf s).length ≤ (largestS n w).length := by
  obtain ⟨_, f2, _⟩ := fold_best (w := w) (List.range' 1 (pw n - 1)) []
  have := f2 s (List.mem_range'_1.2 (by omega)) hb
  apply Decidable.byContradiction
  intro hc
  exact this (.inl (by show (largestS n w).length < _; omega))
theorem largest_is {n : Nat} {w : Nat → Nat} : largestS n w = [] ∨ ∃ s, 1 ≤ s ∧ s < pw n ∧ brawlS w s = true ∧ largestS n w = bitsOf s := by
  obtain ⟨f1, _, _⟩ := fold_best (w := w) (List.range' 1 (pw n - 1)) []
  rcases f1 with f1 | ⟨s, hs, hb, he⟩
  · exact .inl f1
  · have := List.mem_range'_1.1 hs
    exact .inr ⟨s, by omega, by omega, hb, he⟩
end Go.Proofs.Ythoogegclpiefaa.Code
end
section
namespace Go.Proofs.Ythoogegclpiefaa.Code
open Go Go.Ab
variable {pure : Bool} {base bar : Nat} {H : Heap} {Q : AV → Heap → Prop}
end Go.Proofs.Ythoogegclpiefaa.Code
end
section
namespace Go.Proofs.Ythoogegclpiefaa.Code
open Go Go.Ab
variable {pure : Bool} {base bar : Nat} {H : Heap} {Q : AV → Heap → Prop}
/-! who quarrels, as 64 cells -/
def gcells (f : Nat → Nat → Bool) : List AV := (List.range 64).map fun i => .bool (f (i / 8) (i % 8))
def upd2 (f : Nat → Nat → Bool) (a b : Nat) (x : Bool) : Nat → Nat → Bool := fun i j => if i = a ∧ j = b then x else f i j
theorem gcells_length {f : Nat → Nat → Bool} : (gcells f).length = 64 := by simp [gcells]
theorem gcells_get {f : Nat → Nat → Bool} {a b : Nat} (ha : a < 8) (hb : b < 8) : (gcells f)[a * 8 + b]? = some (.bool (f a b)) := by
  have h1 : a * 8 + b < 64 := by omega
  have h2 : (a * 8 + b) / 8 = a := by omega
  have h3 : (a * 8 + b) % 8 = b := by omega
  simp only [gcells, List.getElem?_map, List.getElem?_range h1, Option.map_some, h2, h3]
theorem gcells_set {f : Nat → Nat → Bool} {a b : Nat} {x : Bool} (ha : a < 8) (hb : b < 8) : setCells (gcells f) (a * 8 + b) [.bool x] = gcells (upd2 f a b x) := by
  simp only [setCells]
  apply List.ext_getElem?
  intro j
  rw [List.getElem?_set]
  by_cases hj : a * 8 + b = j
  · subst hj
    rw [if_pos rfl, if_pos (by rw [gcells_length]; omega), gcells_get ha hb]
    simp [upd2]
  · rw [if_neg hj]
    by_cases h8 : j < 64
    · simp only [gcells, List.getElem?_map, List.getElem?_range h8, Option.map_some, upd2]
      rw [if_neg (by omega)]
    · simp [gcells, h8]
theorem gcells_plain {f : Nat → Nat → Bool} : ∀ c ∈ gcells f, Plain c := fun c hc => by
  simp only [gcells, List.mem_map] at hc
  obtain ⟨a, _, rfl⟩ := hc
  exact Plain.bool
@[go_sem] theorem gcells_tops {f : Nat → Nat → Bool} : AV.top.tops (gcells f) = 0 := tops_zero fun x hx => by
  simp only [gcells, List.mem_map] at hx
  obtain ⟨a, _, rfl⟩ := hx; rfl
@[go_sem] theorem gcells_noVec {f : Nat → Nat → Bool} : AV.noVec.noVecs (gcells f) = true := by
  unfold gcells
  generalize List.range 64 = l
  induction l with
  | nil => rfl
  | cons x r ih => simpa [AV.noVec.noVecs, AV.noVec] using ih
theorem frz_g {f : Nat → Nat → Bool} {d : Nat} : frz (d + 3) bar H (.agg (gcells f)) = some (.agg (gcells f), H) := by
  rw [frz_agg, plains gcells_plain]
theorem loadG {id ver fz a b s : Nat} {ex : Bool} {f : Nat → Nat → Bool} (hid : H[id]? = some (.row ver (gcells f) fz ex)) (ha : a < 8) (hb : b < 8) :
    aload H ⟨false, s⟩ (.ptr id ver (a * 8 + b)) = some (.bool (f a b)) := by
  rw [aload_ptr hid, part_one, gcells_get ha hb]
theorem loadGG {id ver fz : Nat} {ex : Bool} {f : Nat → Nat → Bool} (hid : H[id]? = some (.row ver (gcells f) fz ex)) :
    aload H ⟨true, 64⟩ (.ptr id ver 0) = some (.agg (gcells f)) := by
  rw [aload_ptr hid, part_agg, if_pos (by rw [gcells_length]; omega), List.drop_zero, List.take_of_length_le (by rw [gcells_length]; omega)]
theorem storeG {K : AV → Heap → List Nat → Prop} {id ver a b : Nat} {ex x : Bool} {f : Nat → Nat → Bool} (hid : H[id]? = some (.row ver (gcells f) 0 ex)) (ha : a < 8) (hb : b < 8) (hbar : bar ≤ id) :
    storeWp base bar 1 (.ptr id ver (a * 8 + b)) (.bool x) H K = K (.tup []) (H.set id (.row ver (gcells (upd2 f a b x)) 0 ex)) [id] := by
  rw [storeWp_ptr (size := 1) hid rfl rfl (by omega) (by rw [gcells_length]; omega) hbar (.inr (by simp [AV.cells, tops_cons, tops_nil, top_bool]))]
  simp only [AV.cells, gcells_set ha hb]
theorem gcells_over {f g : Nat → Nat → Bool} : setCells (gcells f) 0 (gcells g) = gcells g := by
  have : ∀ (news l r : List AV), news.length = r.length → setCells (l ++ r) l.length news = l ++ news := by
    intro news
    induction news with
    | nil => intro l r h; obtain rfl : r = [] := List.length_eq_zero_iff.1 h.symm; simp [setCells]
    | cons x n ih =>
      intro l r h
      cases r with
      | nil => simp at h
      | cons y r =>
        have := ih (l ++ [x]) r (by simpa using h)
        simp only [setCells]
        rw [show (l ++ y :: r).set l.length x = l ++ x :: r by simp [List.set_append]]
        simpa using this
  exact this (gcells g) [] (gcells f) (by rw [gcells_length, gcells_length])
theorem storeGG {K : AV → Heap → List Nat → Prop} {id ver : Nat} {ex : Bool} {f g : Nat → Nat → Bool} (hid : H[id]? = some (.row ver (gcells f) 0 ex)) (hbar : bar ≤ id) :
    storeWp base bar 64 (.ptr id ver 0) (.agg (gcells g)) H K = K (.tup []) (H.set id (.row ver (gcells g) 0 ex)) [id] := by
  rw [storeWp_ptr (size := 64) hid rfl (by simp [AV.cells, gcells_length]) (by omega) (by rw [gcells_length]; omega) hbar (.inr (by simp [AV.cells, gcells_tops]))]
  simp only [AV.cells, gcells_over]
/-! 41: the people of a set -/
theorem shr_i64 {a b : Nat} (ha : a < 256) : abin .shr (.int .i64 (a : Int)) (.int .i64 (b : Int)) = some (.int .i64 ((shr a b : Nat) : Int)) := by
  simp only [abin]
  rw [if_neg (by omega)]
  simp only [Int.toNat_natCast, show IntKind.i64.bits = 64 from rfl]
  congr 2
  rw [show (2 : Int) ^ (min b 64) = ((2 ^ (min b 64) : Nat) : Int) by simp, Int.fdiv_eq_ediv_of_nonneg _ (Int.natCast_nonneg _)]
  rw [← Int.natCast_ediv]
  congr 1
  unfold shr
  by_cases hb : b < 8
  · rw [Nat.min_eq_left (by omega), Nat.min_eq_left (by omega)]
  · rw [Nat.min_eq_right (show 8 ≤ b by omega), Nat.div_eq_of_lt (show a < 2 ^ 8 by omega), Nat.div_eq_of_lt]
    exact Nat.lt_of_lt_of_le (show a < 2 ^ 8 by omega) (Nat.pow_le_pow_right (by decide) (by omega))
theorem and_i64_one {a : Nat} (ha : a < 256) : abin .and (.int .i64 a) (.int .i64 1) = some (.int .i64 ((band a 1 : Nat) : Int)) := by
  have e : (BitVec.ofInt 64 (a : Int) &&& BitVec.ofInt 64 ((1 : Nat) : Int)).toNat = band a 1 := by
    rw [BitVec.toNat_and, ofInt_toNat (w := 64) (by omega), ofInt_toNat (w := 64) (by omega)]; rfl
  simp only [abin, binInt, if_true]
  rw [show IntKind.i64.bits = 64 from rfl]
  have e' : (BitVec.ofInt 64 (a : Int) &&& BitVec.ofInt 64 (1 : Int)).toNat = band a 1 := e
  rw [e', i64_nat (by have := band_lt (a := a) (b := 1) ha; omega)]
theorem l41 {s : Nat} (hs : s < 256) (H0 : Heap) (hb : bar ≤ H0.length) (hbase : base ≤ H0.length) {R : PQ} : ∀ (k x : Nat), x + k = 8 → ∀ (v : AV) (H : Heap), Grow 1 (nats ((List.range x).filter (s.testBit ·))) H0 v H →
    (∀ v' H', Grow 1 (nats (bitsOf s)) H0 v' H' → R (.exit 0) [(0, .int .i64 (s : Nat)), (3, v'), (5, .int .i64 8), (6, .bool false)] H') →
    Wp E base bar (.loop c41_l0) [(0, .int .i64 (s : Nat)), (3, v), (5, .int .i64 (x : Nat))] H R := by
  intro k
  induction k with
  | zero =>
    intro x hx v H g h
    obtain rfl : x = 8 := by omega
    rw [wp_round c41_l0.eq_1]
    simp [go_sem]
    exact h v H g
  | succ k ih =>
    intro x hx v H g h
    have hx8 : x < 8 := by omega
    have hl : ((List.range x).filter (s.testBit ·)).length ≤ 8 := Nat.le_trans (List.length_filter_le _ _) (by simp; omega)
    have hst : (List.range (x + 1)).filter (s.testBit ·) = (List.range x).filter (s.testBit ·) ++ if s.testBit x = true then [x] else [] := by
      rw [List.range_succ, List.filter_append]
      cases hc : s.testBit x <;> simp [hc]
    rw [wp_round c41_l0.eq_1]
    simp [go_sem, natLt, hx8, shr_i64 hs, and_i64_one (shr_lt hs), shr_bit s hs]
    cases hc : s.testBit x
    · rw [hc] at hst
      simp [go_sem, i64_suc (show x < 1000000 by omega)]
      refine ih (x + 1) (by omega) v H ?_ h
      rw [hst]; simpa using g
    · rw [hc] at hst
      simp [go_sem, aop, fillA, setCells, chunks, AV.noVec.noVecs, AV.noVec]
      refine g.nat hb hbase (by omega) fun v' H' tc g' => ?_
      simp [go_sem, i64_suc (show x < 1000000 by omega)]
      refine ih (x + 1) (by omega) v' H' ?_ h
      rw [hst]; simpa using g'
theorem k41 {s : Nat} (hs : s < 256) (hb : bar ≤ H.length) (h : Q (outL 1 (nats (bitsOf s))) H) : WpCall E pure base bar 41 [.int .i64 s] H Q := by
  rw [call41]
  have hb := bar_ok (pure := pure) hb
  simp [go_sem, WpFun, c41] at hb ⊢
  refine l41 hs H hb (Nat.le_refl _) 8 0 rfl _ _ .nil fun v' H' g => ?_
  simp [go_sem]
  refine g.out hb (Nat.le_refl _) ?_
  simpa using h
end Go.Proofs.Ythoogegclpiefaa.Code
end
section
namespace Go.Proofs.Ythoogegclpiefaa.Code
open Go Go.Ab
variable {pure : Bool} {base bar : Nat} {H : Heap} {Q : AV → Heap → Prop}
theorem isL_cut {q : AV} {l : List Nat} (hq : isL q l) {i : Nat} (hi : i < l.length) : ∃ q', aslice H (.slc 1) q none (some (.int .i64 (i : Int))) none = some q' ∧ isL q' (l.take i) := by
  rcases hq with ⟨rfl, rfl⟩ | ⟨ex, rfl⟩
  · simp at hi
  · refine ⟨.lst 1 (ex && i == l.length) (nats (l.take i)), ?_, .inr ⟨_, rfl⟩⟩
    have hl : (nats l).length = l.length := nats_length
    simp [aslice, optBound, bound1, AV.asNat, hl, Nat.le_of_lt hi]
    simp [nats, List.map_take]
/-! 42: each two quarrel -/
def okG (f : Nat → Nat → Bool) : List Nat → List Nat → Bool
  | _, [] => true
  | b, x :: r => b.all (f x) && okG f (b ++ [x]) r
theorem l42a {id ver : Nat} {ex : Bool} {fz : Nat} {f : Nat → Nat → Bool} (hid : H[id]? = some (.row ver (gcells f) fz ex)) {v u : AV} {b : List Nat} (hu : isL u b) (hb : b.length < 1000) (h8 : ∀ y ∈ b, y < 8) {x m i : Nat} (hx : x < 8) {R : PQ} :
    ∀ (k j : Nat), j + k = b.length →
    ((b.drop j).all (f x) = false → R .ret [(4, .bool false)] H) →
    ((b.drop j).all (f x) = true → R (.exit 2) [(1, v), (2, .ptr id ver 0), (9, v), (10, .int .i64 (m : Nat)), (11, .int .i64 (i : Nat)), (6, .int .i64 (x : Nat)), (18, u), (19, .int .i64 (b.length : Nat)), (20, .int .i64 (b.length : Nat)), (21, .bool false)] H) →
    Wp E base bar (.loop c42_l0) [(1, v), (2, .ptr id ver 0), (9, v), (10, .int .i64 (m : Nat)), (11, .int .i64 (i : Nat)), (6, .int .i64 (x : Nat)), (18, u), (19, .int .i64 (b.length : Nat)), (20, .int .i64 (j : Nat))] H R := by
  intro k
  induction k with
  | zero =>
    intro j hj h1 h2
    obtain rfl : j = b.length := by omega
    rw [wp_round c42_l0.eq_1]
    simp [go_sem]
    exact h2 (by simp)
  | succ k ih =>
    intro j hj h1 h2
    have hlt : j < b.length := by omega
    have hy : b[j] < 8 := h8 _ (List.getElem_mem hlt)
    rw [List.drop_eq_getElem_cons hlt, List.all_cons] at h1 h2
    rw [wp_round c42_l0.eq_1]
    simp [go_sem, hlt, hu.ix hlt, hx, hy, loadG hid hx hy]
    cases hc : f x b[j]
    · simp [go_sem]
      exact h1 (by simp [hc])
    · simp only [hc, Bool.true_and] at h1 h2
      simp [go_sem, i64_suc (show j < 1000000 by omega)]
      exact ih (j + 1) (by omega) h1 h2
theorem l42 {id ver : Nat} {ex : Bool} {fz : Nat} {f : Nat → Nat → Bool} (hid : H[id]? = some (.row ver (gcells f) fz ex)) {v : AV} {l : List Nat} (hv : isL v l) (hl : l.length < 1000) (h8 : ∀ y ∈ l, y < 8) {R : PQ} :
    ∀ (k i : Nat), i + k = l.length →
    (okG f (l.take i) (l.drop i) = false → R .ret [(4, .bool false)] H) →
    (okG f (l.take i) (l.drop i) = true → R (.exit 0) [(1, v), (2, .ptr id ver 0), (9, v), (10, .int .i64 (l.length : Nat)), (11, .int .i64 (l.length : Nat)), (12, .bool false)] H) →
    Wp E base bar (.loop c42_l1) [(1, v), (2, .ptr id ver 0), (9, v), (10, .int .i64 (l.length : Nat)), (11, .int .i64 (i : Nat))] H R := by
  intro k
  induction k with
  | zero =>
    intro i hi h1 h2
    obtain rfl : i = l.length := by omega
    rw [wp_round c42_l1.eq_1]
    simp [go_sem]
    exact h2 (by simp [okG])
  | succ k ih =>
    intro i hi h1 h2
    have hlt : i < l.length := by omega
    have hx : l[i] < 8 := h8 _ (List.getElem_mem hlt)
    obtain ⟨u, hu1, hu2⟩ := isL_cut (H := H) hv hlt
    have hst : okG f (l.take i) (l.drop i) = ((l.take i).all (f l[i]) && okG f (l.take (i + 1)) (l.drop (i + 1))) := by
      rw [List.drop_eq_getElem_cons hlt, okG, List.take_succ_eq_append_getElem hlt]
    rw [wp_round c42_l1.eq_1]
    simp [go_sem, hlt, hv.ix hlt, aop, Opd.evo, hu1, hu2.len]
    rw [show ((min i l.length : Nat) : Int) = ((l.take i).length : Nat) by simp]
    refine l42a hid hu2 (by simp; omega) (fun y hy => h8 y (List.mem_of_mem_take hy)) hx (l.take i).length 0 (by omega) (fun hc => ?_) (fun hc => ?_)
    · rw [List.drop_zero] at hc
      rw [hst, hc] at h1
      simp [go_sem]
      exact h1 rfl
    · rw [List.drop_zero] at hc
      rw [hst, hc, Bool.true_and] at h1 h2
      simp [go_sem, i64_suc (show i < 1000000 by omega)]
      exact ih (i + 1) (by omega) h1 h2
theorem k42 {f : Nat → Nat → Bool} {v : AV} {l : List Nat} (hv : isL v l) (hl : l.length < 1000) (h8 : ∀ y ∈ l, y < 8) (h : Q (.bool (okG f [] l)) H) : WpCall E pure base bar 42 [.agg (gcells f), v] H Q := by
  rw [call42]
  simp [go_sem, WpFun, c42, frz_g, hv.frz, hv.len]
  refine l42 (f := f) (fz := 0) (ex := true) (by simp [own_get0]) hv hl h8 l.length 0 (by omega) (fun hc => ?_) (fun hc => ?_)
  · simp only [List.take_zero, List.drop_zero] at hc
    rw [hc] at h
    simp [go_sem]
    exact h
  · simp only [List.take_zero, List.drop_zero] at hc
    rw [hc] at h
    simp [go_sem]
    exact h
/-! a workroom as a field -/
def wf (w : Nat → Nat) : Nat → Nat → Bool := fun a b => (w a).testBit b
theorem okG_iff {f : Nat → Nat → Bool} : ∀ (s b : List Nat), okG f b s = true ↔ (∀ x ∈ s, ∀ y ∈ b, f x y = true) ∧ s.Pairwise fun (x y : Nat) => f y x = true
  | [], b => by simp [okG]
  | x :: r, b => by
    rw [okG, Bool.and_eq_true, List.all_eq_true, okG_iff r, List.pairwise_cons]
    constructor
    · rintro ⟨h1, h2, h3⟩
      refine ⟨fun z hz y hy => ?_, fun y hy => h2 y hy x (by simp), h3⟩
      rcases List.mem_cons.1 hz with rfl | hz
      · exact h1 y hy
      · exact h2 z hz y (List.mem_append_left _ hy)
    · rintro ⟨h1, h2, h3⟩
      refine ⟨fun y hy => h1 x (List.mem_cons_self ..) y hy, fun z hz y hy => ?_, h3⟩
      rcases List.mem_append.1 hy with hy | hy
      · exact h1 z (List.mem_cons_of_mem _ hz) y hy
      · simp only [List.mem_singleton] at hy
        subst hy
        exact h2 z hz
theorem pairwise_of {α : Type} {P : α → α → Prop} {l : List α} (hl : l.Nodup) (h : ∀ x ∈ l, ∀ y ∈ l, x ≠ y → P x y) : l.Pairwise P := by
  induction l with
  | nil => exact .nil
  | cons a r ih =>
    rw [List.nodup_cons] at hl
    refine .cons (fun y hy => h a (List.mem_cons_self ..) y (List.mem_cons_of_mem _ hy) fun hc => hl.1 (hc ▸ hy)) (ih hl.2 fun x hx y hy => h x (List.mem_cons_of_mem _ hx) y (List.mem_cons_of_mem _ hy))
theorem pairwise_all {α : Type} {P : α → α → Prop} (hs : ∀ x y, P x y → P y x) {l : List α} (h : l.Pairwise P) : ∀ x ∈ l, ∀ y ∈ l, x ≠ y → P x y := by
  induction h with
  | nil => intro x hx; simp at hx
  | @cons a r h1 _ ih =>
    intro x hx y hy hxy
    rcases List.mem_cons.1 hx with e1 | hx'
    · subst e1
      rcases List.mem_cons.1 hy with e2 | hy'
      · exact absurd e2.symm hxy
      · exact h1 y hy'
    · rcases List.mem_cons.1 hy with e2 | hy'
      · subst e2
        exact hs _ _ (h1 x hx')
      · exact ih x hx' y hy' hxy
theorem brawl_okG {n : Nat} {w : Nat → Nat} (h : RoomW n w) {s : Nat} (hs : s < 256) : okG (wf w) [] (bitsOf s) = brawlS w s := by
  rw [Bool.eq_iff_iff, okG_iff, brawl_iff h hs]
  have hnd : (bitsOf s).Nodup := (bits_pairwise s).imp fun h => Nat.ne_of_lt h
  have h8 : ∀ i, s.testBit i = true → i < 8 := fun i hi => by
    apply Decidable.byContradiction
    intro hc
    rw [Nat.testBit_lt_two_pow (Nat.lt_of_lt_of_le hs (Nat.pow_le_pow_right (by decide) (Nat.not_lt.1 hc) : 2 ^ 8 ≤ 2 ^ i))] at hi
    cases hi
  constructor
  · rintro ⟨_, h2⟩ x y hx hy hxy
    exact pairwise_all (P := fun x y => wf w y x = true) (fun x y hp => by unfold wf at hp ⊢; rw [h.sym]; exact hp) h2 y (bits_mem.2 ⟨h8 y hy, hy⟩) x (bits_mem.2 ⟨h8 x hx, hx⟩) (Ne.symm hxy)
  · intro h2
    refine ⟨fun _ _ y hy => by simp at hy, pairwise_of hnd fun x hx y hy hxy => ?_⟩
    exact h2 y x (bits_mem.1 hy).2 (bits_mem.1 hx).2 (Ne.symm hxy)
end Go.Proofs.Ythoogegclpiefaa.Code
end
section
namespace Go.Proofs.Ythoogegclpiefaa.Code
open Go Go.Ab
variable {pure : Bool} {base bar : Nat} {H : Heap} {Q : AV → Heap → Prop}
/-! 38: the first largest brawl -/
theorem l38 {id ver n : Nat} {ex : Bool} {w : Nat → Nat} {fz : Nat} (hid : H[id]? = some (.row ver (gcells (wf w)) fz ex)) (hw : RoomW n w) (hn : n ≤ 8) (hb : bar ≤ H.length) {R : PQ} :
    ∀ (k s : Nat) (best : List Nat) (bv : AV), s + k = pw n → isL bv best → best.length ≤ 8 →
    (∀ bv', isL bv' ((List.range' s k).foldl (bestStep w) best) → R (.exit 0) [(1, .int .i64 (n : Nat)), (2, .ptr id ver 0), (5, bv'), (6, .int .i64 (pw n : Nat)), (11, .bool false)] H) →
    Wp E base bar (.loop c38_l0) [(1, .int .i64 (n : Nat)), (2, .ptr id ver 0), (5, bv), (6, .int .i64 (s : Nat))] H R := by
  intro k
  induction k with
  | zero =>
    intro s best bv hs hv hl h
    obtain rfl : s = pw n := by omega
    rw [wp_round c38_l0.eq_1]
    simp [go_sem, shl_i64 (show n < 62 by omega)]
    exact h bv hv
  | succ k ih =>
    intro s best bv hs hv hl h
    have := pw_le hn
    have h8 : s < 256 := by omega
    have hlt : s < pw n := by omega
    have hbl := bits_len s
    rw [wp_round c38_l0.eq_1]
    simp [go_sem, shl_i64 (show n < 62 by omega), hlt]
    refine k41 h8 hb ?_
    have hov : isL (outL 1 (nats (bitsOf s))) (bitsOf s) := isL.out
    generalize outL 1 (nats (bitsOf s)) = ov at hov
    simp only [List.range'_succ, List.foldl_cons] at h
    have hst : bestStep w best s = if best.length ≤ (bitsOf s).length ∧ brawlS w s = true ∧ (best.length < (bitsOf s).length ∨ cmpL (bitsOf s) best < 0) then bitsOf s else best := rfl
    simp [go_sem, loadGG hid]
    refine k42 hov (by omega) (fun y hy => bits_lt hy) ?_
    rw [brawl_okG hw h8]
    cases h2 : brawlS w s
    · simp [go_sem, i64_suc (show s < 1000000 by omega)]
      rw [hst, if_neg (by simp [h2])] at h
      exact ih (s + 1) best bv (by omega) hv hl h
    · simp [go_sem, hov.len, hv.len]
      by_cases h3 : best.length < (bitsOf s).length
      · simp [go_sem, h3, show ¬ (bitsOf s).length ≤ best.length by omega, i64_suc (show s < 1000000 by omega)]
        rw [hst, if_pos ⟨by omega, h2, .inl h3⟩] at h
        exact ih (s + 1) _ _ (by omega) hov hbl h
      · by_cases h1 : (bitsOf s).length = best.length
        · simp [go_sem, h3, natEq, h1, hov.len, hv.len]
          refine k82 hov hv (by omega) (by omega) ?_
          simp [go_sem]
          by_cases h4 : cmpL (bitsOf s) best < 0
          · simp [go_sem, h4, i64_suc (show s < 1000000 by omega)]
            rw [hst, if_pos ⟨by omega, h2, .inr h4⟩] at h
            exact ih (s + 1) _ _ (by omega) hov hbl h
          · simp [go_sem, h4, i64_suc (show s < 1000000 by omega)]
            rw [hst, if_neg (by intro hc; rcases hc.2.2 with h | h <;> contradiction)] at h
            exact ih (s + 1) best bv (by omega) hv hl h
        · simp [go_sem, h3, natEq, h1, hov.len, hv.len, show (bitsOf s).length ≤ best.length by omega, i64_suc (show s < 1000000 by omega)]
          rw [hst, if_neg (by omega)] at h
          exact ih (s + 1) best bv (by omega) hv hl h
theorem k38 {n : Nat} {w : Nat → Nat} (hw : RoomW n w) (hn : n ≤ 8) (hb : bar ≤ H.length) (h : ∀ v, isL v (largestS n w) → Q v H) :
    WpCall E pure base bar 38 [.agg (gcells (wf w)), .int .i64 n] H Q := by
  rw [call38]
  have hb' := bar_ok (pure := pure) hb
  simp [go_sem, WpFun, c38, frz_g] at hb' ⊢
  generalize (if pure = true then H.length else bar) = bar' at hb' ⊢
  have h1 : 1 ≤ pw n := Nat.one_le_two_pow
  refine l38 (w := w) (fz := 0) (ex := true) (by simp [own_get0]) hw hn (by simp; omega) (pw n - 1) 1 [] .nils (by omega) .nil (by simp) fun v hv => ?_
  simp [go_sem]
  refine leaveL hv ?_
  simpa using h v hv
/-! 40: is it parted -/
def testG (f : Nat → Nat → Bool) (a b c : Nat) : Bool := decide (a ≠ b) && (decide (b ≠ c) && (!f a b && (!f b c && f a c)))
def partG (f : Nat → Nat → Bool) (n : Nat) : Bool := (List.range n).all fun a => (List.range n).all fun b => (List.range n).all fun c => !testG f a b c
theorem l40c {id ver n a b : Nat} {ex : Bool} {fz : Nat} {f : Nat → Nat → Bool} (hid : H[id]? = some (.row ver (gcells f) fz ex)) (hn : n ≤ 8) (ha : a < n) (hb : b < n) {R : PQ} : ∀ (k c : Nat), c + k = n →
    (((List.range' c k).all fun c => !testG f a b c) = false → R .ret [(4, .bool false)] H) →
    (((List.range' c k).all fun c => !testG f a b c) = true → R (.exit 4) [(1, .int .i64 (n : Nat)), (2, .ptr id ver 0), (8, .int .i64 (n : Nat)), (9, .int .i64 (a : Nat)), (5, .int .i64 (a : Nat)), (12, .int .i64 (n : Nat)), (13, .int .i64 (b : Nat)), (6, .int .i64 (b : Nat)), (16, .int .i64 (n : Nat)), (17, .int .i64 (n : Nat)), (18, .bool false)] H) →
    Wp E base bar (.loop c40_l0) [(1, .int .i64 (n : Nat)), (2, .ptr id ver 0), (8, .int .i64 (n : Nat)), (9, .int .i64 (a : Nat)), (5, .int .i64 (a : Nat)), (12, .int .i64 (n : Nat)), (13, .int .i64 (b : Nat)), (6, .int .i64 (b : Nat)), (16, .int .i64 (n : Nat)), (17, .int .i64 (c : Nat))] H R := by
  intro k
  induction k with
  | zero =>
    intro c hc h1 h2
    obtain rfl : c = n := by omega
    rw [wp_round c40_l0.eq_1]
    simp [go_sem]
    exact h2 (by simp)
  | succ k ih =>
    intro c hc h1 h2
    have hlt : c < n := by omega
    simp only [List.range'_succ, List.all_cons] at h1 h2
    have ht : testG f a b c = (decide (a ≠ b) && (decide (b ≠ c) && (!f a b && (!f b c && f a c)))) := rfl
    have g1 := loadG hid (show a < 8 by omega) (show b < 8 by omega) (s := 1)
    have g2 := loadG hid (show b < 8 by omega) (show c < 8 by omega) (s := 1)
    have g3 := loadG hid (show a < 8 by omega) (show c < 8 by omega) (s := 1)
    have next : testG f a b c = false → Wp E base bar (.loop c40_l0) [(1, .int .i64 (n : Nat)), (2, .ptr id ver 0), (8, .int .i64 (n : Nat)), (9, .int .i64 (a : Nat)), (5, .int .i64 (a : Nat)), (12, .int .i64 (n : Nat)), (13, .int .i64 (b : Nat)), (6, .int .i64 (b : Nat)), (16, .int .i64 (n : Nat)), (17, .int .i64 ((c + 1 : Nat) : Int))] H R := fun he => by
      simp only [he, Bool.not_false, Bool.true_and] at h1 h2
      exact ih (c + 1) (by omega) h1 h2
    rw [wp_round c40_l0.eq_1]
    by_cases hab : a = b
    · have := next (by rw [ht]; simp [hab])
      simp [go_sem, hlt, natEq, hab, i64_suc (show c < 1000000 by omega)]
      subst hab
      exact this
    · by_cases hbc : b = c
      · have := next (by rw [ht]; simp [hbc])
        simp [go_sem, hlt, natEq, hab, hbc, i64_suc (show c < 1000000 by omega)]
        subst hbc
        exact this
      · cases e1 : f a b
        · rw [e1] at g1
          cases e2 : f b c
          · rw [e2] at g2
            cases e3 : f a c
            · rw [e3] at g3
              have := next (by rw [ht]; simp [e3])
              simp [go_sem, hlt, natEq, hab, hbc, i64_suc (show c < 1000000 by omega), show a < 8 by omega, show b < 8 by omega, show c < 8 by omega, g1, g2, g3]
              exact this
            · rw [e3] at g3
              simp [go_sem, hlt, natEq, hab, hbc, show a < 8 by omega, show b < 8 by omega, show c < 8 by omega, g1, g2, g3]
              exact h1 (by rw [ht]; simp [e1, e2, e3, hab, hbc])
          · rw [e2] at g2
            have := next (by rw [ht]; simp [e2])
            simp [go_sem, hlt, natEq, hab, hbc, i64_suc (show c < 1000000 by omega), show a < 8 by omega, show b < 8 by omega, show c < 8 by omega, g1, g2]
            exact this
        · rw [e1] at g1
          have := next (by rw [ht]; simp [e1])
          simp [go_sem, hlt, natEq, hab, hbc, i64_suc (show c < 1000000 by omega), show a < 8 by omega, show b < 8 by omega, g1]
          exact this
theorem l40b {id ver n a : Nat} {ex : Bool} {fz : Nat} {f : Nat → Nat → Bool} (hid : H[id]? = some (.row ver (gcells f) fz ex)) (hn : n ≤ 8) (ha : a < n) {R : PQ} : ∀ (k b : Nat), b + k = n →
    (((List.range' b k).all fun b => (List.range n).all fun c => !testG f a b c) = false → R .ret [(4, .bool false)] H) →
    (((List.range' b k).all fun b => (List.range n).all fun c => !testG f a b c) = true → R (.exit 2) [(1, .int .i64 (n : Nat)), (2, .ptr id ver 0), (8, .int .i64 (n : Nat)), (9, .int .i64 (a : Nat)), (5, .int .i64 (a : Nat)), (12, .int .i64 (n : Nat)), (13, .int .i64 (n : Nat)), (14, .bool false)] H) →
    Wp E base bar (.loop c40_l1) [(1, .int .i64 (n : Nat)), (2, .ptr id ver 0), (8, .int .i64 (n : Nat)), (9, .int .i64 (a : Nat)), (5, .int .i64 (a : Nat)), (12, .int .i64 (n : Nat)), (13, .int .i64 (b : Nat))] H R := by
  intro k
  induction k with
  | zero =>
    intro b hb h1 h2
    obtain rfl : b = n := by omega
    rw [wp_round c40_l1.eq_1]
    simp [go_sem]
    exact h2 (by simp)
  | succ k ih =>
    intro b hb h1 h2
    have hlt : b < n := by omega
    simp only [List.range'_succ, List.all_cons] at h1 h2
    rw [wp_round c40_l1.eq_1]
    simp [go_sem, hlt]
    refine l40c hid hn ha hlt n 0 (by omega) (fun he => ?_) (fun he => ?_)
    · rw [← List.range_eq_range'] at he
      simp [go_sem]
      exact h1 (by simp [he])
    · rw [← List.range_eq_range'] at he
      simp only [he, Bool.true_and] at h1 h2
      simp [go_sem, i64_suc (show b < 1000000 by omega)]
      exact ih (b + 1) (by omega) h1 h2
theorem l40a {id ver n : Nat} {ex : Bool} {fz : Nat} {f : Nat → Nat → Bool} (hid : H[id]? = some (.row ver (gcells f) fz ex)) (hn : n ≤ 8) {R : PQ} : ∀ (k a : Nat), a + k = n →
    (((List.range' a k).all fun a => (List.range n).all fun b => (List.range n).all fun c => !testG f a b c) = false → R .ret [(4, .bool false)] H) →
    (((List.range' a k).all fun a => (List.range n).all fun b => (List.range n).all fun c => !testG f a b c) = true → R (.exit 0) [(1, .int .i64 (n : Nat)), (2, .ptr id ver 0), (8, .int .i64 (n : Nat)), (9, .int .i64 (n : Nat)), (10, .bool false)] H) →
    Wp E base bar (.loop c40_l2) [(1, .int .i64 (n : Nat)), (2, .ptr id ver 0), (8, .int .i64 (n : Nat)), (9, .int .i64 (a : Nat))] H R := by
  intro k
  induction k with
  | zero =>
    intro a ha h1 h2
    obtain rfl : a = n := by omega
    rw [wp_round c40_l2.eq_1]
    simp [go_sem]
    exact h2 (by simp)
  | succ k ih =>
    intro a ha h1 h2
    have hlt : a < n := by omega
    simp only [List.range'_succ, List.all_cons] at h1 h2
    rw [wp_round c40_l2.eq_1]
    simp [go_sem, hlt]
    refine l40b hid hn hlt n 0 (by omega) (fun he => ?_) (fun he => ?_)
    · rw [← List.range_eq_range'] at he
      simp [go_sem]
      exact h1 (by simp [he])
    · rw [← List.range_eq_range'] at he
      simp only [he, Bool.true_and] at h1 h2
      simp [go_sem, i64_suc (show a < 1000000 by omega)]
      exact ih (a + 1) (by omega) h1 h2
theorem k40 {n : Nat} {f : Nat → Nat → Bool} (hn : n ≤ 8) (h : Q (.bool (partG f n)) H) : WpCall E pure base bar 40 [.agg (gcells f), .int .i64 n] H Q := by
  rw [call40]
  simp [go_sem, WpFun, c40, frz_g]
  refine l40a (f := f) (fz := 0) (ex := true) (by simp [own_get0]) hn n 0 (by omega) (fun he => ?_) (fun he => ?_)
  · rw [← List.range_eq_range'] at he
    rw [show partG f n = false from he] at h
    simp [go_sem]
    exact h
  · rw [← List.range_eq_range'] at he
    rw [show partG f n = true from he] at h
    simp [go_sem]
    exact h
end Go.Proofs.Ythoogegclpiefaa.Code
end
section
namespace Go.Proofs.Ythoogegclpiefaa.Code
open Go Go.Ab
variable {pure : Bool} {base bar : Nat} {H : Heap} {Q : AV → Heap → Prop}
end Go.Proofs.Ythoogegclpiefaa.Code
end
section
namespace Go.Proofs.Ythoogegclpiefaa.Code
open Go Go.Ab
variable {pure : Bool} {base bar : Nat} {H : Heap} {Q : AV → Heap → Prop}
/-! 35: the house of a row -/
theorem shr_u32 {a b : Nat} (hb : b < 32) : abin .shr (.int .u32 (a : Int)) (.int .i64 (b : Int)) = some (.int .u32 ((a / 2 ^ b : Nat) : Int)) := by
  simp only [abin]
  rw [if_neg (by omega)]
  simp only [Int.toNat_natCast, show IntKind.u32.bits = 32 from rfl]
  congr 2
  rw [Nat.min_eq_left (by omega), show (2 : Int) ^ b = ((2 ^ b : Nat) : Int) by simp, Int.fdiv_eq_ediv_of_nonneg _ (Int.natCast_nonneg _)]
  exact (Int.natCast_ediv _ _).symm
theorem and_u32_one {a : Nat} (ha : a < 4294967296) : abin .and (.int .u32 a) (.int .u32 1) = some (.int .u32 ((a % 2 : Nat) : Int)) := by
  have e : (BitVec.ofInt 32 (a : Int) &&& BitVec.ofInt 32 ((1 : Nat) : Int)).toNat = a % 2 := by
    rw [BitVec.toNat_and, ofInt_toNat (w := 32) ha, ofInt_toNat (w := 32) (by omega), Nat.and_one_is_mod]
  simp only [abin, binInt, if_true]
  rw [show IntKind.u32.bits = 32 from rfl]
  have e' : (BitVec.ofInt 32 (a : Int) &&& BitVec.ofInt 32 (1 : Int)).toNat = a % 2 := e
  rw [e', Go.IntWalk.u32_in _ (by omega)]
def shrN (a b : Nat) : Nat := a / 2 ^ b
theorem shrN_bit {a b : Nat} : shrN a b % 2 = (a.testBit b).toNat := (Nat.toNat_testBit ..).symm
theorem shrN_le {a b : Nat} : shrN a b ≤ a := Nat.div_le_self _ _
def tri : Nat → Nat
  | 0 => 0
  | b + 1 => tri b + b
theorem tri_le : ∀ b, b ≤ 8 → tri b ≤ 28 := by decide
structure MadeTo (n bits b a : Nat) (l : List ZZ) (w : Nat → Nat) : Prop where
  room : openF n (fun _ => 0) l = .room w
  len : l.length ≤ tri b + a
  bit : ∀ x y, x < y → (y < b ∨ y = b ∧ x < a) → (w x).testBit y = bits.testBit (tri y + x)
  out : ∀ x y, x < y → ¬ (y < b ∨ y = b ∧ x < a) → (w x).testBit y = false
  cnt : l.length = ((List.range (tri b + a)).filter bits.testBit).length
structure MadeOK (n bits : Nat) (l : List ZZ) (w : Nat → Nat) : Prop where
  room : openS n l = .room w
  len : l.length ≤ 28
  bit : ∀ x y, x < y → y < n → (w x).testBit y = bits.testBit (tri y + x)
  cnt : l.length = ((List.range (tri n)).filter bits.testBit).length
theorem openF_snoc {n : Int} {p : ZZ} : ∀ {l : List ZZ} {w w' : Nat → Nat}, openF n w l = .room w' → openF n w (l ++ [p]) = openF n w' [p]
  | [], w, w', h => by
    simp only [openF, Opened.room.injEq] at h
    subst h; rfl
  | (a, b) :: r, w, w', h => by
    rw [List.cons_append]
    simp only [openF] at h ⊢
    split at h
    · cases h
    rename_i h1
    split at h
    · cases h
    rename_i h2
    split at h
    · cases h
    rename_i h3
    rw [if_neg h1, if_neg h2, if_neg h3]
    have := openF_snoc (p := p) h
    simpa only [openF] using this
theorem MadeTo.zero {n bits : Nat} : MadeTo n bits 0 0 [] (fun _ => 0) := ⟨rfl, Nat.zero_le _, fun x y _ h => by omega, fun x y _ _ => by simp, rfl⟩
theorem MadeTo.skip {n bits b a : Nat} {l : List ZZ} {w : Nat → Nat} (h : MadeTo n bits b a l w) (hab : a < b) (hb : bits.testBit (tri b + a) = false) : MadeTo n bits b (a + 1) l w :=
  ⟨h.room, by have := h.len; omega, fun x y hxy hc => by
    by_cases he : y = b ∧ x = a
    · obtain ⟨rfl, rfl⟩ := he
      rw [hb]; exact h.out x y hxy (by omega)
    · exact h.bit x y hxy (by omega), fun x y hxy hc => h.out x y hxy (by omega), by rw [h.cnt, show tri b + (a + 1) = tri b + a + 1 from rfl, List.range_succ, List.filter_append]; simp [hb]⟩
theorem MadeTo.put {n bits b a : Nat} {l : List ZZ} {w : Nat → Nat} (h : MadeTo n bits b a l w) (hab : a < b) (hbn : b < n) (hb : bits.testBit (tri b + a) = true) : MadeTo n bits b (a + 1) (l ++ [((a : Int), (b : Int))]) (joinW w a b) := by
  refine ⟨?_, by have := h.len; simp; omega, fun x y hxy hc => ?_, fun x y hxy hc => ?_, by rw [List.length_append, h.cnt, show tri b + (a + 1) = tri b + a + 1 from rfl, List.range_succ, List.filter_append]; simp [hb]⟩
  · rw [openF_snoc h.room]
    simp only [openF]
    rw [if_neg (by omega), if_neg (by omega), Int.toNat_natCast, Int.toNat_natCast, if_neg (by rw [h.out a b hab (by omega)]; simp)]
  · rw [joinW_bit (by omega)]
    by_cases he : y = b ∧ x = a
    · obtain ⟨rfl, rfl⟩ := he
      simp [hb]
    · rw [h.bit x y hxy (by omega)]
      have e1 : (decide (x = a) && decide (y = b)) = false := by simp; omega
      have e2 : (decide (x = b) && decide (y = a)) = false := by simp; omega
      rw [e1, e2]; simp
  · rw [joinW_bit (by omega), h.out x y hxy (by omega)]
    have e1 : (decide (x = a) && decide (y = b)) = false := by simp; omega
    have e2 : (decide (x = b) && decide (y = a)) = false := by simp; omega
    rw [e1, e2]; simp
theorem MadeTo.next {n bits b : Nat} {l : List ZZ} {w : Nat → Nat} (h : MadeTo n bits b b l w) : MadeTo n bits (b + 1) 0 l w :=
  ⟨h.room, by have := h.len; simp [tri]; omega, fun x y hxy hc => h.bit x y hxy (by omega), fun x y hxy hc => h.out x y hxy (by omega), h.cnt⟩
theorem MadeTo.done {n bits : Nat} {l : List ZZ} {w : Nat → Nat} (h : MadeTo n bits n 0 l w) (h1 : 1 ≤ n) (h8 : n ≤ 8) : MadeOK n bits l w :=
  ⟨by unfold openS; rw [if_pos (by simp [within]; omega)]; exact h.room, by have := h.len; have := tri_le n h8; omega, fun x y hxy hy => h.bit x y hxy (by omega), h.cnt⟩
theorem wf_join {w : Nat → Nat} {a b : Nat} (hab : a ≠ b) : upd2 (upd2 (wf w) a b true) b a true = wf (joinW w a b) := by
  funext x y
  unfold wf upd2
  rw [joinW_bit hab]
  by_cases h1 : x = b ∧ y = a
  · obtain ⟨rfl, rfl⟩ := h1; simp
  · rw [if_neg h1]
    by_cases h2 : x = a ∧ y = b
    · obtain ⟨rfl, rfl⟩ := h2; simp
    · rw [if_neg h2]
      have e1 : (decide (x = a) && decide (y = b)) = false := by simp; omega
      have e2 : (decide (x = b) && decide (y = a)) = false := by simp; omega
      rw [e1, e2]; simp
theorem wf_zero : (fun _ _ => false) = wf (fun _ => 0) := by
  funext x y; simp [wf]
@[go_sem] theorem gz : AV.agg [.bool false, .bool false, .bool false, .bool false, .bool false, .bool false, .bool false, .bool false, .bool false, .bool false, .bool false, .bool false, .bool false, .bool false, .bool false, .bool false, .bool false, .bool false, .bool false, .bool false, .bool false, .bool false, .bool false, .bool false, .bool false, .bool false, .bool false, .bool false, .bool false, .bool false, .bool false, .bool false, .bool false, .bool false, .bool false, .bool false, .bool false, .bool false, .bool false, .bool false, .bool false, .bool false, .bool false, .bool false, .bool false, .bool false, .bool false, .bool false, .bool false, .bool false, .bool false, .bool false, .bool false, .bool false, .bool false, .bool false, .bool false, .bool false, .bool false, .bool false, .bool false, .bool false, .bool false, .bool false] = .agg (gcells (wf (fun _ => 0))) := by
  rw [← wf_zero]; rfl
/-- five blocks: the row that came in, two results, the house, who quarrels -/
def HM (H : Heap) (r : List AV) (n : Nat) (v : AV) (f : Nat → Nat → Bool) : Heap :=
  H ++ [.row 0 r 0 true, .row 0 [.int .i64 0, .nils] 0 true, .row 0 (gcells (wf (fun _ => 0))) 0 true, .row 0 [.int .i64 (n : Int), v] 0 true, .row 0 (gcells f) 0 true]
theorem HM_len {r : List AV} {n : Nat} {v : AV} {f : Nat → Nat → Bool} : (HM H r n v f).length = H.length + 5 := by simp [HM]
theorem HM_r {r : List AV} {n : Nat} {v : AV} {f : Nat → Nat → Bool} : (HM H r n v f)[H.length]? = some (.row 0 r 0 true) := by simp [HM, own_get0]
theorem HM_1 {r : List AV} {n : Nat} {v : AV} {f : Nat → Nat → Bool} : (HM H r n v f)[H.length + 1]? = some (.row 0 [.int .i64 0, .nils] 0 true) := by simp [HM, own_get]
theorem HM_h {r : List AV} {n : Nat} {v : AV} {f : Nat → Nat → Bool} : (HM H r n v f)[H.length + 3]? = some (.row 0 [.int .i64 (n : Int), v] 0 true) := by simp [HM, own_get]
theorem HM_f {r : List AV} {n : Nat} {v : AV} {f : Nat → Nat → Bool} : (HM H r n v f)[H.length + 4]? = some (.row 0 (gcells f) 0 true) := by simp [HM, own_get]
theorem HM_seth {r : List AV} {n : Nat} {v v' : AV} {f : Nat → Nat → Bool} : (HM H r n v f).set (H.length + 3) (.row 0 [.int .i64 (n : Int), v'] 0 true) = HM H r n v' f := by simp [HM, own_set]
theorem HM_setf {r : List AV} {n : Nat} {v : AV} {f f' : Nat → Nat → Bool} : (HM H r n v f).set (H.length + 4) (.row 0 (gcells f') 0 true) = HM H r n v f' := by simp [HM, own_set]
theorem l35a {n bits b : Nat} {p : AV} {H0 : Heap} (hbits : bits < 4294967296) (hn : n ≤ 8) (hb : b < n) (hbar : bar ≤ H0.length) {R : PQ} :
    ∀ (k a : Nat), a + k = b → ∀ (l : List ZZ) (w : Nat → Nat) (v : AV) (Hc : Heap), MadeTo n bits b a l w → Grow 2 (prs l) (HM H0 [p, .int .u32 (bits : Nat)] n v (wf w)) v Hc →
    (∀ l' w' v' Hc', MadeTo n bits b b l' w' → Grow 2 (prs l') (HM H0 [p, .int .u32 (bits : Nat)] n v' (wf w')) v' Hc' →
      R (.exit 2) [(2, .ptr H0.length 0 0), (4, .ptr (H0.length + 1) 0 0), (5, .ptr (H0.length + 2) 0 0), (6, .ptr (H0.length + 3) 0 0), (7, .ptr (H0.length + 4) 0 0), (8, .int .i64 ((tri b + b : Nat) : Int)), (19, .int .i64 (n : Nat)), (20, .int .i64 (b : Nat)), (9, .int .i64 (b : Nat)), (23, .int .i64 (b : Nat)), (24, .int .i64 (b : Nat)), (25, .bool false)] Hc') →
    Wp E H0.length bar (.loop c35_l0) [(2, .ptr H0.length 0 0), (4, .ptr (H0.length + 1) 0 0), (5, .ptr (H0.length + 2) 0 0), (6, .ptr (H0.length + 3) 0 0), (7, .ptr (H0.length + 4) 0 0), (8, .int .i64 ((tri b + a : Nat) : Int)), (19, .int .i64 (n : Nat)), (20, .int .i64 (b : Nat)), (9, .int .i64 (b : Nat)), (23, .int .i64 (b : Nat)), (24, .int .i64 (a : Nat))] Hc R := by
  intro k
  induction k with
  | zero =>
    intro a ha l w v Hc hm g h
    obtain rfl : a = b := by omega
    rw [wp_round c35_l0.eq_1]
    simp [go_sem]
    exact_mod_cast h l w v Hc hm g
  | succ k ih =>
    intro a ha l w v Hc hm g h
    have hlt : a < b := by omega
    have ht : tri b + a < 28 := by have := tri_le (b + 1) (by omega); simp only [tri] at this; omega
    have hll := hm.len
    have lb : aload Hc ⟨false, 1⟩ (.ptr H0.length 0 1) = some (.int .u32 (bits : Nat)) := by rw [aload_ptr (g.get HM_r)]; rfl
    have lv : aload Hc ⟨false, 1⟩ (.ptr (H0.length + 3) 0 1) = some v := by rw [aload_ptr (g.get HM_h)]; rfl
    have hgl := g.len
    rw [HM_len] at hgl
    have e1 : abin .shr (.int .u32 (bits : Int)) (.int .i64 ((tri b : Int) + (a : Int))) = some (.int .u32 ((shrN bits (tri b + a) : Nat) : Int)) := by
      have := shr_u32 (a := bits) (b := tri b + a) (by omega)
      rwa [Int.natCast_add] at this
    have e2 := and_u32_one (a := shrN bits (tri b + a)) (Nat.lt_of_le_of_lt shrN_le hbits)
    rw [shrN_bit] at e2
    have e4 : IntKind.i64.wrap ((tri b : Int) + (a : Int) + 1) = (tri b : Int) + ((a : Int) + 1) := by
      have := i64_suc (i := tri b + a) (by omega)
      rw [Int.natCast_add] at this
      rw [this]; omega
    rw [wp_round c35_l0.eq_1]
    cases hc : bits.testBit (tri b + a)
    · rw [hc] at e2
      have := ih (a + 1) (by omega) l w v Hc (hm.skip hlt hc) g h
      simp [go_sem, hlt, lb, e1, e2, e4, i64_suc (show a < 1000000 by omega)]
      simpa using this
    · rw [hc] at e2
      simp [go_sem, hlt, lb, e1, e2, lv, aop, fillA, setCells, chunks]
      refine g.pair (p := ((a : Int), (b : Int))) (by rw [HM_len]; omega) (by rw [HM_len]; omega) (by omega) fun v' H' tc g' => ?_
      obtain ⟨s1, s2⟩ := grow_slot g'
      simp [go_sem]
      rw [storeWp_ptr (size := 1) (g'.get HM_h) s1 (by rw [s2]; rfl) (by omega) (by simp) (by omega) (.inl (by omega))]
      have g2 := g'.set (i := H0.length + 3) (b := .row 0 [.int .i64 (n : Int), v'] 0 true) (by rw [HM_len]; omega)
      rw [HM_seth] at g2
      simp [go_sem, s2, show a < 8 by omega, show b < 8 by omega]
      rw [storeG (g2.get HM_f) (by omega) (by omega) (by omega)]
      have g3 := g2.set (i := H0.length + 4) (b := .row 0 (gcells (upd2 (wf w) a b true)) 0 true) (by rw [HM_len]; omega)
      rw [HM_setf] at g3
      simp [go_sem, show a < 8 by omega, show b < 8 by omega]
      rw [storeG (g3.get HM_f) (by omega) (by omega) (by omega)]
      have g4 := g3.set (i := H0.length + 4) (b := .row 0 (gcells (upd2 (upd2 (wf w) a b true) b a true)) 0 true) (by rw [HM_len]; omega)
      rw [HM_setf, wf_join (by omega)] at g4
      rw [wf_join (by omega)]
      have := ih (a + 1) (by omega) _ _ v' _ (hm.put hlt hb hc) g4 h
      simp [go_sem, e4, i64_suc (show a < 1000000 by omega)]
      simpa using this
theorem l35 {n bits : Nat} {p : AV} {H0 : Heap} (hbits : bits < 4294967296) (hn : n ≤ 8) (hbar : bar ≤ H0.length) {R : PQ} :
    ∀ (k b : Nat), b + k = n → ∀ (l : List ZZ) (w : Nat → Nat) (v : AV) (Hc : Heap), MadeTo n bits b 0 l w → Grow 2 (prs l) (HM H0 [p, .int .u32 (bits : Nat)] n v (wf w)) v Hc →
    (∀ l' w' v' Hc', MadeTo n bits n 0 l' w' → Grow 2 (prs l') (HM H0 [p, .int .u32 (bits : Nat)] n v' (wf w')) v' Hc' →
      R (.exit 0) [(2, .ptr H0.length 0 0), (4, .ptr (H0.length + 1) 0 0), (5, .ptr (H0.length + 2) 0 0), (6, .ptr (H0.length + 3) 0 0), (7, .ptr (H0.length + 4) 0 0), (8, .int .i64 ((tri n : Nat) : Int)), (19, .int .i64 (n : Nat)), (20, .int .i64 (n : Nat)), (21, .bool false)] Hc') →
    Wp E H0.length bar (.loop c35_l1) [(2, .ptr H0.length 0 0), (4, .ptr (H0.length + 1) 0 0), (5, .ptr (H0.length + 2) 0 0), (6, .ptr (H0.length + 3) 0 0), (7, .ptr (H0.length + 4) 0 0), (8, .int .i64 ((tri b : Nat) : Int)), (19, .int .i64 (n : Nat)), (20, .int .i64 (b : Nat))] Hc R := by
  intro k
  induction k with
  | zero =>
    intro b hb l w v Hc hm g h
    obtain rfl : b = n := by omega
    rw [wp_round c35_l1.eq_1]
    simp [go_sem]
    exact h l w v Hc hm g
  | succ k ih =>
    intro b hb l w v Hc hm g h
    have hlt : b < n := by omega
    rw [wp_round c35_l1.eq_1]
    simp [go_sem, hlt]
    refine l35a hbits hn hlt hbar b 0 (by omega) l w v Hc hm g fun l' w' v' Hc' hm' g' => ?_
    have := ih (b + 1) (by omega) l' w' v' Hc' hm'.next g' h
    simp [go_sem, i64_suc (show b < 1000000 by omega)]
    simpa [tri] using this
theorem k35 {p bits most n : Nat} (hp : p < 256) (hbits : bits < 4294967296) (h1 : 1 ≤ most) (h8 : most ≤ 8) (hbar : bar ≤ H.length) (hn : n = 1 + p % most)
    (h : ∀ q l w, isP q l → MadeOK n bits l w → Q (.tup [.agg [.int .i64 (n : Nat), q], .agg (gcells (wf w))]) H) :
    WpCall E pure base bar 35 [.agg [.int .u8 (p : Nat), .int .u32 (bits : Nat)], .int .i64 (most : Nat)] H Q := by
  rw [call35]
  have hb' := bar_ok (pure := pure) hbar
  have hm : (p : Int).tmod (most : Int) = (p : Int) % (most : Int) := Go.IntWalk.rem_in _ _ (by omega)
  have hmod : p % most < most := Nat.mod_lt _ (by omega)
  have hw : IntKind.i64.wrap (1 + (p : Int) % (most : Int)) = (n : Int) := by
    rw [show (1 : Int) + (p : Int) % (most : Int) = (n : Int) by rw [hn]; simp, i64_nat (by omega)]
  simp [go_sem, WpFun, c35] at hb' ⊢
  generalize (if pure = true then H.length else bar) = bar' at hb' ⊢
  simp [go_sem, aload, own_get0, own_get, Ab.part, i64_nat (show p < 9223372036854775808 by omega), abin_rem (show (most : Int) ≠ 0 by omega), hm, hw, storeWp, astore, own_set, setCells, show bar' ≤ H.length + 3 by omega]
  refine l35 hbits (show n ≤ 8 by omega) hb' n 0 (by omega) [] _ .nils _ .zero .nil fun l w v Hc hmade g => ?_
  obtain ⟨s1, s2⟩ := grow_slot g
  simp [go_sem, aload_ptr (g.get HM_h), loadGG (g.get HM_f)]
  have hm1 := hmade.done (by omega) (by omega)
  rw [storeWp_ptr (size := 2) (g.get HM_1) rfl rfl (by omega) (by simp) (by omega) (.inl (by omega))]
  have g2 := g.set (i := H.length + 1) (b := .row 0 [.int .i64 (n : Int), v] 0 true) (by rw [HM_len]; omega)
  have e2 : ((HM H [.int .u8 (p : Int), .int .u32 (bits : Int)] n v (wf w)).set (H.length + 1) (.row 0 [.int .i64 (n : Int), v] 0 true))[H.length + 2]? = some (.row 0 (gcells (wf (fun _ => 0))) 0 true) := by simp [HM, own_set, own_get]
  simp [go_sem]
  rw [storeGG (g2.get e2) (by omega)]
  have g3 := g2.set (i := H.length + 2) (b := .row 0 (gcells (wf w)) 0 true) (by simp [HM_len])
  have e3 : (((HM H [.int .u8 (p : Int), .int .u32 (bits : Int)] n v (wf w)).set (H.length + 1) (.row 0 [.int .i64 (n : Int), v] 0 true)).set (H.length + 2) (.row 0 (gcells (wf w)) 0 true))[H.length + 1]? = some (.row 0 [.int .i64 (n : Int), v] 0 true) := by simp [HM, own_set, own_get]
  have e4 : (((HM H [.int .u8 (p : Int), .int .u32 (bits : Int)] n v (wf w)).set (H.length + 1) (.row 0 [.int .i64 (n : Int), v] 0 true)).set (H.length + 2) (.row 0 (gcells (wf w)) 0 true))[H.length + 2]? = some (.row 0 (gcells (wf w)) 0 true) := by simp [HM, own_set, own_get]
  have hl3 : (((HM H [.int .u8 (p : Int), .int .u32 (bits : Int)] n v (wf w)).set (H.length + 1) (.row 0 [.int .i64 (n : Int), v] 0 true)).set (H.length + 2) (.row 0 (gcells (wf w)) 0 true)).length = H.length + 5 := by simp [HM_len]
  obtain ⟨H2, f1, f2, f3, f4⟩ := g3.frz (d := 4) (bar := bar') (by decide) ⟨_, prs_length⟩ prs_plain (by rw [hl3]; omega)
  have e5 : H2.take H.length = H := by
    have := congrArg (List.take H.length) f4
    rw [List.take_take, hl3, Nat.min_eq_left (by omega)] at this
    rw [this]; simp [HM, own_set]
  rw [show 4 + 3 = 7 from rfl] at f1
  simp [go_sem, aload_ptr (g3.get e3), loadGG (g3.get e4), f1]
  rw [plains (d := 5) gcells_plain]
  simp [go_sem, isP.out.top, e5]
  exact h _ l w isP.out hm1
end Go.Proofs.Ythoogegclpiefaa.Code
end
section
namespace Go.Proofs.Ythoogegclpiefaa.Code
open Go Go.Ab
variable {pure : Bool} {base bar : Nat} {H : Heap} {Q : AV → Heap → Prop}
end Go.Proofs.Ythoogegclpiefaa.Code
end
section
namespace Go.Proofs.Ythoogegclpiefaa.Code
open Go Go.Ab
variable {pure : Bool} {base bar : Nat} {H : Heap} {Q : AV → Heap → Prop}
end Go.Proofs.Ythoogegclpiefaa.Code
end
section
namespace Go.Proofs.Ythoogegclpiefaa.Code
open Go Go.Ab
variable {pure : Bool} {base bar : Nat} {H : Heap} {Q : AV → Heap → Prop}
end Go.Proofs.Ythoogegclpiefaa.Code
end
section
namespace Go.Proofs.Ythoogegclpiefaa.Code
open Go Go.Ab
variable {pure : Bool} {base bar : Nat} {H : Heap} {Q : AV → Heap → Prop}
end Go.Proofs.Ythoogegclpiefaa.Code
end
section
namespace Go.Proofs.Ythoogegclpiefaa.Code
open Go Go.Ab
end Go.Proofs.Ythoogegclpiefaa.Code
end
section
namespace Go.Proofs.Ythoogegclpiefaa.Code
open Go Go.Ab
/-! the greatest of a list -/
def maxL (l : List Nat) : Nat := l.foldl max 0
end Go.Proofs.Ythoogegclpiefaa.Code
end
section
namespace Go.Proofs.Ythoogegclpiefaa.Code
open Go Go.Ab
end Go.Proofs.Ythoogegclpiefaa.Code
end
section
namespace Go.Proofs.Ythoogegclpiefaa.Code
open Go Go.Ab
variable {pure : Bool} {base bar : Nat} {H : Heap} {Q : AV → Heap → Prop}
/-! 55: the greatest -/
theorem take_max {l : List Nat} {i : Nat} (hi : i < l.length) : maxL (l.take (i + 1)) = max (maxL (l.take i)) l[i] := by
  unfold maxL
  rw [List.take_succ_eq_append_getElem hi, List.foldl_append]
  rfl
theorem l55 {v : AV} {l : List Nat} (hv : isL v l) (hl : l.length < 1000) {R : PQ} : ∀ (k i : Nat), i + k = l.length →
    R (.exit 0) [(0, v), (3, .int .i64 (maxL l : Nat)), (4, .int .i64 (l.length : Nat)), (15, .bool false)] H →
    Wp E base bar (.loop c55_l0) [(0, v), (3, .int .i64 (maxL (l.take i) : Nat)), (4, .int .i64 (i : Nat))] H R := by
  intro k
  induction k with
  | zero =>
    intro i hi h
    obtain rfl : i = l.length := by omega
    rw [wp_round c55_l0.eq_1]
    simp [go_sem, hv.len]
    exact h
  | succ k ih =>
    intro i hi h
    have hlt : i < l.length := by omega
    have hx := ih (i + 1) (by omega) h
    rw [take_max hlt] at hx
    have e : (if maxL (l.take i) < l[i] then ((l[i] : Nat) : Int) else ((maxL (l.take i) : Nat) : Int)) = ((max (maxL (l.take i)) l[i] : Nat) : Int) := by
      split <;> omega
    rw [wp_round c55_l0.eq_1]
    simp [go_sem, hv.len, hlt, hv.ix hlt, aop, i64_suc (show i < 1000000 by omega)]
    rw [e]
    exact hx
theorem k55 {v : AV} {l : List Nat} (hv : isL v l) (hl : l.length < 1000) (hne : 1 ≤ l.length) (h : Q (.int .i64 (maxL l : Nat)) H) : WpCall E pure base bar 55 [v] H Q := by
  rw [call55]
  cases l with
  | nil => simp at hne
  | cons c r =>
    simp [go_sem, WpFun, c55, hv.frz, hv.len, hv.ix0, show ¬ ((r.length : Int) + 1 < 1) by omega]
    have e1 : maxL ((c :: r).take 1) = c := by simp [maxL]
    have := l55 (base := H.length) (bar := if pure = true then H.length else bar) (H := H) hv hl (R := exitWp 0 (thenWp E H.length (if pure = true then H.length else bar)
              (((ACode.reg
                    [{ dst := some 24, op := AOp.mv (Opd.t 3), guard := none },
                      { dst := some 2, op := AOp.mv (Opd.t 24), guard := none }]
                    [2]).seq
                ACode.ret)) (retWp 0 H.length (if pure = true then H.length else bar) [ARes.tmp 2] Q))) r.length 1 (by simp; omega) (by simp [go_sem]; exact h)
    rw [e1] at this
    exact this
end Go.Proofs.Ythoogegclpiefaa.Code
end
section
namespace Go.Proofs.Ythoogegclpiefaa.Code
open Go Go.Ab
variable {pure : Bool} {base bar : Nat} {H : Heap} {Q : AV → Heap → Prop} {K : AV → Heap → List Nat → Prop}
/-! 86: the least -/
def minL : List Nat → Nat
  | [] => 0
  | c :: r => r.foldl min c
theorem take_min {l : List Nat} {i : Nat} (h1 : 1 ≤ i) (hi : i < l.length) : minL (l.take (i + 1)) = min (minL (l.take i)) l[i] := by
  rw [List.take_succ_eq_append_getElem hi]
  cases l with
  | nil => simp at hi
  | cons c r =>
    obtain ⟨j, rfl⟩ : ∃ j, i = j + 1 := ⟨i - 1, by omega⟩
    simp only [List.take_succ_cons, List.cons_append, minL, List.foldl_append, List.foldl_cons, List.foldl_nil]
theorem l86 {v : AV} {l : List Nat} (hv : isL v l) (hl : l.length < 1000) {R : PQ} : ∀ (k i : Nat), i + k = l.length → 1 ≤ i →
    R (.exit 0) [(0, v), (3, .int .i64 (minL l : Nat)), (4, .int .i64 (l.length : Nat)), (15, .bool false)] H →
    Wp E base bar (.loop c86_l0) [(0, v), (3, .int .i64 (minL (l.take i) : Nat)), (4, .int .i64 (i : Nat))] H R := by
  intro k
  induction k with
  | zero =>
    intro i hi h1 h
    obtain rfl : i = l.length := by omega
    rw [wp_round c86_l0.eq_1]
    simp [go_sem, hv.len]
    exact h
  | succ k ih =>
    intro i hi h1 h
    have hlt : i < l.length := by omega
    have hx := ih (i + 1) (by omega) (by omega) h
    rw [take_min h1 hlt] at hx
    have e : (if (l[i] : Nat) < minL (l.take i) then ((l[i] : Nat) : Int) else ((minL (l.take i) : Nat) : Int)) = ((min (minL (l.take i)) l[i] : Nat) : Int) := by
      split <;> omega
    rw [wp_round c86_l0.eq_1]
    simp [go_sem, hv.len, hlt, hv.ix hlt, aop, i64_suc (show i < 1000000 by omega)]
    rw [e]
    exact hx
theorem k86 {v : AV} {l : List Nat} (hv : isL v l) (hl : l.length < 1000) (hne : 1 ≤ l.length) (h : Q (.int .i64 (minL l : Nat)) H) : WpCall E pure base bar 86 [v] H Q := by
  rw [call86]
  cases l with
  | nil => simp at hne
  | cons c r =>
    simp [go_sem, WpFun, c86, hv.frz, hv.len, hv.ix0, show ¬ ((r.length : Int) + 1 < 1) by omega]
    have e1 : minL ((c :: r).take 1) = c := by simp [minL]
    have := l86 (base := H.length) (bar := if pure = true then H.length else bar) (H := H) hv hl (R := exitWp 0 (thenWp E H.length (if pure = true then H.length else bar)
              (((ACode.reg
                    [{ dst := some 24, op := AOp.mv (Opd.t 3), guard := none },
                      { dst := some 2, op := AOp.mv (Opd.t 24), guard := none }]
                    [2]).seq
                ACode.ret)) (retWp 0 H.length (if pure = true then H.length else bar) [ARes.tmp 2] Q))) r.length 1 (by simp; omega) (by omega) (by simp [go_sem]; exact h)
    rw [e1] at this
    exact this
/-! of a list under construction -/
theorem k55f {args args' : List AV} {H2 H3 : Heap} (hf : frzAll bar H2 args = some (args', H3)) (hf2 : frzAll bar H3 args' = some (args', H3)) (h : WpCall E pure base bar 55 args' H3 Q) : WpCall E pure base bar 55 args H2 Q := by
  rw [call55, hf2] at h
  rw [call55, hf]
  exact h
theorem k86f {args args' : List AV} {H2 H3 : Heap} (hf : frzAll bar H2 args = some (args', H3)) (hf2 : frzAll bar H3 args' = some (args', H3)) (h : WpCall E pure base bar 86 args' H3 Q) : WpCall E pure base bar 86 args H2 Q := by
  rw [call86, hf2] at h
  rw [call86, hf]
  exact h
theorem k55o {k : Nat} {v : AV} {l : List Nat} (o : Own k 1 (nats l) v H) (hb : bar ≤ k) (hl : l.length < 1000) (hne : 1 ≤ l.length)
    (h : ∀ H', Own k 1 (nats l) v H' → H'.length = H.length → (∀ j, idOf v ≠ some j → H'[j]? = H[j]?) → Q (.int .i64 (maxL l : Nat)) H') : WpCall E pure base bar 55 [v] H Q := by
  obtain ⟨H2, f1, f2, f3, f4⟩ := o.frz (bar := bar) (d := 5) (by decide) (Nat.one_dvd _) nats_plain hb
  have hu : isL (outL 1 (nats l)) l := isL.out
  exact k55f (args' := [outL 1 (nats l)]) (H3 := H2) (by simp [frzAll, frz.frzs, frzsW, f1]) (by simp [frzAll, frz.frzs, frzsW, hu.frz]) (k55 hu hl hne (h H2 f2 f3 f4))
theorem k86o {k : Nat} {v : AV} {l : List Nat} (o : Own k 1 (nats l) v H) (hb : bar ≤ k) (hl : l.length < 1000) (hne : 1 ≤ l.length)
    (h : ∀ H', Own k 1 (nats l) v H' → H'.length = H.length → (∀ j, idOf v ≠ some j → H'[j]? = H[j]?) → Q (.int .i64 (minL l : Nat)) H') : WpCall E pure base bar 86 [v] H Q := by
  obtain ⟨H2, f1, f2, f3, f4⟩ := o.frz (bar := bar) (d := 5) (by decide) (Nat.one_dvd _) nats_plain hb
  have hu : isL (outL 1 (nats l)) l := isL.out
  exact k86f (args' := [outL 1 (nats l)]) (H3 := H2) (by simp [frzAll, frz.frzs, frzsW, f1]) (by simp [frzAll, frz.frzs, frzsW, hu.frz]) (k86 hu hl hne (h H2 f2 f3 f4))
/-! a set as a map -/
def mks (ks : List Nat) : List (AV × AV) := ks.map fun (k : Nat) => (AV.int .i64 (k : Int), AV.bool true)
def addS (ks : List Nat) (k : Nat) : List Nat := if ks.contains k then ks else ks ++ [k]
theorem mfind_mks {k : Nat} : ∀ {ks : List Nat} {i : Nat}, mfind .i64 (k : Int) (mks ks) i = if ks.contains k then some (some (i + ks.idxOf k, .bool true)) else some none
  | [], i => rfl
  | x :: r, i => by
    simp only [mks, List.map_cons, mfind, if_true]
    by_cases h : k = x
    · subst h; simp
    · have hne : ¬ ((k : Int) = (x : Int)) := by omega
      have ih := mfind_mks (k := k) (ks := r) (i := i + 1)
      rw [if_neg hne]
      rw [show (List.map (fun (k : Nat) => (AV.int .i64 (k : Int), AV.bool true)) r) = mks r from rfl, ih]
      have hb : (x == k) = false := by simpa using fun h' => h h'.symm
      have hb' : (k == x) = false := by simpa using h
      have e1 : (x :: r).contains k = r.contains k := by rw [List.contains_cons, hb', Bool.false_or]
      have e2 : (x :: r).idxOf k = r.idxOf k + 1 := by simp [List.idxOf_cons, hb]
      rw [e1, e2, show i + 1 + r.idxOf k = i + (r.idxOf k + 1) by omega]
theorem mks_set {k : Nat} : ∀ {ks : List Nat}, ks.contains k = true → (mks ks).set (ks.idxOf k) (AV.int .i64 (k : Int), AV.bool true) = mks ks
  | [], h => by simp at h
  | x :: r, h => by
    by_cases hx : x = k
    · subst hx; simp [mks]
    · have hb : (x == k) = false := by simpa using hx
      have hr : r.contains k = true := by
        simp only [List.contains_cons, Bool.or_eq_true, beq_iff_eq] at h
        rcases h with h | h
        · exact (hx h.symm).elim
        · simpa using h
      have := mks_set hr
      simp only [List.idxOf_cons, hb, cond_false, mks, List.map_cons, List.set_cons_succ] at this ⊢
      rw [this]
theorem mupd_mks {base bar id : Nat} {H : Heap} {fr : Ab.Frame} {m k v : Opd} {ks : List Nat} {x : Nat} (hm : m.ev fr = some (.mp id)) (hk : k.ev fr = some (.int .i64 (x : Int))) (hv : v.ev fr = some (.bool true)) (hb : bar ≤ id) (hH : H[id]? = some (.map (mks ks))) :
    aop base bar (.mupd m k v) fr H = some (.tup [], H.set id (.map (mks (addS ks x))), [id]) := by
  simp only [aop, hm, hk, hv, hH, mfind_mks]
  have hnv : ¬ ¬ (AV.top (.bool true) = 0 ∧ AV.isTup (.bool true) = false ∧ bar ≤ id) := by simp [hb, AV.top, AV.isTup]
  rw [if_neg hnv]
  cases hc : ks.contains x
  · have e : addS ks x = ks ++ [x] := by unfold addS; rw [hc]; rfl
    rw [e]; simp [mks]
  · have e : addS ks x = ks := by unfold addS; rw [hc]; rfl
    rw [e]
    simp only [if_true, Nat.zero_add]
    rw [mks_set hc]
theorem mupd_wp {base bar id : Nat} {H : Heap} {fr : Ab.Frame} {m k v : Opd} {ks : List Nat} {x : Nat} {K : AV → Heap → List Nat → Prop} (hm : m.ev fr = some (.mp id)) (hk : k.ev fr = some (.int .i64 (x : Int))) (hv : v.ev fr = some (.bool true)) (hb : bar ≤ id) (hH : H[id]? = some (.map (mks ks)))
    (h : K (.tup []) (H.set id (.map (mks (addS ks x)))) [id]) : opWp (aop base bar (.mupd m k v) fr H) K := by
  rw [mupd_mks hm hk hv hb hH]
  exact h
theorem mlook_wp {base bar id : Nat} {H : Heap} {fr : Ab.Frame} {m k : Opd} {ks : List Nat} {x : Nat} {K : AV → Heap → List Nat → Prop} (hm : m.ev fr = some (.mp id)) (hk : k.ev fr = some (.int .i64 (x : Int))) (hH : H[id]? = some (.map (mks ks)))
    (h : K (.bool (ks.contains x)) H []) : opWp (aop base bar (.mlook (.bool false) false m k) fr H) K := by
  have e : aop base bar (.mlook (.bool false) false m k) fr H = some (.bool (ks.contains x), H, []) := by
    simp only [aop, hm, hk, hH, mfind_mks]
    cases ks.contains x <;> rfl
  rw [e]
  exact h
end Go.Proofs.Ythoogegclpiefaa.Code
end
section
namespace Go.Proofs.Ythoogegclpiefaa.Code
open Go Go.Ab
variable {pure : Bool} {base bar : Nat} {H : Heap} {Q : AV → Heap → Prop} {K : AV → Heap → List Nat → Prop}
/-! 56: is it even -/
def freeB (f : Nat → Nat → Bool) (a b c : Nat) : List Nat := (List.range' b c).filter fun y => !f a y
def evL (f : Nat → Nat → Bool) (n : Nat) : Nat → Nat → List Nat → List Nat → List Nat
  | 0, _, _, l => l
  | c + 1, a, ks, l => if ks.contains a then evL f n c (a + 1) ks l else evL f n c (a + 1) ((freeB f a 0 n).foldl addS ks) (l ++ [(freeB f a 0 n).length])
def evenG (f : Nat → Nat → Bool) (n k : Nat) : Bool := partG f n && (decide ((evL f n n 0 [] []).length = k) && decide (maxL (evL f n n 0 [] []) ≤ minL (evL f n n 0 [] []) + 1))
theorem l56_0 {F M n k a k0 : Nat} {f : Nat → Nat → Bool} {l : List Nat} {v : AV} {H0 : Heap} (hn : n ≤ 8) (ha : a < n) (hMF : M ≠ F) (hM0 : M < k0) (hM : bar ≤ M) (hH0 : H0.length ≤ M) {R : PQ} : ∀ (c b cnt : Nat) (ks : List Nat) (Hc : Heap), b + c = n → cnt ≤ b → Hc[F]? = some (.row 0 (gcells f) 0 true) → Hc[M]? = some (.map (mks ks)) → Own k0 1 (nats l) v Hc → Hc.take H0.length = H0 →
    (∀ Hc', Hc'.length = Hc.length → Hc'[F]? = some (.row 0 (gcells f) 0 true) → Hc'[M]? = some (.map (mks ((freeB f a b c).foldl addS ks))) → Own k0 1 (nats l) v Hc' → Hc'.take H0.length = H0 →
      R (.exit 2) [(1, .int .i64 (n : Nat)), (2, .int .i64 (k : Nat)), (3, .ptr F 0 0), (7, v), (8, .mp M), (17, .int .i64 (n : Nat)), (18, .int .i64 (a : Nat)), (9, .int .i64 (a : Nat)), (10, .int .i64 ((cnt + (freeB f a b c).length : Nat) : Int)), (24, .int .i64 (n : Nat)), (25, .int .i64 (n : Nat)), (26, .bool false)] Hc') →
    Wp E base bar (.loop c56_l0) [(1, .int .i64 (n : Nat)), (2, .int .i64 (k : Nat)), (3, .ptr F 0 0), (7, v), (8, .mp M), (17, .int .i64 (n : Nat)), (18, .int .i64 (a : Nat)), (9, .int .i64 (a : Nat)), (10, .int .i64 (cnt : Nat)), (24, .int .i64 (n : Nat)), (25, .int .i64 (b : Nat))] Hc R := by
  intro c
  induction c with
  | zero =>
    intro b cnt ks Hc hb hcnt hF hMk g hT h
    obtain rfl : b = n := by omega
    rw [wp_round c56_l0.eq_1]
    simp [go_sem]
    have := h Hc rfl hF (by simpa [freeB] using hMk) g hT
    simpa [freeB] using this
  | succ c ih =>
    intro b cnt ks Hc hb hcnt hF hMk g hT h
    have hlt : b < n := by omega
    have hs := i64_suc (show b < 1000000 by omega)
    have hs2 := i64_suc (show cnt < 1000000 by omega)
    have g1 := loadG hF (show a < 8 by omega) (show b < 8 by omega) (s := 1)
    have hfr : freeB f a b (c + 1) = (if f a b = true then [] else [b]) ++ freeB f a (b + 1) c := by
      unfold freeB
      rw [List.range'_succ, List.filter_cons]
      cases f a b <;> simp
    rw [hfr] at h
    rw [wp_round c56_l0.eq_1]
    cases hfab : f a b
    · rw [hfab] at g1 h
      simp [go_sem, hlt, show a < 8 by omega, show b < 8 by omega, g1]
      refine mupd_wp (id := M) (ks := ks) (x := b) rfl rfl rfl hM hMk ?_
      have g' : Own k0 1 (nats l) v (Hc.set M (.map (mks (addS ks b)))) := g.mono fun j hj => by
        have := (g.lt hj).1
        rw [List.getElem?_set]
        rw [if_neg (by omega)]
      have hMl := (List.getElem?_eq_some_iff.1 hMk).1
      have next := ih (b + 1) (cnt + 1) (addS ks b) (Hc.set M (.map (mks (addS ks b)))) (by omega) (by omega) (by rw [List.getElem?_set, if_neg hMF]; exact hF) (by rw [List.getElem?_set, if_pos rfl, if_pos hMl]) g' (by rw [List.take_set_of_le hH0, hT]) (fun Hc' h1 h2 h3 h4 h5 => by
        have := h Hc' (by rw [h1]; simp) h2 (by simpa using h3) h4 h5
        simp only [Bool.false_eq_true, if_false, List.length_append, List.length_singleton] at this
        rw [show cnt + 1 + (freeB f a (b + 1) c).length = cnt + (1 + (freeB f a (b + 1) c).length) by omega]
        exact this)
      simp [go_sem, hs, hs2]
      exact next
    · rw [hfab] at g1 h
      have next := ih (b + 1) cnt ks Hc (by omega) (by omega) hF hMk g hT (by simpa using h)
      simp [go_sem, hlt, show a < 8 by omega, show b < 8 by omega, g1, hs]
      exact next
theorem ownNat {k bytes x : Nat} {A : List Nat} {v : AV} {ex : Bool} (g : Own k 1 (nats A) v H) (hk : k ≤ H.length) (hb : bar ≤ k) (hbase : base ≤ k) (hlen : (A.length + 1) * bytes ≤ 140737488355328)
    (h : ∀ v' H' tc, Own k 1 (nats (A ++ [x])) v' H' → Kept1 v v' H H' tc → K v' H' tc) : appWp base bar 1 bytes (some v) (some (.lst 1 ex [.int .i64 (x : Int)])) H K := by
  refine g.app hk (by omega) (Nat.one_dvd _) (fun c hc => ?_) rfl (Nat.one_dvd _) hb hbase ?_ fun v' H' tc g' kp => h v' H' tc ?_ kp
  · simp [AV.cells] at hc; subst hc; exact Plain.int
  · simpa [nats, AV.cells] using hlen
  · simpa [nats, AV.cells] using g'
theorem l56_1 {F M n k k0 : Nat} {f : Nat → Nat → Bool} {H0 : Heap} (hn : n ≤ 8) (hMF : M ≠ F) (hF0 : F < k0) (hM0 : M < k0) (hM : bar ≤ M) (hH0 : H0.length ≤ M) (hbase : base ≤ k0) {R : PQ} : ∀ (c a : Nat) (ks l : List Nat) (v : AV) (Hc : Heap), a + c = n → l.length ≤ a → k0 ≤ Hc.length → Hc[F]? = some (.row 0 (gcells f) 0 true) → Hc[M]? = some (.map (mks ks)) → Own k0 1 (nats l) v Hc → Hc.take H0.length = H0 →
    (∀ Hc' v', Own k0 1 (nats (evL f n c a ks l)) v' Hc' → k0 ≤ Hc'.length → Hc'.take H0.length = H0 →
      R (.exit 0) [(1, .int .i64 (n : Nat)), (2, .int .i64 (k : Nat)), (3, .ptr F 0 0), (7, v'), (8, .mp M), (17, .int .i64 (n : Nat)), (18, .int .i64 (n : Nat)), (19, .bool false)] Hc') →
    Wp E base bar (.loop c56_l1) [(1, .int .i64 (n : Nat)), (2, .int .i64 (k : Nat)), (3, .ptr F 0 0), (7, v), (8, .mp M), (17, .int .i64 (n : Nat)), (18, .int .i64 (a : Nat))] Hc R := by
  intro c
  induction c with
  | zero =>
    intro a ks l v Hc ha hl hkl hF hMk g hT h
    obtain rfl : a = n := by omega
    rw [wp_round c56_l1.eq_1]
    simp [go_sem]
    exact h Hc v g hkl hT
  | succ c ih =>
    intro a ks l v Hc ha hl hkl hF hMk g hT h
    have hlt : a < n := by omega
    have hs := i64_suc (show a < 1000000 by omega)
    rw [wp_round c56_l1.eq_1]
    simp [go_sem, hlt]
    refine mlook_wp (id := M) (ks := ks) (x := a) rfl rfl hMk ?_
    simp only [evL] at h
    by_cases hc : ks.contains a = true
    · rw [if_pos hc] at h
      rw [hc]
      simp [go_sem, hs]
      exact ih (a + 1) ks l v Hc (by omega) (by omega) hkl hF hMk g hT h
    · rw [if_neg hc] at h
      rw [show ks.contains a = false by simpa using hc]
      simp [go_sem]
      refine l56_0 (H0 := H0) (F := F) (M := M) (k0 := k0) (f := f) (l := l) hn hlt hMF hM0 hM hH0 n 0 0 ks Hc (by omega) (Nat.le_refl _) hF hMk g hT fun H1 h1 h2 h3 h4 h5 => ?_
      rw [Nat.zero_add]
      simp [go_sem, aop, fillA, chunks, setCells, AV.noVec.noVecs, AV.noVec]
      have hfl : (freeB f a 0 n).length ≤ 8 := by
        unfold freeB
        exact Nat.le_trans (List.length_filter_le _ _) (by simp; omega)
      refine ownNat h4 (by omega) (by omega) hbase (by omega) fun v' H2 tc g' kp => ?_
      have hid := fun (j : Nat) (hj : j < k0) => kp.same j (by omega) fun e => by have := (h4.lt e).1; omega
      simp [go_sem, hs]
      refine ih (a + 1) _ _ v' H2 (by omega) (by simp; omega) (by have := kp.len; omega) (by rw [hid F hF0]; exact h2) (by rw [hid M hM0]; exact h3) g' ?_ h
      apply List.ext_getElem?
      intro j
      rw [List.getElem?_take]
      split
      · rename_i hj
        rw [hid j (by omega)]
        have := congrArg (fun l => l[j]?) h5
        simpa [List.getElem?_take, hj] using this
      · rw [List.getElem?_eq_none (by omega)]
theorem ownLen {k : Nat} {l : List Nat} {v : AV} (g : Own k 1 (nats l) v H) : lenWp (some v) H K = K (.int .i64 (l.length : Int)) H [] := by
  rcases g with ⟨h, rfl⟩ | ⟨_, _, _, _, _, _, rfl, _⟩
  · simp [nats] at h; subst h; rfl
  · simp [go_sem, nats]
theorem evL_len {f : Nat → Nat → Bool} {n : Nat} : ∀ {c a : Nat} {ks l : List Nat}, (evL f n c a ks l).length ≤ l.length + c
  | 0, _, _, l => by simp [evL]
  | c + 1, a, ks, l => by
    simp only [evL]
    split
    · have := evL_len (f := f) (n := n) (c := c) (a := a + 1) (ks := ks) (l := l); omega
    · have := evL_len (f := f) (n := n) (c := c) (a := a + 1) (ks := (freeB f a 0 n).foldl addS ks) (l := l ++ [(freeB f a 0 n).length])
      simp at this; omega
theorem evL_le {f : Nat → Nat → Bool} {n : Nat} (hn : n ≤ 8) : ∀ {c a : Nat} {ks l : List Nat}, (∀ x ∈ l, x ≤ 8) → ∀ x ∈ evL f n c a ks l, x ≤ 8
  | 0, _, _, l, h => by simpa [evL] using h
  | c + 1, a, ks, l, h => by
    simp only [evL]
    split
    · exact evL_le hn h
    · refine evL_le hn fun x hx => ?_
      rcases List.mem_append.1 hx with hx | hx
      · exact h x hx
      · simp only [List.mem_singleton] at hx
        subst hx
        unfold freeB
        exact Nat.le_trans (List.length_filter_le _ _) (by simp; omega)
theorem maxL_le8 {l : List Nat} (h : ∀ x ∈ l, x ≤ 8) : maxL l ≤ 8 := by
  have : ∀ (l : List Nat) (a : Nat), a ≤ 8 → (∀ x ∈ l, x ≤ 8) → l.foldl max a ≤ 8 := fun l => by
    induction l with
    | nil => intro a ha _; exact ha
    | cons x r ih => intro a ha h; exact ih _ (by have := h x (List.mem_cons_self ..); omega) fun y hy => h y (List.mem_cons_of_mem _ hy)
  exact this l 0 (by omega) h
theorem minL_le8 {l : List Nat} (h : ∀ x ∈ l, x ≤ 8) : minL l ≤ 8 := by
  have : ∀ (l : List Nat) (a : Nat), a ≤ 8 → l.foldl min a ≤ 8 := fun l => by
    induction l with
    | nil => intro a ha; exact ha
    | cons x r ih => intro a ha; exact ih _ (by omega)
  cases l with
  | nil => exact Nat.zero_le _
  | cons c r => exact this r c (h c (List.mem_cons_self ..))
theorem k56 {n k : Nat} {f : Nat → Nat → Bool} (h1 : 1 ≤ k) (hn : n ≤ 8) (hbar : bar ≤ H.length) (h : Q (.bool (evenG f n k)) H) : WpCall E pure base bar 56 [.agg (gcells f), .int .i64 (n : Int), .int .i64 (k : Int)] H Q := by
  rw [call56]
  have hb' := bar_ok (pure := pure) hbar
  simp [go_sem, WpFun, c56, frz_g] at hb' ⊢
  generalize (if pure = true then H.length else bar) = bar' at hb' ⊢
  rw [loadGG (f := f) (fz := 0) (ex := true) (ver := 0) (by simp [own_get0])]
  simp [go_sem]
  refine k40 hn ?_
  unfold evenG at h
  cases hp : partG f n
  · rw [hp] at h
    simp [go_sem]
    exact h
  · rw [hp, Bool.true_and] at h
    simp [go_sem]
    refine l56_1 (H0 := H) (F := H.length) (M := H.length + 1) (k0 := H.length + 2) (f := f) hn (by omega) (by omega) (by omega) (by omega) (by omega) (by omega) n 0 [] [] .nils _ (by omega) (by simp) (by simp) (by simp [own_get0]) (by simp [own_get, mks]) .nil (by simp) fun Hc v g hkl hT => ?_
    have hle := evL_le (f := f) (n := n) hn (c := n) (a := 0) (ks := []) (l := []) (by simp)
    have hlen := evL_len (f := f) (n := n) (c := n) (a := 0) (ks := []) (l := [])
    generalize evL f n n 0 [] [] = l at *
    simp at hlen
    have e55 : ∀ (H' : Heap), (∀ j, idOf v ≠ some j → H'[j]? = Hc[j]?) → H'.length = Hc.length → H'.take H.length = H := fun H' hs hl => by
      apply List.ext_getElem?
      intro j
      rw [List.getElem?_take]
      split
      · rename_i hj
        rw [hs j fun e => by have := (g.lt e).1; omega]
        have := congrArg (fun l => l[j]?) hT
        simpa [List.getElem?_take, hj] using this
      · rw [List.getElem?_eq_none (by omega)]
    have hlk := fun K => ownLen (K := K) g
    by_cases hk : l.length = k
    · rw [decide_eq_true hk, Bool.true_and] at h
      simp [go_sem, hlk, hk]
      refine k55o g (by omega) (by omega) (by omega) fun H2 g2 l2 s2 => ?_
      simp [go_sem]
      refine k86o g2 (by omega) (by omega) (by omega) fun H3 g3 l3 s3 => ?_
      have e3 := e55 H3 (fun j hj => by rw [s3 j hj, s2 j hj]) (by omega)
      simp [go_sem, e3]
      have m1 := maxL_le8 hle
      have m2 := minL_le8 hle
      have hw : IntKind.i64.wrap (((maxL l : Nat) : Int) - ((minL l : Nat) : Int)) = ((maxL l : Nat) : Int) - ((minL l : Nat) : Int) := Go.IntWalk.i64_in _ (by omega)
      rw [hw, show decide (((maxL l : Nat) : Int) - ((minL l : Nat) : Int) ≤ 1) = decide (maxL l ≤ minL l + 1) by rw [decide_eq_decide]; omega]
      exact h
    · rw [decide_eq_false hk, Bool.false_and] at h
      have hk' : ((l.length : Int) == (k : Int)) = false := by rw [beq_eq_false_iff_ne]; omega
      simp [go_sem, hlk, hk', hT]
      exact h
end Go.Proofs.Ythoogegclpiefaa.Code
end
section
namespace Go.Proofs.Ythoogegclpiefaa.Code
open Go Go.Ab
variable {pure : Bool} {base bar : Nat} {H : Heap} {Q : AV → Heap → Prop} {K : AV → Heap → List Nat → Prop}
/-! 31: how many quarrels there can be; 33: an even house -/
def mostT (n k : Nat) : Nat := (List.range k).foldl (fun m i => m - (n + k - 1 - i) / k * ((n + k - 1 - i) / k - 1) / 2) (n * (n - 1) / 2)
theorem cases15 {n k : Nat} (h1 : 1 ≤ k) (hk : k ≤ n) (hn : n ≤ 5) : (n = 1 ∧ k = 1) ∨ (n = 2 ∧ k = 1) ∨ (n = 2 ∧ k = 2) ∨ (n = 3 ∧ k = 1) ∨ (n = 3 ∧ k = 2) ∨ (n = 3 ∧ k = 3) ∨ (n = 4 ∧ k = 1) ∨ (n = 4 ∧ k = 2) ∨ (n = 4 ∧ k = 3) ∨ (n = 4 ∧ k = 4) ∨ (n = 5 ∧ k = 1) ∨ (n = 5 ∧ k = 2) ∨ (n = 5 ∧ k = 3) ∨ (n = 5 ∧ k = 4) ∨ (n = 5 ∧ k = 5) := by
  have h5 : n = 1 ∨ n = 2 ∨ n = 3 ∨ n = 4 ∨ n = 5 := by omega
  rcases h5 with rfl | rfl | rfl | rfl | rfl
  · have : k = 1 := by omega
    subst this; decide
  · have : k = 1 ∨ k = 2 := by omega
    rcases this with rfl | rfl <;> decide
  · have : k = 1 ∨ k = 2 ∨ k = 3 := by omega
    rcases this with rfl | rfl | rfl <;> decide
  · have : k = 1 ∨ k = 2 ∨ k = 3 ∨ k = 4 := by omega
    rcases this with rfl | rfl | rfl | rfl <;> decide
  · have : k = 1 ∨ k = 2 ∨ k = 3 ∨ k = 4 ∨ k = 5 := by omega
    rcases this with rfl | rfl | rfl | rfl | rfl <;> decide
theorem quoT {a b : Nat} (h : a < 1000000) (hb : 1 ≤ b) : abin .quo (.int .i64 (a : Int)) (.int .i64 (b : Int)) = some (.int .i64 ((a / b : Nat) : Int)) := by
  rw [abin_quo (by omega), Go.IntWalk.i64_quo _ _ ⟨by omega, by omega, by omega⟩]
  simp
theorem quoH {a : Nat} (h : a < 1000000) : abin .quo (.int .i64 (a : Int)) (.int .i64 2) = some (.int .i64 ((a / 2 : Nat) : Int)) := quoT (b := 2) h (by decide)
def offM (n k i : Nat) : Nat := (n + k - 1 - i) / k * ((n + k - 1 - i) / k - 1) / 2
theorem off_all : ((List.range' 1 5).all fun n => (List.range' 1 n).all fun k => (List.range k).all fun j => Nat.ble (offM n k j) ((List.range j).foldl (fun m i => m - offM n k i) (n * (n - 1) / 2))) = true := by decide +kernel
theorem l31 {n k : Nat} (h1 : 1 ≤ k) (hk : k ≤ n) (hn : n ≤ 5) {R : PQ} : ∀ (c i m : Nat), i + c = k → m ≤ 10 →
    (∀ j, i ≤ j → j < k → offM n k j ≤ (List.range' i (j - i)).foldl (fun m i => m - offM n k i) m) →
    R (.exit 0) [(0, .int .i64 (n : Nat)), (1, .int .i64 (k : Nat)), (6, .int .i64 (((List.range' i c).foldl (fun m i => m - offM n k i) m : Nat) : Int)), (22, .int .i64 (k : Nat)), (23, .int .i64 (k : Nat)), (24, .bool false)] H →
    Wp E base bar (.loop c31_l0) [(0, .int .i64 (n : Nat)), (1, .int .i64 (k : Nat)), (6, .int .i64 (m : Nat)), (22, .int .i64 (k : Nat)), (23, .int .i64 (i : Nat))] H R := by
  intro c
  induction c with
  | zero =>
    intro i m hi hm _ h
    obtain rfl : i = k := by omega
    rw [wp_round c31_l0.eq_1]
    simp [go_sem]
    exact h
  | succ c ih =>
    intro i m hi hm hge h
    have hlt : i < k := by omega
    have hs := i64_suc (show i < 1000000 by omega)
    have hg := hge i (Nat.le_refl _) hlt
    simp only [Nat.sub_self, List.range'_zero, List.foldl_nil] at hg
    simp only [List.range'_succ, List.foldl_cons] at h
    have next := ih (i + 1) (m - offM n k i) (by omega) (by omega) (fun j h1 h2 => by
      have := hge j (by omega) h2
      rw [show j - i = (j - (i + 1)) + 1 by omega, List.range'_succ, List.foldl_cons] at this
      exact this) h
    obtain ⟨a, ha⟩ : ∃ a, a = n + k - 1 - i := ⟨_, rfl⟩
    have q1 : IntKind.i64.wrap ((n : Int) + (k : Int)) = ((n + k : Nat) : Int) := by rw [show (n : Int) + (k : Int) = ((n + k : Nat) : Int) by omega, i64_nat (by omega)]
    have q2 : IntKind.i64.wrap (((n + k : Nat) : Int) - 1) = ((n + k - 1 : Nat) : Int) := by rw [show ((n + k : Nat) : Int) - 1 = ((n + k - 1 : Nat) : Int) by omega, i64_nat (by omega)]
    have q3 : IntKind.i64.wrap (((n + k - 1 : Nat) : Int) - (i : Int)) = (a : Int) := by rw [show ((n + k - 1 : Nat) : Int) - (i : Int) = (a : Int) by omega, i64_nat (by omega)]
    have q4 := quoT (a := a) (b := k) (by omega) h1
    have hq9 : a / k ≤ 9 := Nat.le_trans (Nat.div_le_self _ _) (by omega)
    have hq1 : 1 ≤ a / k := Nat.div_pos (by omega) (by omega)
    have hoff : offM n k i = a / k * (a / k - 1) / 2 := by rw [ha]; rfl
    rw [hoff] at hg next
    generalize a / k = q at *
    have hqq : q * (q - 1) ≤ 81 := by
      have := Nat.mul_le_mul hq9 (show q - 1 ≤ 9 by omega)
      omega
    rw [Int.natCast_add] at q1 q2
    obtain ⟨r, hr⟩ : ∃ r, r = q * (q - 1) := ⟨_, rfl⟩
    rw [← hr] at hqq hg next
    have q7 := quoH (a := r) (by omega)
    have q8 : IntKind.i64.wrap ((m : Int) - ((r / 2 : Nat) : Int)) = ((m - r / 2 : Nat) : Int) := by rw [show (m : Int) - ((r / 2 : Nat) : Int) = ((m - r / 2 : Nat) : Int) by omega, i64_nat (by omega)]
    rw [wp_round c31_l0.eq_1]
    have q5 : IntKind.i64.wrap ((q : Int) - 1) = ((q - 1 : Nat) : Int) := by rw [show (q : Int) - 1 = ((q - 1 : Nat) : Int) by omega, i64_nat (by omega)]
    have q6 : IntKind.i64.wrap ((q : Int) * ((q - 1 : Nat) : Int)) = (r : Int) := by rw [← Int.natCast_mul, ← hr, i64_nat (by omega)]
    have q9 : IntKind.i64.wrap ((m : Int) - (r : Int) / 2) = ((m - r / 2 : Nat) : Int) := by rw [show (m : Int) - (r : Int) / 2 = ((m - r / 2 : Nat) : Int) by omega, i64_nat (by omega)]
    simp [go_sem, hlt, q1, q2, q3, q4, q5, q6, q7, q9, hs]
    exact next
theorem k31 {n k : Nat} (h1 : 1 ≤ k) (hk : k ≤ n) (hn : n ≤ 5) (h : Q (.tup [.int .i64 (mostT n k : Nat), .int .i64 0]) H) : WpCall E pure base bar 31 [.int .i64 (n : Int), .int .i64 (k : Int)] H Q := by
  rw [call31]
  have w1 : within 1 8 (n : Int) = true := by simp [within]; omega
  have w2 : within 1 8 (k : Int) = true := by simp [within]; omega
  have e1 : IntKind.i64.wrap ((n : Int) - 1) = ((n - 1 : Nat) : Int) := by rw [show (n : Int) - 1 = ((n - 1 : Nat) : Int) by omega, i64_nat (by omega)]
  have hm : n * (n - 1) ≤ 20 := by
    have := Nat.mul_le_mul hn (show n - 1 ≤ 4 by omega)
    omega
  obtain ⟨r, hr⟩ : ∃ r, r = n * (n - 1) := ⟨_, rfl⟩
  have e2 : IntKind.i64.wrap ((n : Int) * ((n - 1 : Nat) : Int)) = (r : Int) := by rw [← Int.natCast_mul, ← hr, i64_nat (by omega)]
  have e3 := quoH (a := r) (by omega)
  simp [go_sem, WpFun, c31, k79, w1, w2, e1, e2, e3]
  refine l31 h1 hk hn k 0 (r / 2) (by omega) (by omega) (fun j _ hj => ?_) ?_
  · rw [Nat.sub_zero, ← List.range_eq_range', hr]
    exact Nat.le_of_ble_eq_true (List.all_eq_true.1 (List.all_eq_true.1 (List.all_eq_true.1 off_all n (List.mem_range'_1.2 ⟨by omega, by omega⟩)) k (List.mem_range'_1.2 ⟨h1, by omega⟩)) j (List.mem_range.2 hj))
  · rw [← List.range_eq_range', hr]
    simp [go_sem]
    exact h
def evI (k b : Nat) (w : Nat → Nat) (a : Nat) : Nat → Nat := if (b - a) % k = 0 then w else joinW w b a
def evO (k : Nat) (w : Nat → Nat) (b : Nat) : Nat → Nat := (List.range b).foldl (evI k b) w
def evW (n k : Nat) : Nat → Nat := (List.range n).foldl (evO k) (fun _ => 0)
def HE (H : Heap) (n : Nat) (w : Nat → Nat) : Heap := H ++ [.row 0 [.int .i64 0, .nils] 0 true, .row 0 (wcells n w) 0 true]
theorem HE_len {n : Nat} {w : Nat → Nat} : (HE H n w).length = H.length + 2 := by simp [HE]
theorem HE_w {n : Nat} {w : Nat → Nat} : (HE H n w)[H.length + 1]? = some (.row 0 (wcells n w) 0 true) := by simp [HE, own_get]
theorem HE_set {n : Nat} {w w' : Nat → Nat} : (HE H n w).set (H.length + 1) (.row 0 (wcells n w') 0 true) = HE H n w' := by simp [HE, own_set]
theorem l33_0 {n k b : Nat} (h1 : 1 ≤ k) (hn : n ≤ 8) (hb : b < n) (hbar : bar ≤ H.length) {R : PQ} : ∀ (c a : Nat) (w : Nat → Nat), a + c = b → RoomW n w →
    (RoomW n ((List.range' a c).foldl (evI k b) w) → R (.exit 2) [(1, .int .i64 (k : Nat)), (4, .ptr H.length 0 0), (6, .ptr (H.length + 1) 0 0), (21, .int .i64 (n : Nat)), (22, .int .i64 (b : Nat)), (7, .int .i64 (b : Nat)), (25, .int .i64 (b : Nat)), (26, .int .i64 (b : Nat)), (27, .bool false)] (HE H n ((List.range' a c).foldl (evI k b) w))) →
    Wp E base bar (.loop c33_l0) [(1, .int .i64 (k : Nat)), (4, .ptr H.length 0 0), (6, .ptr (H.length + 1) 0 0), (21, .int .i64 (n : Nat)), (22, .int .i64 (b : Nat)), (7, .int .i64 (b : Nat)), (25, .int .i64 (b : Nat)), (26, .int .i64 (a : Nat))] (HE H n w) R := by
  intro c
  induction c with
  | zero =>
    intro a w ha hw h
    obtain rfl : a = b := by omega
    rw [wp_round c33_l0.eq_1]
    simp [go_sem]
    exact h hw
  | succ c ih =>
    intro a w ha hw h
    have hlt : a < b := by omega
    have hs := i64_suc (show a < 1000000 by omega)
    simp only [List.range'_succ, List.foldl_cons] at h
    have e1 : IntKind.i64.wrap ((b : Int) - (a : Int)) = ((b - a : Nat) : Int) := by rw [show (b : Int) - (a : Int) = ((b - a : Nat) : Int) by omega, i64_nat (by omega)]
    have e2 : ((b - a : Nat) : Int).tmod (k : Int) = (((b - a) % k : Nat) : Int) := by rw [Go.IntWalk.rem_in _ _ (by omega)]; simp
    rw [wp_round c33_l0.eq_1]
    by_cases hm : (b - a) % k = 0
    · rw [show evI k b w a = w by unfold evI; rw [if_pos hm]] at h
      simp [go_sem, hlt, e1, e2, abin_rem (show (k : Int) ≠ 0 by omega), hm, hs]
      exact ih (a + 1) w (by omega) hw h
    · rw [show evI k b w a = joinW w b a by unfold evI; rw [if_neg hm]] at h
      have hm' : ¬ ((b - a : Nat) : Int) % (k : Int) = 0 := fun h => hm (by exact_mod_cast h)
      simp [go_sem, hlt, e1, e2, abin_rem (show (k : Int) ≠ 0 by omega), hm']
      refine k81 (bar := bar) (id := H.length + 1) (ver := 0) (ex := true) (a := b) (b := a) HE_w hw.lt (by omega) (by omega) (by omega) ?_
      rw [HE_set]
      simp [go_sem, hs]
      exact ih (a + 1) _ (by omega) (hw.join hn hb (show a < n by omega) (show b ≠ a by omega)) h
theorem l33_1 {n k : Nat} (h1 : 1 ≤ k) (hn : n ≤ 8) (hbar : bar ≤ H.length) {R : PQ} : ∀ (c b : Nat) (w : Nat → Nat), b + c = n → RoomW n w →
    (RoomW n ((List.range' b c).foldl (evO k) w) → R (.exit 0) [(1, .int .i64 (k : Nat)), (4, .ptr H.length 0 0), (6, .ptr (H.length + 1) 0 0), (21, .int .i64 (n : Nat)), (22, .int .i64 (n : Nat)), (23, .bool false)] (HE H n ((List.range' b c).foldl (evO k) w))) →
    Wp E base bar (.loop c33_l1) [(1, .int .i64 (k : Nat)), (4, .ptr H.length 0 0), (6, .ptr (H.length + 1) 0 0), (21, .int .i64 (n : Nat)), (22, .int .i64 (b : Nat))] (HE H n w) R := by
  intro c
  induction c with
  | zero =>
    intro b w hb hw h
    obtain rfl : b = n := by omega
    rw [wp_round c33_l1.eq_1]
    simp [go_sem]
    exact h hw
  | succ c ih =>
    intro b w hb hw h
    have hlt : b < n := by omega
    have hs := i64_suc (show b < 1000000 by omega)
    simp only [List.range'_succ, List.foldl_cons] at h
    rw [wp_round c33_l1.eq_1]
    simp [go_sem, hlt]
    refine l33_0 h1 hn hlt hbar b 0 w (by omega) hw fun hw' => ?_
    rw [← List.range_eq_range']
    simp [go_sem, hs]
    refine ih (b + 1) _ (by omega) ?_ h
    rw [← List.range_eq_range'] at hw'
    exact hw'
theorem k33 {n k : Nat} (h1 : 1 ≤ k) (hk : k ≤ n) (hn : n ≤ 8) (hbar : bar ≤ H.length) (h : RoomW n (evW n k) → Q (.tup [.agg [.int .i64 (n : Int), outL 2 (prs (houseS n (evW n k)))], .int .i64 0]) H) : WpCall E pure base bar 33 [.int .i64 (n : Int), .int .i64 (k : Int)] H Q := by
  rw [call33]
  have hb' := bar_ok (pure := pure) hbar
  have e1 : within 1 8 (n : Int) = true := by simp [within]; omega
  have e2 : within 1 8 (k : Int) = true := by simp [within]; omega
  simp [go_sem, WpFun, c33, k79, e1, e2] at hb' ⊢
  generalize (if pure = true then H.length else bar) = bar' at hb' ⊢
  have z0 : [AV.int .i64 (n : Int), .int .u8 0, .int .u8 0, .int .u8 0, .int .u8 0, .int .u8 0, .int .u8 0, .int .u8 0, .int .u8 0] = wcells n (fun _ => 0) := rfl
  rw [z0]
  refine l33_1 h1 hn hb' n 0 (fun _ => 0) (by omega) RoomW.zero fun hw => ?_
  rw [← List.range_eq_range'] at hw ⊢
  rw [show (List.range n).foldl (evO k) (fun _ => 0) = evW n k from rfl] at hw ⊢
  have h := h hw
  generalize evW n k = w at *
  simp [go_sem]
  refine k71 HE_w hw.lt hn (by rw [HE_len]; omega) ?_
  have hq : isP (outL 2 (prs (houseS n w))) (houseS n w) := isP.out
  generalize outL 2 (prs (houseS n w)) = q at *
  have e4 : (HE H n w)[H.length]? = some (.row 0 [.int .i64 0, .nils] 0 true) := by simp [HE, own_get0]
  have e5 : ∀ b, ((HE H n w).set H.length b)[H.length]? = some b := fun b => by simp [HE, own_set, own_get0]
  have e6 : ∀ b, ((HE H n w).set H.length b).take H.length = H := fun b => by simp [HE, own_set0]
  simp [go_sem]
  rw [storeWp_ptr (size := 2) e4 rfl (by simp [AV.cells, hq.cells]) (by omega) (by simp) hb' (.inl (by omega))]
  simp [go_sem, AV.cells, hq.cells, setCells, aload_ptr (e5 _), Ab.part, hq.frz, e6]
  simp [hq.top]
  exact h
end Go.Proofs.Ythoogegclpiefaa.Code
end
section
namespace Go.Proofs.Ythoogegclpiefaa.Code
open Go Go.Ab
/-! the plain law: of all houses none has more quarrels, and just the even ones as many -/
def adjN (n b x y : Nat) : Bool := decide (x < n) && (decide (y < n) && ((decide (x < y) && b.testBit (tri y + x)) || (decide (y < x) && b.testBit (tri x + y))))
def cntB (n b : Nat) : Nat := ((List.range (tri n)).filter b.testBit).length
def okBb (n k b : Nat) : Bool := (List.range' 1 (pw n - 1)).all fun s => !okG (adjN n b) [] (bitsOf s) || Nat.ble (bitsOf s).length k
def kS (n k : Nat) : List Nat := (List.range' 1 (pw n - 1)).filter fun s => Nat.beq (bitsOf s).length (k + 1)
def chk (n k b : Nat) : Bool := Nat.blt (cntB n b) (mostT n k) || ((kS n k).any fun s => okG (adjN n b) [] (bitsOf s)) || (Nat.beq (cntB n b) (mostT n k) && evenG (adjN n b) n k)
def evB (n k : Nat) : Nat := (List.range n).foldl (fun acc y => (List.range y).foldl (fun acc x => if (y - x) % k = 0 then acc else bor acc (pw (tri y + x))) acc) 0
theorem wit : ((List.range' 1 5).all fun n => (List.range' 1 n).all fun k => Nat.blt (evB n k) (pw (tri n)) && (okBb n k (evB n k) && Nat.beq (cntB n (evB n k)) (mostT n k))) = true := by decide +kernel
theorem evenH : ((List.range' 1 5).all fun n => (List.range' 1 n).all fun k => Nat.beq (houseS n (evW n k)).length (mostT n k) && Nat.beq (largestS n (evW n k)).length k) = true := by decide +kernel
theorem chk1 : ((List.range' 1 4).all fun n => (List.range' 1 n).all fun k => (List.range (pw (tri n))).all (chk n k)) = true := by decide +kernel
theorem chk51 : (List.range (pw (tri 5))).all (chk 5 1) = true := by decide +kernel
theorem chk52 : (List.range (pw (tri 5))).all (chk 5 2) = true := by decide +kernel
theorem chk53 : (List.range (pw (tri 5))).all (chk 5 3) = true := by decide +kernel
theorem chk54 : (List.range (pw (tri 5))).all (chk 5 4) = true := by decide +kernel
theorem chk55 : (List.range (pw (tri 5))).all (chk 5 5) = true := by decide +kernel
theorem chk_ok {n k b : Nat} (h1 : 1 ≤ k) (hk : k ≤ n) (hn : n ≤ 5) (hb : b < pw (tri n)) : chk n k b = true := by
  by_cases h4 : n ≤ 4
  · exact List.all_eq_true.1 (List.all_eq_true.1 (List.all_eq_true.1 chk1 n (List.mem_range'_1.2 ⟨by omega, by omega⟩)) k (List.mem_range'_1.2 ⟨h1, by omega⟩)) b (List.mem_range.2 hb)
  · obtain rfl : n = 5 := by omega
    have hb' := List.mem_range.2 hb
    have : k = 1 ∨ k = 2 ∨ k = 3 ∨ k = 4 ∨ k = 5 := by omega
    rcases this with rfl | rfl | rfl | rfl | rfl
    · exact List.all_eq_true.1 chk51 b hb'
    · exact List.all_eq_true.1 chk52 b hb'
    · exact List.all_eq_true.1 chk53 b hb'
    · exact List.all_eq_true.1 chk54 b hb'
    · exact List.all_eq_true.1 chk55 b hb'
theorem turan {n k b : Nat} (h1 : 1 ≤ k) (hk : k ≤ n) (hn : n ≤ 5) (hb : b < pw (tri n)) (ho : okBb n k b = true) : cntB n b ≤ mostT n k ∧ (cntB n b = mostT n k → evenG (adjN n b) n k = true) := by
  have h := chk_ok h1 hk hn hb
  unfold chk at h
  have ha : ((kS n k).any fun s => okG (adjN n b) [] (bitsOf s)) = false := by
    rw [List.any_eq_false]
    intro s hs hc
    obtain ⟨hs1, hs2⟩ := List.mem_filter.1 hs
    have := List.all_eq_true.1 ho s hs1
    rw [hc] at this
    simp at this
    have := Nat.eq_of_beq_eq_true hs2
    omega
  rw [ha, Bool.or_false, Bool.or_eq_true, Bool.and_eq_true] at h
  rcases h with h | ⟨h, h'⟩
  · have := Nat.blt_eq ▸ h
    simp at h
    omega
  · have := Nat.eq_of_beq_eq_true h
    exact ⟨by omega, fun _ => h'⟩
theorem wit_ok {n k : Nat} (h1 : 1 ≤ k) (hk : k ≤ n) (hn : n ≤ 5) : evB n k < pw (tri n) ∧ okBb n k (evB n k) = true ∧ cntB n (evB n k) = mostT n k := by
  have h := List.all_eq_true.1 (List.all_eq_true.1 wit n (List.mem_range'_1.2 ⟨by omega, by omega⟩)) k (List.mem_range'_1.2 ⟨h1, by omega⟩)
  simp only [Bool.and_eq_true, Nat.blt_eq] at h
  exact ⟨h.1, h.2.1, Nat.eq_of_beq_eq_true h.2.2⟩
theorem evenH_ok {n k : Nat} (h1 : 1 ≤ k) (hk : k ≤ n) (hn : n ≤ 5) : (houseS n (evW n k)).length = mostT n k ∧ (largestS n (evW n k)).length = k := by
  have h := List.all_eq_true.1 (List.all_eq_true.1 evenH n (List.mem_range'_1.2 ⟨by omega, by omega⟩)) k (List.mem_range'_1.2 ⟨h1, by omega⟩)
  simp only [Bool.and_eq_true] at h
  exact ⟨Nat.eq_of_beq_eq_true h.1, Nat.eq_of_beq_eq_true h.2⟩
theorem made_adj {n bits : Nat} {l : List ZZ} {w : Nat → Nat} (h : MadeOK n bits l w) : RoomW n w ∧ wf w = adjN n bits := by
  have hr := openS_room (m := n) rfl h.room
  refine ⟨hr, ?_⟩
  funext x y
  unfold wf adjN
  by_cases hx : x < n
  · by_cases hy : y < n
    · rw [decide_eq_true hx, decide_eq_true hy, Bool.true_and, Bool.true_and]
      by_cases h1 : x < y
      · rw [h.bit x y h1 hy, decide_eq_true h1, decide_eq_false (by omega), Bool.true_and, Bool.false_and, Bool.or_false]
      · by_cases h2 : y < x
        · rw [hr.sym, h.bit y x h2 hx, decide_eq_false h1, decide_eq_true h2, Bool.true_and, Bool.false_and, Bool.false_or]
        · obtain rfl : x = y := by omega
          rw [hr.irr, decide_eq_false h1]; rfl
    · rw [decide_eq_false hy, Bool.false_and, Bool.and_false]
      cases hc : (w x).testBit y
      · rfl
      · exact absurd (hr.dom x y hc).2 hy
  · rw [decide_eq_false hx, Bool.false_and]
    cases hc : (w x).testBit y
    · rfl
    · exact absurd (hr.dom x y hc).1 hx
theorem okB_largest {n k bits : Nat} {l : List ZZ} {w : Nat → Nat} (h : MadeOK n bits l w) (hn : n ≤ 8) : okBb n k bits = decide ((largestS n w).length ≤ k) := by
  obtain ⟨hr, hw⟩ := made_adj h
  have hp := pw_le hn
  have hp1 : 1 ≤ pw n := Nat.one_le_two_pow
  rw [Bool.eq_iff_iff, decide_eq_true_eq]
  unfold okBb
  rw [List.all_eq_true]
  constructor
  · intro ha
    rcases largest_is (n := n) (w := w) with e | ⟨s, s1, s2, s3, s4⟩
    · rw [e]; exact Nat.zero_le _
    · have := ha s (List.mem_range'_1.2 ⟨s1, by omega⟩)
      rw [← hw, brawl_okG hr (by omega), s3] at this
      rw [s4]
      simpa using this
  · intro hl s hs
    obtain ⟨s1, s2⟩ := List.mem_range'_1.1 hs
    rw [← hw, brawl_okG hr (by omega)]
    cases hb : brawlS w s
    · rfl
    · have := largest_max (n := n) s1 (show s < pw n by omega) hb
      simp
      omega
end Go.Proofs.Ythoogegclpiefaa.Code
end
section
namespace Go.Proofs.Ythoogegclpiefaa.Code
open Go Go.Ab
variable {pure : Bool} {base bar : Nat} {H : Heap} {Q : AV → Heap → Prop} {K : AV → Heap → List Nat → Prop}
/-! law 12 -/
def fcl (n : Nat) (bs : List Nat) : List AV := bs.flatMap fun b => gcells (adjN n b)
theorem fcl_len {n : Nat} : ∀ {bs : List Nat}, (fcl n bs).length = 64 * bs.length
  | [] => rfl
  | b :: r => by
    have := fcl_len (n := n) (bs := r)
    simp only [fcl, List.flatMap_cons, List.length_append, gcells_length, List.length_cons] at this ⊢
    omega
theorem fcl_snoc {n b : Nat} {bs : List Nat} : fcl n (bs ++ [b]) = fcl n bs ++ gcells (adjN n b) := by simp [fcl]
theorem fcl_at {n : Nat} : ∀ {bs : List Nat} {i : Nat} (hi : i < bs.length), ((fcl n bs).drop (i * 64)).take 64 = gcells (adjN n bs[i])
  | b :: r, 0, _ => by
    simp only [fcl, List.flatMap_cons, Nat.zero_mul, List.drop_zero, List.getElem_cons_zero]
    rw [List.take_left' gcells_length]
  | b :: r, i + 1, hi => by
    have ih := fcl_at (n := n) (bs := r) (i := i) (by simpa using hi)
    simp only [fcl, List.flatMap_cons, List.getElem_cons_succ] at ih ⊢
    rw [show (i + 1) * 64 = (gcells (adjN n b)).length + i * 64 by rw [gcells_length]; omega, ← List.drop_drop, List.drop_left, ih]
theorem gplain {f : Nat → Nat → Bool} : ∀ c ∈ [AV.agg (gcells f)].flatMap AV.cells, Plain c := fun c hc => gcells_plain c (by simpa [AV.cells] using hc)
theorem gnv {f : Nat → Nat → Bool} : AV.noVec.noVecs ([AV.agg (gcells f)].flatMap AV.cells) = true := by
  have : ∀ l : List AV, (∀ c ∈ l, ∃ b, c = .bool b) → AV.noVec.noVecs l = true := fun l => by
    induction l with
    | nil => intro _; rfl
    | cons c r ih =>
      intro h
      obtain ⟨b, rfl⟩ := h c (List.mem_cons_self ..)
      simp only [AV.noVec.noVecs, AV.noVec, Bool.true_and]
      exact ih fun c hc => h c (List.mem_cons_of_mem _ hc)
  apply this
  intro c hc
  simp only [List.flatMap_cons, List.flatMap_nil, List.append_nil, AV.cells, gcells, List.mem_map] at hc
  obtain ⟨a, _, rfl⟩ := hc
  exact ⟨_, rfl⟩
theorem ownF {k n b : Nat} {bs : List Nat} {v : AV} {ex : Bool} (g : Own k 64 (fcl n bs) v H) (hk : k ≤ H.length) (hb : bar ≤ k) (hbase : base ≤ k) (hlen : bs.length ≤ 1000000)
    (h : ∀ v' H' tc, Own k 64 (fcl n (bs ++ [b])) v' H' → Kept1 v v' H H' tc → K v' H' tc) : appWp base bar 64 64 (some v) (some (.lst 64 ex [.agg (gcells (adjN n b))])) H K := by
  have e : [AV.agg (gcells (adjN n b))].flatMap AV.cells = gcells (adjN n b) := by simp [AV.cells]
  refine g.app hk (by omega) ⟨bs.length, fcl_len⟩ gplain gnv ⟨1, by rw [e, gcells_length]⟩ hb hbase ?_ fun v' H' tc g' kp => h v' H' tc ?_ kp
  · rw [e, ← fcl_snoc, fcl_len, Nat.mul_div_cancel_left _ (by omega)]
    simp
    omega
  · rw [e, ← fcl_snoc] at g'
    exact g'
theorem gnvA {f : Nat → Nat → Bool} : AV.noVec (.agg (gcells f)) = true := by
  have := gnv (f := f)
  simpa [AV.cells, AV.noVec] using this
theorem bsl_eq {f : Nat → Nat → Bool} {fr : Ab.Frame} {o : Opd} (ho : o.ev fr = some (.agg (gcells f))) : aop 0 0 (.bslice 64 (gcells fun _ _ => false) [(0, o)]) fr H = some (.lst 64 true [.agg (gcells f)], H, []) := by
  have e1 : frzAll 0 H [.agg (gcells f)] = some ([.agg (gcells f)], H) := by simp [frzAll, frz.frzs, frzsW, frz_g]
  have e2 : AV.noVec.noVecs [AV.agg (gcells f)] = true := by simp [AV.noVec.noVecs, gnvA]
  have e3 : setCells (gcells fun _ _ => false) 0 (gcells f) = gcells f := gcells_over
  have e4 : (gcells f).take 64 = gcells f := List.take_of_length_le (by rw [gcells_length]; omega)
  simp [aop, evs, ho, e1, e2, fillA, AV.cells, gcells_length, e3, chunks, e4, AV.isTup]
theorem bsl_wp {f : Nat → Nat → Bool} {fr : Ab.Frame} {o : Opd} {zs : List AV} (hz : zs = gcells fun _ _ => false) (ho : o.ev fr = some (.agg (gcells f))) (h : K (.lst 64 true [.agg (gcells f)]) H []) : opWp (aop 0 0 (.bslice 64 zs [(0, o)]) fr H) K := by
  rw [hz, bsl_eq ho]
  exact h
structure Inv (n k i mo : Nat) (bs : List Nat) : Prop where
  le : mo ≤ mostT n k
  best : ∀ b ∈ bs, b < pw (tri n) ∧ cntB n b = mo ∧ okBb n k b = true
  all : ∀ b, b < i → okBb n k b = true → cntB n b ≤ mo
  len : bs.length ≤ i
theorem Inv.skip1 {n k i mo : Nat} {bs : List Nat} (h : Inv n k i mo bs) (hc : cntB n i < mo) : Inv n k (i + 1) mo bs :=
  ⟨h.le, h.best, fun b hb ho => by
    by_cases e : b = i
    · subst e; omega
    · exact h.all b (by omega) ho, by have := h.len; omega⟩
theorem Inv.skip2 {n k i mo : Nat} {bs : List Nat} (h : Inv n k i mo bs) (hc : okBb n k i = false) : Inv n k (i + 1) mo bs :=
  ⟨h.le, h.best, fun b hb ho => by
    by_cases e : b = i
    · subst e; rw [hc] at ho; cases ho
    · exact h.all b (by omega) ho, by have := h.len; omega⟩
theorem Inv.put {n k i mo : Nat} {bs : List Nat} (h : Inv n k i mo bs) (hi : i < pw (tri n)) (hc : cntB n i = mo) (ho : okBb n k i = true) : Inv n k (i + 1) mo (bs ++ [i]) :=
  ⟨h.le, fun b hb => by
    rcases List.mem_append.1 hb with hb | hb
    · exact h.best b hb
    · simp at hb; subst hb; exact ⟨hi, hc, ho⟩, fun b hb ho => by
    by_cases e : b = i
    · subst e; omega
    · exact h.all b (by omega) ho, by have := h.len; simp; omega⟩
theorem Inv.new {n k i mo : Nat} {bs : List Nat} (h : Inv n k i mo bs) (h1 : 1 ≤ k) (hk : k ≤ n) (hn : n ≤ 5) (hi : i < pw (tri n)) (hc : mo < cntB n i) (ho : okBb n k i = true) : Inv n k (i + 1) (cntB n i) [i] :=
  ⟨(turan h1 hk hn hi ho).1, fun b hb => by simp at hb; subst hb; exact ⟨hi, rfl, ho⟩, fun b hb ho => by
    by_cases e : b = i
    · subst e; omega
    · have := h.all b (by omega) ho; omega, by simp⟩
theorem Inv.done {n k mo : Nat} {bs : List Nat} (h : Inv n k (pw (tri n)) mo bs) (h1 : 1 ≤ k) (hk : k ≤ n) (hn : n ≤ 5) : mo = mostT n k ∧ ∀ b ∈ bs, evenG (adjN n b) n k = true := by
  obtain ⟨w1, w2, w3⟩ := wit_ok h1 hk hn
  have := h.all _ w1 w2
  have e : mo = mostT n k := by have := h.le; omega
  refine ⟨e, fun b hb => ?_⟩
  obtain ⟨b1, b2, b3⟩ := h.best b hb
  exact (turan h1 hk hn b1 b3).2 (by omega)
set_option maxRecDepth 4000 in
theorem l12_0 {n k M : Nat} (h1 : 1 ≤ k) (hk : k ≤ n) (hn : n ≤ 5) {R : PQ} : ∀ (c i mo : Nat) (bs : List Nat) (v : AV) (H : Heap), i + c = pw (tri n) → Inv n k i mo bs → Own 0 64 (fcl n bs) v H →
    (∀ mo' bs' v' H', Inv n k (pw (tri n)) mo' bs' → Own 0 64 (fcl n bs') v' H' →
      R (.exit 0) [(5, .int .i64 (n : Nat)), (6, .int .i64 (k : Nat)), (7, .int .i64 (M : Nat)), (9, .int .i64 (mo' : Nat)), (10, v'), (42, .int .u32 (pw (tri n) : Nat)), (43, .int .u32 (pw (tri n) : Nat)), (44, .bool false)] H') →
    Wp E 0 0 (.loop c12_l0) [(5, .int .i64 (n : Nat)), (6, .int .i64 (k : Nat)), (7, .int .i64 (M : Nat)), (9, .int .i64 (mo : Nat)), (10, v), (42, .int .u32 (pw (tri n) : Nat)), (43, .int .u32 (i : Nat))] H R := by
  have ht : pw (tri n) ≤ 1024 := by
    have : n = 1 ∨ n = 2 ∨ n = 3 ∨ n = 4 ∨ n = 5 := by omega
    rcases this with rfl | rfl | rfl | rfl | rfl <;> decide
  have hmo : mostT n k ≤ 10 := by
    rcases cases15 h1 hk hn with ⟨rfl, rfl⟩ | ⟨rfl, rfl⟩ | ⟨rfl, rfl⟩ | ⟨rfl, rfl⟩ | ⟨rfl, rfl⟩ | ⟨rfl, rfl⟩ | ⟨rfl, rfl⟩ | ⟨rfl, rfl⟩ | ⟨rfl, rfl⟩ | ⟨rfl, rfl⟩ | ⟨rfl, rfl⟩ | ⟨rfl, rfl⟩ | ⟨rfl, rfl⟩ | ⟨rfl, rfl⟩ | ⟨rfl, rfl⟩ <;> decide
  have e1 : IntKind.i64.wrap ((n : Int) - 1) = ((n - 1 : Nat) : Int) := by rw [show (n : Int) - 1 = ((n - 1 : Nat) : Int) by omega, i64_nat (by omega)]
  have e2 : IntKind.u8.wrap ((n - 1 : Nat) : Int) = ((n - 1 : Nat) : Int) := u8_nat (by omega)
  intro c
  induction c with
  | zero =>
    intro i mo bs v H hi inv g h
    obtain rfl : i = pw (tri n) := by omega
    rw [wp_round c12_l0.eq_1]
    simp [go_sem]
    exact h mo bs v H inv g
  | succ c ih =>
    intro i mo bs v H hi inv g h
    have hlt : i < pw (tri n) := by omega
    have hs : IntKind.u32.wrap ((i : Int) + 1) = ((i + 1 : Nat) : Int) := Go.IntWalk.u32_in _ (by omega)
    rw [wp_round c12_l0.eq_1]
    simp [go_sem, hlt, e1, e2, fillA, setCells]
    refine k35 (p := n - 1) (bits := i) (most := 5) (n := n) (by omega) (by omega) (by omega) (by omega) (Nat.zero_le _) (by rw [Nat.mod_eq_of_lt (by omega)]; omega) fun q l w hq hm => ?_
    obtain ⟨hr, hw⟩ := made_adj hm
    have hcn : l.length = cntB n i := hm.cnt
    have hok := okB_largest (k := k) hm (by omega)
    have hl : l.length < 1000 := by have := hm.len; omega
    rw [hw]
    have hA : aload (H ++ [.row 0 [.int .i64 (n : Int), q] 0 true, .row 0 (gcells (adjN n i)) 0 true]) ⟨false, 1⟩ (.ptr H.length 0 1) = some q := by rw [aload_ptr (by rw [own_get0]; rfl)]; rfl
    have hB : aload (H ++ [.row 0 [.int .i64 (n : Int), q] 0 true, .row 0 (gcells (adjN n i)) 0 true]) ⟨true, 64⟩ (.ptr (H.length + 1) 0 0) = some (.agg (gcells (adjN n i))) := loadGG (by rw [own_get]; rfl)
    simp [go_sem, storeWp, astore, setCells, own_get, own_get0, own_set, own_set0, hq.cells, hq.top, hq.isTup, gcells_length, gcells_over, AV.cells, AV.top.tops, AV.top, AV.isTup]
    have g1 : Own 0 64 (fcl n bs) v (H ++ [.row 0 [.int .i64 (n : Int), q] 0 true, .row 0 (gcells (adjN n i)) 0 true]) := g.mono fun j hj => by rw [List.getElem?_append_left (g.lt hj).2]
    generalize (H ++ [Blk.row 0 [AV.int .i64 (n : Int), q] 0 true, Blk.row 0 (gcells (adjN n i)) 0 true]) = H1 at *
    have k38' : ∀ {Q : AV → Heap → Prop}, (∀ v, isL v (largestS n w) → Q v H1) → WpCall E false 0 0 38 [.agg (gcells (adjN n i)), .int .i64 (n : Int)] H1 Q := fun h => by
      rw [← hw]; exact k38 hr (by omega) (Nat.zero_le _) h
    have hql := fun K => hq.len (H := H1) (K := K)
    have hcz : cntB n i ≤ 28 := by have := hm.len; omega
    have fin : ∀ (mo' : Nat) (bs' : List Nat) (v' : AV), Inv n k (i + 1) mo' (bs' ++ [i]) → bs'.length ≤ 1024 → Own 0 64 (fcl n bs') v' H1 → ∀ K : AV → Heap → List Nat → Prop, (∀ v2 H2 tc, (Wp E 0 0 (.loop c12_l0) [(5, .int .i64 (n : Nat)), (6, .int .i64 (k : Nat)), (7, .int .i64 (M : Nat)), (9, .int .i64 (mo' : Nat)), (10, v2), (42, .int .u32 (pw (tri n) : Nat)), (43, .int .u32 ((i + 1 : Nat) : Int))] H2 R) → K v2 H2 tc) →
        appWp 0 0 64 64 (some v') (some (.lst 64 true [.agg (gcells (adjN n i))])) H1 K := fun mo' bs' v' inv' hb' g' K hK =>
      ownF g' (Nat.zero_le _) (Nat.le_refl _) (Nat.le_refl _) (by omega) fun v2 H2 tc g2 kp => hK v2 H2 tc (ih (i + 1) mo' _ v2 H2 (by omega) inv' g2 h)
    by_cases c1 : l.length < mo
    · have next := ih (i + 1) mo bs v H1 (by omega) (inv.skip1 (by omega)) g1 h
      simp [go_sem, hA, hql, c1, hs]
      exact next
    · simp [go_sem, hA, hB, hql, c1]
      refine k38' fun lv hlv => ?_
      have hll := fun K => hlv.len (H := H1) (K := K)
      by_cases c2 : k < (largestS n w).length
      · have next := ih (i + 1) mo bs v H1 (by omega) (inv.skip2 (by rw [hok]; exact decide_eq_false (by omega))) g1 h
        simp [go_sem, hll, c2, hs]
        exact next
      · have ho : okBb n k i = true := by rw [hok]; exact decide_eq_true (by omega)
        by_cases c3 : mo < l.length
        · simp [go_sem, hll, c2, hA, hB, hql, c3]
          refine bsl_wp rfl rfl ?_
          simp [go_sem]
          rw [hcn]
          refine fin (cntB n i) [] .nils (inv.new h1 hk hn hlt (by omega) ho) (by simp) .nil _ fun v2 H2 tc next => ?_
          simp [go_sem, hs]
          exact next
        · simp [go_sem, hll, c2, hA, hB, hql, c3]
          refine bsl_wp rfl rfl ?_
          simp [go_sem]
          refine fin mo bs v (inv.put hlt (by omega) ho) (by have := inv.len; omega) g1 _ fun v2 H2 tc next => ?_
          simp [go_sem, hs]
          exact next
theorem ownLen64 {k n : Nat} {bs : List Nat} {v : AV} (g : Own k 64 (fcl n bs) v H) : lenWp (some v) H K = K (.int .i64 (bs.length : Int)) H [] := by
  rcases g with ⟨h, rfl⟩ | ⟨_, _, _, _, _, _, rfl, _⟩
  · have := fcl_len (n := n) (bs := bs)
    rw [h] at this
    have h0 : bs = [] := List.length_eq_zero_iff.1 (by simp at this; omega)
    subst h0
    rfl
  · simp [go_sem, fcl_len]
theorem ownAt {k n j : Nat} {bs : List Nat} {v : AV} (g : Own k 64 (fcl n bs) v H) (hj : j < bs.length) : ∃ p, (∀ (K : AV → Heap → List Nat → Prop) (i : IntKind), ixaSWp 64 (some v) (some (.int i (j : Int))) H K = K p H []) ∧ aload H ⟨true, 64⟩ p = some (.agg (gcells (adjN n bs[j]))) := by
  rcases g with ⟨h, rfl⟩ | ⟨id, ver, fz, _, _, _, rfl, hrow⟩
  · have := fcl_len (n := n) (bs := bs)
    rw [h] at this
    simp at this
    omega
  · refine ⟨.ptr id ver (j * 64), fun K i => ?_, ?_⟩
    · have hl : (fcl n bs).length / 64 = bs.length := by rw [fcl_len, Nat.mul_div_cancel_left _ (by omega)]
      simp [go_sem, hl, hj]
    · rw [aload_ptr hrow, part_agg, fcl_len, if_pos (by omega), fcl_at hj]
theorem ownTop {k sz : Nat} {cells : List AV} {v : AV} (g : Own k sz cells v H) : v.top ≤ H.length := by
  rcases g with ⟨_, rfl⟩ | ⟨id, ver, fz, _, _, _, rfl, hrow⟩
  · exact Nat.zero_le _
  · have := (List.getElem?_eq_some_iff.1 hrow).1
    simp only [AV.top]; omega
theorem l12_1 {n k M mo : Nat} {bs : List Nat} {v : AV} (h1 : 1 ≤ k) (hn : n ≤ 5) (g : Own 0 64 (fcl n bs) v H) (hl : bs.length ≤ 1024) (he : ∀ b ∈ bs, evenG (adjN n b) n k = true) {R : PQ} : ∀ (c j : Nat), j + c = bs.length →
    R (.exit 2) [(5, .int .i64 (n : Nat)), (6, .int .i64 (k : Nat)), (7, .int .i64 (M : Nat)), (9, .int .i64 (mo : Nat)), (81, v), (82, .int .i64 (bs.length : Nat)), (83, .int .i64 (bs.length : Nat)), (84, .bool false)] H →
    Wp E 0 0 (.loop c12_l1) [(5, .int .i64 (n : Nat)), (6, .int .i64 (k : Nat)), (7, .int .i64 (M : Nat)), (9, .int .i64 (mo : Nat)), (81, v), (82, .int .i64 (bs.length : Nat)), (83, .int .i64 (j : Nat))] H R := by
  intro c
  induction c with
  | zero =>
    intro j hj h
    obtain rfl : j = bs.length := by omega
    rw [wp_round c12_l1.eq_1]
    simp [go_sem]
    exact h
  | succ c ih =>
    intro j hj h
    have hlt : j < bs.length := by omega
    have hs := i64_suc (show j < 1000000 by omega)
    obtain ⟨p, p1, p2⟩ := ownAt g hlt
    have hev := he _ (List.getElem_mem hlt)
    have next := ih (j + 1) (by omega) h
    generalize bs[j] = b at *
    rw [wp_round c12_l1.eq_1]
    have e1 : (H ++ [Blk.row 0 (gcells (wf fun _ => 0)) 0 true])[H.length]? = some (.row 0 (gcells (wf fun _ => 0)) 0 true) := by rw [own_get0]; rfl
    have e2 : (H ++ [Blk.row 0 (gcells (wf fun _ => 0)) 0 true]).set H.length (.row 0 (gcells (adjN n b)) 0 true) = H ++ [.row 0 (gcells (adjN n b)) 0 true] := by simp [own_set0]
    have e3 : aload (H ++ [Blk.row 0 (gcells (adjN n b)) 0 true]) ⟨true, 64⟩ (.ptr H.length 0 0) = some (.agg (gcells (adjN n b))) := loadGG (by rw [own_get0]; rfl)
    have ht := ownTop g
    simp [go_sem, hlt, p1, p2]
    rw [storeGG e1 (Nat.zero_le _), e2]
    simp [go_sem, e3]
    refine k56 h1 (by omega) (by simp) ?_
    rw [hev]
    simp [go_sem, hs]
    exact ⟨ht, next⟩
theorem law12 {many brawl : Nat} (hm : many < 256) (hb : brawl < 256) : WpCall E false 0 0 12 [.int .u8 (many : Nat), .int .u8 (brawl : Nat)] [] (fun v _ => v = .bool true) := by
  rw [call12]
  obtain ⟨n, hne⟩ : ∃ n, n = 1 + many % 5 := ⟨_, rfl⟩
  obtain ⟨k, hke⟩ : ∃ k, k = 1 + brawl % n := ⟨_, rfl⟩
  have hn : n ≤ 5 := by omega
  have h1 : 1 ≤ k := by omega
  have hk : k ≤ n := by have := Nat.mod_lt brawl (show 0 < n by omega); omega
  have r1 : IntKind.i64.wrap (1 + (many : Int) % 5) = (n : Int) := by rw [show (1 : Int) + (many : Int) % 5 = (n : Int) by omega, i64_nat (by omega)]
  have r2 : IntKind.i64.wrap (1 + (brawl : Int) % (n : Int)) = (k : Int) := by rw [show (1 : Int) + (brawl : Int) % (n : Int) = (k : Int) by rw [hke]; simp, i64_nat (by omega)]
  have m1 : (many : Int).tmod 5 = (many : Int) % 5 := Go.IntWalk.rem_in _ _ (by omega)
  have m2 : (brawl : Int).tmod (n : Int) = (brawl : Int) % (n : Int) := Go.IntWalk.rem_in _ _ (by omega)
  simp [go_sem, WpFun, c12, i64_nat (show many < 9223372036854775808 by omega), i64_nat (show brawl < 9223372036854775808 by omega), abin_rem (show (5 : Int) ≠ 0 by decide), abin_rem (show (n : Int) ≠ 0 by omega), m1, m2, r1, r2]
  have e1 : IntKind.i64.wrap ((n : Int) - 1) = ((n - 1 : Nat) : Int) := by rw [show (n : Int) - 1 = ((n - 1 : Nat) : Int) by omega, i64_nat (by omega)]
  have e2 : IntKind.i64.wrap ((n : Int) * ((n - 1 : Nat) : Int)) = ((n * (n - 1) : Nat) : Int) := by
    rw [← Int.natCast_mul, i64_nat (by have := Nat.mul_le_mul hn (show n - 1 ≤ 4 by omega); omega)]
  have h5 : n = 1 ∨ n = 2 ∨ n = 3 ∨ n = 4 ∨ n = 5 := by omega
  have e3 : abin .quo (.int .i64 ((n * (n - 1) : Nat) : Int)) (.int .i64 2) = some (.int .i64 ((tri n : Nat) : Int)) := by
    rcases h5 with h | h | h | h | h <;> rw [h] <;> rfl
  have e4 : abin .shl (.int .u32 1) (.int .i64 ((tri n : Nat) : Int)) = some (.int .u32 ((pw (tri n) : Nat) : Int)) := by
    rcases h5 with h | h | h | h | h <;> rw [h] <;> rfl
  have ev := evenH_ok h1 hk hn
  refine k31 h1 hk hn ?_
  generalize hnn : n * (n - 1) = nn at *
  simp [go_sem, e1, e2, e3, e4]
  refine l12_0 h1 hk hn (pw (tri n)) 0 0 [] .nils _ (by omega) ⟨Nat.zero_le _, fun b hb => by simp at hb, fun b hb => by omega, Nat.le_refl _⟩ .nil fun mo bs v H inv g => ?_
  obtain ⟨rfl, hev⟩ := inv.done h1 hk hn
  have hbl : bs.length ≤ 1024 := by
    have := inv.len
    have : pw (tri n) ≤ 1024 := by rcases h5 with h | h | h | h | h <;> rw [h] <;> decide
    omega
  have hlb := fun K => ownLen64 (K := K) g
  simp [go_sem, hlb]
  refine l12_1 h1 hn g hbl hev bs.length 0 (by omega) ?_
  simp [go_sem]
  refine k33 h1 hk (by omega) (Nat.zero_le _) fun hw => ?_
  have hq : isP (outL 2 (prs (houseS n (evW n k)))) (houseS n (evW n k)) := isP.out
  have hop := open_house hw (by omega) (by omega)
  generalize outL 2 (prs (houseS n (evW n k))) = q at *
  simp [go_sem]
  have hA0 : aload (H ++ [.row 0 [.int .i64 (n : Int), q] 0 true]) ⟨false, 1⟩ (.ptr H.length 0 0) = some (.int .i64 (n : Int)) := by rw [aload_ptr (by rw [own_get0]; rfl)]; rfl
  have hA1 : aload (H ++ [.row 0 [.int .i64 (n : Int), q] 0 true]) ⟨false, 1⟩ (.ptr H.length 0 1) = some q := by rw [aload_ptr (by rw [own_get0]; rfl)]; rfl
  have hA2 : aload (H ++ [.row 0 [.int .i64 (n : Int), q] 0 true]) ⟨true, 2⟩ (.ptr H.length 0 0) = some (.agg [.int .i64 (n : Int), q]) := by rw [aload_ptr (by rw [own_get0]; rfl)]; rfl
  have hql := fun (H : Heap) K => hq.len (H := H) (K := K)
  rw [ev.1] at hql
  simp [go_sem, storeWp, astore, setCells, own_get0, own_set0, hq.cells, hq.top, hq.isTup, AV.cells, AV.top.tops, AV.top, AV.isTup, hA0, hA1, hA2, hql]
  have hm10 : mostT n k ≤ 10 := by
    rcases cases15 h1 hk hn with ⟨rfl, rfl⟩ | ⟨rfl, rfl⟩ | ⟨rfl, rfl⟩ | ⟨rfl, rfl⟩ | ⟨rfl, rfl⟩ | ⟨rfl, rfl⟩ | ⟨rfl, rfl⟩ | ⟨rfl, rfl⟩ | ⟨rfl, rfl⟩ | ⟨rfl, rfl⟩ | ⟨rfl, rfl⟩ | ⟨rfl, rfl⟩ | ⟨rfl, rfl⟩ | ⟨rfl, rfl⟩ | ⟨rfl, rfl⟩ <;> decide
  refine k37 hq (by rw [ev.1]; omega) (Nat.zero_le _) (fun e he => by rw [hop] at he; cases he) fun m w hm1 _ _ _ he lv hlv => ?_
  obtain rfl : m = n := by omega
  rw [hop] at he
  cases he
  have hll := fun (H : Heap) K => hlv.len (H := H) (K := K)
  rw [ev.2] at hll
  simp [go_sem, hll]
  refine call15.2 ?_
  simp [go_sem]
theorem turan_true {many brawl : Nat} (hm : many < 256) (hb : brawl < 256) : ∃ f H', acall E f 12 [.int .u8 (many : Nat), .int .u8 (brawl : Nat)] [] = some (.bool true, H') := by
  obtain ⟨f, v, H', h, rfl⟩ := law12 hm hb
  exact ⟨f, H', h⟩
end Go.Proofs.Ythoogegclpiefaa.Code
end
