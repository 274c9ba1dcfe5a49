/-
  Part of the proofs about this chapter: contracts of functions and plain laws.
-/
import Derived.Test.YtbkhffakhggdaaaDoorTA
import Derived.Test.YtbkhffakhggdaaaDoorEv
import Derived.KernelRfl
set_option linter.all false
namespace Go.Ab
theorem app_det {base bar sz bytes : Nat} {x y : Option AV} {H : Heap} {K : AV → Heap → List Nat → Prop} (h : appWp base bar sz bytes x y H K) :
    ∃ v H' tc, K v H' tc ∧ ∀ K' : AV → Heap → List Nat → Prop, K' v H' tc → appWp base bar sz bytes x y H K' := by
  unfold appWp at h ⊢
  cases x with
  | none => exact h.elim
  | some x => cases y with
    | none => exact h.elim
    | some y =>
      simp only at h ⊢
      cases h1 : asrc H sz y with
      | none => rw [h1] at h; exact h.elim
      | some news =>
        rw [h1] at h
        simp only at h ⊢
        cases h2 : frzAll bar H news with
        | none => rw [h2] at h; exact h.elim
        | some r =>
          obtain ⟨news', H1⟩ := r
          rw [h2] at h
          simp only at h ⊢
          by_cases h3 : sz = 0 ∨ ¬ sz ∣ news.length
          · rw [if_pos h3] at h; exact h.elim
          · rw [if_neg h3] at h
            simp only [if_neg h3]
            cases h4 : aappend base bar H1 sz bytes x news' with
            | none => rw [h4] at h; exact h.elim
            | some q =>
              obtain ⟨v, H2, tc⟩ := q
              rw [h4] at h
              exact ⟨_, _, _, h, fun K' hk => hk⟩
theorem Wp.both {env : Env} {base bar : Nat} {c : ACode} {fr : Frame} {H : Heap} {Q Q' : PQ} (h : Wp env base bar c fr H Q) (h' : Wp env base bar c fr H Q') : ∃ e fr' H', Q e fr' H' ∧ Q' e fr' H' := by
  obtain ⟨n, e, st, h1, h2⟩ := h
  obtain ⟨m, e', st', h3, h4⟩ := h'
  have a := exec_le (Nat.le_max_left n m) _ _ _ _ _ h1
  have b := exec_le (Nat.le_max_right n m) _ _ _ _ _ h3
  rw [a] at b
  simp only [Option.some.injEq, Prod.mk.injEq] at b
  obtain ⟨rfl, rfl⟩ := b
  exact ⟨_, _, _, h2, h4⟩
theorem Grow.lenw {l : List Nat} {H0 H : Heap} {v : AV} {K : AV → Heap → List Nat → Prop} (g : Grow 1 (nats l) H0 v H) : lenWp (some v) H K = K (.int .i64 (l.length : Int)) H [] := by
  rcases g with ⟨h, rfl, rfl⟩ | ⟨ver, fz, _, _, rfl, rfl⟩
  · have : l = [] := by cases l with | nil => rfl | cons a b => simp [nats] at h
    subst this; rfl
  · simp [lenWp, nats_length]
end Go.Ab
namespace Go.Proofs.YtbkhffakhggdaaaDoor.Code
open Go Go.Ab
def pk (x : Nat) : Nat := ((List.range 6).filter fun i => x.testBit i).length
def c1w : AV := .int .u64 6148914691236517205
def g1 (a : AV) : Option AV := (abin .shr a (.int .u64 1)).bind fun y1 => (abin .and y1 (.int .u64 6148914691236517205)).bind fun y2 => (abin .and a (.int .u64 6148914691236517205)).bind fun y3 => abin .add y2 y3
def g2 (a : AV) : Option AV := (abin .shr a (.int .u64 2)).bind fun y1 => (abin .and y1 (.int .u64 3689348814741910323)).bind fun y2 => (abin .and a (.int .u64 3689348814741910323)).bind fun y3 => abin .add y2 y3
def g3 (a : AV) : Option AV := (abin .shr a (.int .u64 4)).bind fun y1 => (abin .add y1 a).bind fun y2 => abin .and y2 (.int .u64 1085102592571150095)
def g4 (k : Int) (a : AV) : Option AV := (abin .shr a (.int .u64 k)).bind fun y1 => abin .add a y1
def kk50 (x : Nat) : Bool := match (g1 (.int .u64 (x : Int))).bind g2 |>.bind g3 |>.bind (g4 8) |>.bind (g4 16) |>.bind (g4 32) with
  | some (.int .u64 v) => match abin .and (.int .i64 (IntKind.i64.wrap v)) (.int .i64 127) with
    | some (.int .i64 w) => decide (w = (pk x : Int))
    | _ => false
  | _ => false
theorem kk50_a : (List.range 32).all kk50 = true := by kernel_rfl
theorem k113 {x : Nat} {Q : AV → Heap → Prop} {H : Heap} {b : Nat} (hx : x < 32) (hb : b ≤ H.length) (h : Q (.int .i64 (pk x : Nat)) H) : WpCall E false b 0 113 [.int .u64 (x : Nat)] H Q := by
  have hk : kk50 x = true := List.all_eq_true.1 kk50_a x (List.mem_range.2 hx)
  unfold kk50 at hk
  split at hk
  · rename_i v hv
    split at hk
    · rename_i w hw
      have hw' := of_decide_eq_true hk
      subst hw'
      simp only [Option.bind_eq_some_iff] at hv
      obtain ⟨a5, ⟨a4, ⟨a3, ⟨a2, ⟨a1, h1, h2⟩, h3⟩, h4⟩, h5⟩, h6⟩ := hv
      simp only [g1, g2, g3, g4, Option.bind_eq_some_iff] at h1 h2 h3 h4 h5 h6
      obtain ⟨y1, e1, y2, e2, y3, e3, e4⟩ := h1
      obtain ⟨z1, f1, z2, f2, z3, f3, f4⟩ := h2
      obtain ⟨u1, p1, u2, p2, p3⟩ := h3
      obtain ⟨v1, q1, q2⟩ := h4
      obtain ⟨v3, q3, q4⟩ := h5
      obtain ⟨v5, q5, q6⟩ := h6
      rw [call113]
      simp [go_sem, WpFun, c113, e1, e2, e3, e4, f1, f2, f3, f4, p1, p2, p3, q1, q2, q3, q4, q5, q6, hw]
      exact h
    · cases hk
  · cases hk
theorem u64_nat {a : Nat} (h : a < 1000) : IntKind.u64.wrap (a : Int) = (a : Int) := by
  have : ∀ a : Nat, a < 1000 → IntKind.u64.wrap (a : Int) = (a : Int) := by decide +kernel
  exact this a h
theorem kd50 {x : Nat} {Q : AV → Heap → Prop} {H : Heap} (hx : x < 32) (h : Q (.int .i64 (pk x : Nat)) H) : WpCall E false 0 0 50 [.int .i64 (x : Nat)] H Q := by
  rw [call50]
  simp [go_sem, WpFun, c50]
  rw [call97]
  simp [go_sem, WpFun, c97, u64_nat (show x < 1000 by omega)]
  refine k113 hx (by simp) ?_
  simp [go_sem]
  exact h
/-- the sets of so many dyes below a bound -/
def ks (r z : Nat) : List Nat := (List.range z).filter fun x => Nat.beq (pk x) r
theorem ks_succ {r z : Nat} : ks r (z + 1) = if pk z = r then ks r z ++ [z] else ks r z := by
  unfold ks
  rw [List.range_succ, List.filter_append]
  by_cases h : pk z = r <;> simp [h]
theorem ks_le {r z : Nat} : (ks r z).length ≤ z := Nat.le_trans (List.length_filter_le _ _) (by simp)
theorem l9 {n r : Nat} (hn : n ≤ 5) : ∀ (k z : Nat) (v : AV) (H : Heap), z + k = pw n → Grow 1 (nats (ks r z)) [] v H →
    ∃ v' H', Grow 1 (nats (ks r (pw n))) [] v' H' ∧ ∀ (c : Nat) (R : PQ), R (.exit 0) [(2, .int .u8 (c : Nat)), (7, .int .i64 (n : Nat)), (8, .int .i64 (r : Nat)), (9, v'), (41, .int .i64 (pw n : Nat)), (42, .int .i64 (pw n : Nat)), (43, .bool false)] H' →
      Wp E 0 0 (.loop c9_l0) [(2, .int .u8 (c : Nat)), (7, .int .i64 (n : Nat)), (8, .int .i64 (r : Nat)), (9, v), (41, .int .i64 (pw n : Nat)), (42, .int .i64 (z : Nat))] H R := by
  have hp : pw n ≤ 32 := Nat.le_trans (Nat.pow_le_pow_right (by decide) hn) (by decide : 2 ^ 5 ≤ 32)
  intro k
  induction k with
  | zero =>
    intro z v H hz g
    obtain rfl : z = pw n := by omega
    refine ⟨v, H, g, fun c R h => ?_⟩
    rw [wp_round c9_l0.eq_1]
    simp [go_sem]
    exact h
  | succ k ih =>
    intro z v H hz g
    have hlt : z < pw n := by omega
    by_cases h1 : pk z = r
    · obtain ⟨v1, H1, tc, g1, ha⟩ := app_det (Grow.nat (bar := 0) (base := 0) (bytes := 8) (ex := true) (x := z) (K := fun v' H' _ => Grow 1 (nats (ks r z ++ [z])) [] v' H') g (by simp) (by simp) (by have := ks_le (r := r) (z := z); omega) fun _ _ _ g => g)
      obtain ⟨v', H', g', hf⟩ := ih (z + 1) v1 H1 (by omega) (by rw [ks_succ, if_pos h1]; exact g1)
      refine ⟨v', H', g', fun c R h => ?_⟩
      rw [wp_round c9_l0.eq_1]
      simp [go_sem, hlt]
      refine kd50 (by omega) ?_
      simp [go_sem, h1, natEq, aop, fillA, setCells, chunks, AV.noVec.noVecs, AV.noVec]
      rw [wpop_app]
      simp [Opd.ev, go_sem]
      refine ha _ ?_
      simp [go_sem, i64_suc (show z < 1000000 by omega)]
      exact hf c R h
    · obtain ⟨v', H', g', hf⟩ := ih (z + 1) v H (by omega) (by rw [ks_succ, if_neg h1]; exact g)
      refine ⟨v', H', g', fun c R h => ?_⟩
      rw [wp_round c9_l0.eq_1]
      simp [go_sem, hlt]
      refine kd50 (by omega) ?_
      simp [go_sem, h1, natEq, i64_suc (show z < 1000000 by omega)]
      exact hf c R h
theorem red9 {a b c m r k : Nat} {Q : AV → Heap → Prop} (ha : a < 256) (hb : b < 256) (hc : c < 256) (hm : m = a % 5) (hr : r = b % (m + 2)) (hk : k = c % ((ks r (pw (m + 1))).length + 1))
    (h : WpCall E false 0 0 9 [.int .u8 (m : Nat), .int .u8 (r : Nat), .int .u8 (k : Nat)] [] Q) :
    WpCall E false 0 0 9 [.int .u8 (a : Nat), .int .u8 (b : Nat), .int .u8 (c : Nat)] [] Q := by
  have hm5 : m < 5 := by omega
  have hrb : r ≤ b := by rw [hr]; exact Nat.mod_le _ _
  have hkc : k ≤ c := by rw [hk]; exact Nat.mod_le _ _
  have hrr : r < m + 2 := by rw [hr]; exact Nat.mod_lt _ (by omega)
  have hkk : k < (ks r (pw (m + 1))).length + 1 := by rw [hk]; exact Nat.mod_lt _ (by omega)
  have r1 : (a : Int).tmod 5 = (m : Int) := by have := (rest_mod (a := a) (k := 5) (by omega)).tmod; rw [← hm] at this; exact this
  have r2 : (m : Int).tmod 5 = (m : Int) := (rest_self hm5).tmod
  have r3 : (b : Int).tmod ((m + 2 : Nat) : Int) = (r : Int) := by have := (rest_mod (a := b) (k := m + 2) (by omega)).tmod; rw [← hr] at this; exact this
  have r4 : (r : Int).tmod ((m + 2 : Nat) : Int) = (r : Int) := (rest_self hrr).tmod
  obtain ⟨v', H', g, hf⟩ := l9 (n := m + 1) (r := r) (by omega) (pw (m + 1)) 0 .nils [] (by omega) (by exact Grow.nil)
  have hL : (ks r (pw (m + 1))).length ≤ pw (m + 1) := ks_le
  have hp : pw (m + 1) ≤ 32 := Nat.le_trans (Nat.pow_le_pow_right (by decide) (by omega)) (by decide : 2 ^ 5 ≤ 32)
  generalize (ks r (pw (m + 1))) = L at *
  have r5 : (c : Int).tmod ((L.length + 1 : Nat) : Int) = (k : Int) := by have := (rest_mod (a := c) (k := L.length + 1) (by omega)).tmod; rw [← hk] at this; exact this
  have r6 : (k : Int).tmod ((L.length + 1 : Nat) : Int) = (k : Int) := (rest_self hkk).tmod
  have hn : IntKind.i64.wrap (1 + (m : Int)) = ((m + 1 : Nat) : Int) := by rw [show 1 + (m : Int) = ((m + 1 : Nat) : Int) by omega, i64_nat (by omega)]
  have hn1 : IntKind.i64.wrap (((m + 1 : Nat) : Int) + 1) = ((m + 2 : Nat) : Int) := i64_suc (by omega)
  have hL1 : IntKind.i64.wrap ((L.length : Int) + 1) = ((L.length + 1 : Nat) : Int) := i64_suc (by omega)
  have hs := shl_i64 (n := m + 1) (by omega)
  have z2 : ((m + 2 : Nat) : Int) ≠ 0 := by omega
  have zL : ((L.length + 1 : Nat) : Int) ≠ 0 := by omega
  generalize pw (m + 1) = pm at *
  generalize m + 2 = m2 at *
  generalize m + 1 = n at *
  generalize hll : L.length + 1 = l1 at *
  rw [call9] at h ⊢
  simp [go_sem, WpFun, c9, i64_nat (show a < 9223372036854775808 by omega), i64_nat (show b < 9223372036854775808 by omega), i64_nat (show m < 9223372036854775808 by omega), i64_nat (show r < 9223372036854775808 by omega), abin_rem (show (5 : Int) ≠ 0 by decide), abin_rem z2, r1, r2, r3, r4, hn, hn1, hs] at h ⊢
  have e0 : ((0 : Nat) : Int) = 0 := rfl
  rw [e0] at hf
  obtain ⟨e, fr', H2, ⟨rfl, rfl, rfl⟩, h⟩ := Wp.both (hf k (fun e fr H => e = .exit 0 ∧ fr = [(2, .int .u8 (k : Nat)), (7, .int .i64 (n : Nat)), (8, .int .i64 (r : Nat)), (9, v'), (41, .int .i64 (pm : Nat)), (42, .int .i64 (pm : Nat)), (43, .bool false)] ∧ H = H') ⟨rfl, rfl, rfl⟩) h
  refine hf c _ ?_
  simp [go_sem, g.lenw, i64_nat (show c < 9223372036854775808 by omega), i64_nat (show k < 9223372036854775808 by omega), hL1, abin_rem zL, r5, r6] at h ⊢
  exact h
end Go.Proofs.YtbkhffakhggdaaaDoor.Code
