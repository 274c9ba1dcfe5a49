/-
  Part of the proofs about this chapter: contracts of functions, answers of calls, and plain laws.
-/
import Derived.Test.YtbkhffakhggdaaaDoorTCa
import Derived.Test.YtbkhffakhggdaaaDoorNuAll
set_option linter.all false
section
namespace Go.Proofs.YtbkhffakhggdaaaDoor.Code
open Go Go.Ab
variable {pure : Bool} {base bar : Nat} {H : Heap} {Q : AV → Heap → Prop} {K : AV → Heap → List Nat → Prop}

/-! numbers of trays -/
theorem szS_mem {n x : Nat} (h1 : 1 ≤ n) (h6 : n ≤ 6) (hx : x < pw n) : pc x ≤ n ∧ (szS n (pc x)).idxOf x = bef x ∧ bef x < (szS n (pc x)).length ∧ (szS n (pc x))[bef x]? = some x ∧ ∀ i, i < bef x → (szS n (pc x))[i]? ≠ some x := by
  have : ∀ n, n ≤ 6 → ∀ x, x < 2 ^ n → pc x ≤ n ∧ (szS n (pc x)).idxOf x = bef x ∧ bef x < (szS n (pc x)).length ∧ (szS n (pc x))[bef x]? = some x ∧ ∀ i, i < bef x → (szS n (pc x))[i]? ≠ some x := by decide +kernel
  exact this n h6 x hx
theorem szS_lt {n r : Nat} (h6 : n ≤ 6) : ∀ u ∈ szS n r, u < 64 := fun u hu => by
  have h1 := List.mem_range.1 (List.mem_filter.1 hu).1
  exact Nat.lt_of_lt_of_le h1 (Nat.le_trans (Nat.pow_le_pow_right (by decide) h6) (by decide : 2 ^ 6 ≤ 64))
theorem szS_len {n r : Nat} (h6 : n ≤ 6) : (szS n r).length ≤ 64 := by
  refine Nat.le_trans (List.length_filter_le _ _) ?_
  rw [List.length_range]
  exact Nat.le_trans (Nat.pow_le_pow_right (by decide) h6) (by decide : 2 ^ 6 ≤ 64)
theorem isS_sz {n r : Nat} : isS (sz n r) (szS n r) := .inr ⟨_, rfl⟩
theorem sl_sz {n r i : Nat} (hi : i ≤ (szS n r).length) : ∃ v, isS v ((szS n r).take i) ∧ ∀ H : Heap, aslice H (.slc 1) (sz n r) none (some (.int .i64 (i : Int))) none = some v := by
  refine ⟨.lst 1 (Nat.beq r 0 && i == (dys (szS n r)).length) (dys ((szS n r).take i)), .inr ⟨_, rfl⟩, fun H => ?_⟩
  have e : ((szS n r).map dy).take i = dys ((szS n r).take i) := by simp [dys]
  have hl : i ≤ ((szS n r).map dy).length := by simpa using hi
  simp [aslice, sz, optBound, bound1, AV.asNat, hi, e, dys_length]
theorem l32 {x : Nat} {v q : AV} {S : List Nat} (hv : isV v (dyL x)) (hx : x < 64) (hq : isS q S) (hS : ∀ u ∈ S, u < 64) (hl : S.length ≤ 64) {b : Nat} (hb : S[b]? = some x) (hne : ∀ i, i < b → S[i]? ≠ some x) {R : PQ} : ∀ (k i : Nat), i + k = b →
    R (.exit 0) [(1, v), (7, q), (8, .int .i64 (b : Nat)), (27, .bool false)] H →
    Wp E base bar (.loop c32_l0) [(1, v), (7, q), (8, .int .i64 (i : Nat))] H R := by
  obtain ⟨hbl, hbx⟩ := List.getElem?_eq_some_iff.1 hb
  intro k
  induction k with
  | zero =>
    intro i hi h
    obtain rfl : i = b := by omega
    have hix := fun (K : AV → Heap → List Nat → Prop) (k : IntKind) => hq.ix (H := H) (K := K) (k := k) hbl
    rw [hbx] at hix
    rw [wp_round c32_l0.eq_1]
    simp [go_sem, hix, dy_fp]
    refine k86s (isV_dyL hx) hv hx hx ?_
    simp [go_sem]
    exact h
  | succ k ih =>
    intro i hi h
    have hlt : i < S.length := by omega
    have hix := fun (K : AV → Heap → List Nat → Prop) (k : IntKind) => hq.ix (H := H) (K := K) (k := k) hlt
    have hu := hS _ (List.getElem_mem hlt)
    have hn : S[i] ≠ x := fun e => hne i (by omega) (by rw [List.getElem?_eq_getElem hlt, e])
    generalize S[i] = u at *
    have next := ih (i + 1) (by omega) h
    rw [wp_round c32_l0.eq_1]
    simp [go_sem, hix, dy_fp]
    refine k86s (isV_dyL hu) hv hu hx ?_
    simp [go_sem, hn, i64_suc (show i < 1000000 by omega)]
    exact next
theorem num_both {n : Int} {v : AV} {l : List Int} (hv : isV v l) (hl : l.length < 1000) : ∃ a e : Int,
    (∀ Q : AV → Heap → Prop, Q (.tup [.int .i64 a, .int .i64 e]) [] → WpCall E false 0 0 31 [.int .i64 n, v] [] Q) ∧
    (∀ Q : AV → Heap → Prop, Q (.tup [.int .i64 a, .int .i64 e]) [] → WpCall E false 0 0 32 [.int .i64 n, v] [] Q) := by
  by_cases hn : 1 ≤ n ∧ n ≤ 6
  · obtain ⟨n, rfl⟩ := Int.eq_ofNat_of_zero_le (show 0 ≤ n by omega)
    have h1 : 1 ≤ n := by omega
    have h6 : n ≤ 6 := by omega
    by_cases he : errT n (-1) l = 0
    · obtain ⟨hx, hlx⟩ := dyL_of h1 h6 he
      generalize orT 0 l = x at *
      subst hlx
      have hx6 : x < 64 := Nat.lt_of_lt_of_le hx (Nat.le_trans (Nat.pow_le_pow_right (by decide) h6) (by decide : 2 ^ 6 ≤ 64))
      obtain ⟨m1, _, m2, m3, m4⟩ := szS_mem h1 h6 hx
      have p32 : ∀ Q : AV → Heap → Prop, Q (.tup [.int .i64 (bef x : Int), .int .i64 0]) [] → WpCall E false 0 0 32 [.int .i64 (n : Int), v] [] Q := fun Q h => by
        rw [call32]
        simp [go_sem, WpFun, c32, hv.frz, hv.isTup, hv.noVec, hv.cells, fillA, setCells, chunks, AV.noVec.noVecs, AV.noVec, aop]
        refine k42v h1 h6 hv hl he ?_
        simp [go_sem, hv.len, dyL_len hx6]
        refine (call88 h1 h6 m1).2 ?_
        simp [go_sem]
        refine l32 hv hx6 isS_sz (szS_lt h6) (szS_len h6) m3 m4 (bef x) 0 (by omega) ?_
        simp [go_sem]
        exact h
      obtain ⟨y, hy, e | ⟨e0, e⟩⟩ := isV_dy h1 h6 hv he
      · have hy6 : y < 64 := Nat.lt_of_lt_of_le hy (Nat.le_trans (Nat.pow_le_pow_right (by decide) h6) (by decide : 2 ^ 6 ≤ 64))
        have hxy : x = y := by
          subst e
          rcases hv with ⟨e1, e2⟩ | e1
          · have : ∀ y, y < 64 → dy y = .nils → y = 0 := fun y hy h => by
              unfold dy at h; split at h
              · assumption
              · cases h
            have := this y hy6 e1
            subst this
            exact dyL_inj hx6 hy6 e2
          · have k2 := (isV_dyL hy6)
            rcases k2 with ⟨e3, e4⟩ | e3
            · rw [e3] at e1; cases e1
            · rw [e3] at e1
              simp only [AV.lst.injEq, true_and] at e1
              exact (dyL_inj hy6 hx6 (by
                have : ∀ {a b : List Int}, ints a = ints b → a = b := fun {a} => by
                  induction a with
                  | nil => intro b h; cases b with
                    | nil => rfl
                    | cons _ _ => simp [ints] at h
                  | cons c r ih => intro b h; cases b with
                    | nil => simp [ints] at h
                    | cons d s => simp only [ints, List.map_cons, List.cons.injEq, AV.int.injEq, true_and] at h; rw [h.1, ih h.2]
                exact this e1)).symm
        subst hxy
        subst e
        exact ⟨bef x, 0, fun Q h => ⟨200000, _, _, okv_eq (k31_all h1 h6 hx), h⟩, p32⟩
      · subst e0; subst e
        have hx0 : x = 0 := by
          rcases hv with ⟨e1, _⟩ | e1
          · cases e1
          · simp only [lst0, AV.lst.injEq, true_and] at e1
            have : dyL x = dyL 0 := by
              have e2 : ints (dyL x) = [] := e1.symm
              have e3 : dyL x = [] := by simpa [ints] using e2
              rw [e3]; rfl
            exact dyL_inj hx6 (by decide) this
        subst hx0
        exact ⟨0, 0, fun Q h => ⟨200000, _, _, okv_eq (k31e_all h1 h6), h⟩, p32⟩
    · refine ⟨0, errT n (-1) l, fun Q h => ?_, fun Q h => ?_⟩
      · rw [call31]
        simp [go_sem, WpFun, c31, hv.frz]
        refine k72e h1 h6 hv hl he ?_
        simp [go_sem, he]
        exact h
      · rw [call32]
        simp [go_sem, WpFun, c32, hv.frz, hv.isTup, hv.noVec, hv.cells, fillA, setCells, chunks, AV.noVec.noVecs, AV.noVec, aop]
        refine k42e h1 h6 hv hl he ?_
        simp [go_sem, he]
        exact h
  · refine ⟨0, 1, fun Q h => ?_, fun Q h => ?_⟩
    · rw [call31]
      simp [go_sem, WpFun, c31, hv.frz]
      refine k72o hn hv ?_
      simp [go_sem]
      exact h
    · rw [call32]
      simp [go_sem, WpFun, c32, hv.frz, hv.isTup, hv.noVec, hv.cells, fillA, setCells, chunks, AV.noVec.noVecs, AV.noVec, aop]
      refine k42o hn (fun _ _ _ => rfl) rfl ?_
      simp [go_sem]
      exact h

/-! trays with numbers, and how small a shadow can be -/
theorem k89 {n r : Int} (h : Q (.int .i64 (if 1 ≤ n ∧ n ≤ 6 ∧ 0 ≤ r ∧ r ≤ n then 0 else 1)) H) : WpCall E pure base bar 89 [.int .i64 n, .int .i64 r] H Q := by
  rw [call89]
  simp [go_sem, WpFun, c89]
  refine k79 ?_
  by_cases h1 : 1 ≤ n <;> by_cases h2 : n ≤ 6 <;> by_cases h3 : r < 0 <;> by_cases h4 : n < r
  all_goals (have h3' : (0 ≤ r) ↔ ¬ r < 0 := by omega); (have h4' : (r ≤ n) ↔ ¬ n < r := by omega)
  all_goals simp [h1, h2, h3, h4, h3', h4'] at h
  all_goals simp [go_sem, h1, h2, h3, h4]
  all_goals exact h
theorem nth_both {n r i : Int} : ∃ (a b : AV) (e : Int),
    (∀ Q : AV → Heap → Prop, Q (.tup [a, .int .i64 e]) [] → WpCall E false 0 0 33 [.int .i64 n, .int .i64 r, .int .i64 i] [] Q) ∧
    (∀ Q : AV → Heap → Prop, Q (.tup [b, .int .i64 e]) [] → WpCall E false 0 0 34 [.int .i64 n, .int .i64 r, .int .i64 i] [] Q) ∧
    (∀ Q : AV → Heap → Prop, Q (.bool true) [] → WpCall E false 0 0 29 [a, b] [] Q) := by
  by_cases hn : 1 ≤ n ∧ n ≤ 6 ∧ 0 ≤ r ∧ r ≤ n
  · obtain ⟨n, rfl⟩ := Int.eq_ofNat_of_zero_le (show 0 ≤ n by omega)
    obtain ⟨r, rfl⟩ := Int.eq_ofNat_of_zero_le (show 0 ≤ r by omega)
    have h1 : 1 ≤ n := by omega
    have h6 : n ≤ 6 := by omega
    have hr : r ≤ n := by omega
    by_cases hi : 0 ≤ i ∧ i < (chS n r : Int)
    · obtain ⟨i, rfl⟩ := Int.eq_ofNat_of_zero_le hi.1
      have hil : i < (szS n r).length := by have : (szS n r).length = chS n r := rfl; omega
      have hk := kNth_all (x := i) h1 h6 hr (by omega)
      unfold kNth at hk
      have hg : (szS n r).getD i 0 = (szS n r)[i] := by simp [List.getD, hil]
      rw [hg] at hk
      have hu := szS_lt (r := r) h6 _ (List.getElem_mem hil)
      have h64 := szS_len (r := r) h6
      refine ⟨dy (szS n r)[i], dy (szS n r)[i], 0, fun Q h => ⟨200000, _, _, okv_eq hk, h⟩, fun Q h => ?_, fun Q h => k29s hu hu (by simpa using h)⟩
      have hb1 : (decide (1 ≤ (n : Int)) && decide ((n : Int) ≤ 6)) = true := by
        rw [Bool.and_eq_true, decide_eq_true_eq, decide_eq_true_eq]; omega
      have hb2 : (decide (0 ≤ (r : Int)) && decide ((r : Int) ≤ (n : Int))) = true := by
        rw [Bool.and_eq_true, decide_eq_true_eq, decide_eq_true_eq]; omega
      have hix := fun (K : AV → Heap → List Nat → Prop) (k : IntKind) => (isS_sz (n := n) (r := r)).ix (H := []) (K := K) (k := k) hil
      have hw : IntKind.i64.wrap (((szS n r).length : Int) - 1) = ((szS n r).length : Int) - 1 := by
        rw [show ((szS n r).length : Int) - 1 = (((szS n r).length - 1 : Nat) : Int) by omega, i64_nat (by omega)]
      rw [call34]
      simp [go_sem, WpFun, c34]
      refine k84 ?_
      rw [hb1]
      simp [go_sem]
      refine k84 ?_
      rw [hb2]
      simp [go_sem]
      refine (call88 h1 h6 hr).2 ?_
      simp [go_sem, isS_sz.len, hw]
      refine k84 ?_
      rw [show (decide (0 ≤ (i : Int)) && decide ((i : Int) ≤ ((szS n r).length : Int) - 1)) = true by
        rw [Bool.and_eq_true, decide_eq_true_eq, decide_eq_true_eq]; omega]
      simp [go_sem, hix, dy_fp, dy_frz, dy_top]
      exact h
    · refine ⟨.nils, .nils, 2, fun Q h => ?_, fun Q h => ?_, fun Q h => ⟨200000, _, _, okv_eq k29n_ok, h⟩⟩
      · rw [call33]
        simp [go_sem, WpFun, c33]
        refine k89 ?_
        rw [if_pos hn]
        by_cases h0 : i < 0
        · simp [go_sem, h0]
          exact h
        · have h2 : (chS n r : Int) ≤ i := by omega
          simp [go_sem, h0]
          refine (call87 h1 h6 hr).2 ?_
          simp [go_sem, h2]
          exact h
      · have hb1 : (decide (1 ≤ (n : Int)) && decide ((n : Int) ≤ 6)) = true := by
          rw [Bool.and_eq_true, decide_eq_true_eq, decide_eq_true_eq]; omega
        have hb2 : (decide (0 ≤ (r : Int)) && decide ((r : Int) ≤ (n : Int))) = true := by
          rw [Bool.and_eq_true, decide_eq_true_eq, decide_eq_true_eq]; omega
        rw [call34]
        simp [go_sem, WpFun, c34]
        refine k84 ?_
        rw [hb1]
        simp [go_sem]
        refine k84 ?_
        rw [hb2]
        simp [go_sem]
        refine (call88 h1 h6 hr).2 ?_
        have hxs : (szS n r).length = chS n r := rfl
        have hc : 0 < chS n r := by
          have : ∀ n, n ≤ 6 → ∀ r, r ≤ n → 0 < chS n r := by decide +kernel
          exact this n h6 r hr
        have hw : IntKind.i64.wrap (((szS n r).length : Int) - 1) = ((chS n r : Nat) : Int) - 1 := by
          have h64 : ∀ n, n ≤ 6 → ∀ r, r ≤ n → chS n r < 65 := by decide +kernel
          have := h64 n h6 r hr
          rw [hxs, show ((chS n r : Nat) : Int) - 1 = ((chS n r - 1 : Nat) : Int) by omega, i64_nat (by omega)]
        simp [go_sem, isS_sz.len, hw]
        refine k84 ?_
        rw [show (decide (0 ≤ i) && decide (i ≤ ((chS n r : Nat) : Int) - 1)) = false by
          rw [← Bool.not_eq_true, Bool.and_eq_true, decide_eq_true_eq, decide_eq_true_eq]; omega]
        simp [go_sem]
        exact h
  · refine ⟨.nils, .nils, 1, fun Q h => ?_, fun Q h => ?_, fun Q h => ⟨200000, _, _, okv_eq k29n_ok, h⟩⟩
    · rw [call33]
      simp [go_sem, WpFun, c33]
      refine k89 ?_
      rw [if_neg hn]
      simp [go_sem]
      exact h
    · rw [call34]
      simp [go_sem, WpFun, c34]
      refine k84 ?_
      cases hb : (decide (1 ≤ n) && decide (n ≤ 6))
      · simp [go_sem]
        exact h
      · simp [go_sem]
        refine k84 ?_
        rw [show (decide (0 ≤ r) && decide (r ≤ n)) = false by
          rw [Bool.and_eq_true, decide_eq_true_eq, decide_eq_true_eq] at hb
          rw [← Bool.not_eq_true, Bool.and_eq_true, decide_eq_true_eq, decide_eq_true_eq]; omega]
        simp [go_sem]
        exact h
theorem lean_both {n r i : Int} : ∃ (a e : Int),
    (∀ Q : AV → Heap → Prop, Q (.tup [.int .i64 a, .int .i64 e]) [] → WpCall E false 0 0 35 [.int .i64 n, .int .i64 r, .int .i64 i] [] Q) ∧
    (∀ Q : AV → Heap → Prop, Q (.tup [.int .i64 a, .int .i64 e]) [] → WpCall E false 0 0 36 [.int .i64 n, .int .i64 r, .int .i64 i] [] Q) := by
  by_cases hn : 1 ≤ n ∧ n ≤ 6 ∧ 0 ≤ r ∧ r ≤ n
  · obtain ⟨n, rfl⟩ := Int.eq_ofNat_of_zero_le (show 0 ≤ n by omega)
    obtain ⟨r, rfl⟩ := Int.eq_ofNat_of_zero_le (show 0 ≤ r by omega)
    have h1 : 1 ≤ n := by omega
    have h6 : n ≤ 6 := by omega
    have hr : r ≤ n := by omega
    by_cases hi : 0 ≤ i ∧ i < (chS n r : Int) + 1
    · obtain ⟨i, rfl⟩ := Int.eq_ofNat_of_zero_le hi.1
      have hil : i ≤ (szS n r).length := by have : (szS n r).length = chS n r := rfl; omega
      have hk := kLean_all (x := i) h1 h6 hr (by omega)
      unfold kLean at hk
      have h64 := szS_len (r := r) h6
      refine ⟨leanS n r i, 0, fun Q h => ⟨200000, _, _, okv_eq hk, h⟩, fun Q h => ?_⟩
      have hb1 : (decide (1 ≤ (n : Int)) && decide ((n : Int) ≤ 6)) = true := by
        rw [Bool.and_eq_true, decide_eq_true_eq, decide_eq_true_eq]; omega
      have hb2 : (decide (0 ≤ (r : Int)) && decide ((r : Int) ≤ (n : Int))) = true := by
        rw [Bool.and_eq_true, decide_eq_true_eq, decide_eq_true_eq]; omega
      rw [call36]
      simp [go_sem, WpFun, c36]
      refine k84 ?_
      rw [hb1]
      simp [go_sem]
      refine k84 ?_
      rw [hb2]
      simp [go_sem]
      refine (call88 h1 h6 hr).2 ?_
      simp [go_sem, isS_sz.len]
      refine k84 ?_
      rw [show (decide (0 ≤ (i : Int)) && decide ((i : Int) ≤ ((szS n r).length : Int))) = true by
        rw [Bool.and_eq_true, decide_eq_true_eq, decide_eq_true_eq]; omega]
      obtain ⟨vs, hvs, hsl⟩ := sl_sz (n := n) (r := r) (i := i) hil
      simp [go_sem, aop, Opd.evo, hsl, hvs.isTup, hvs.cells, hvs.noVec, AV.noVec.noVecs, AV.noVec, fillA, setCells]
      refine k71 h1 h6 (.inr rfl) hvs (fun t ht => szS_lt h6 t (List.mem_of_mem_take ht)) (by rw [List.length_take]; omega) (by simp) ?_
      simp [go_sem, isS.out.len]
      exact h
    · refine ⟨0, 2, fun Q h => ?_, fun Q h => ?_⟩
      · rw [call35]
        simp [go_sem, WpFun, c35]
        refine k89 ?_
        rw [if_pos hn]
        by_cases h0 : i < 0
        · simp [go_sem, h0]
          exact h
        · have h2 : (chS n r : Int) < i := by omega
          simp [go_sem, h0]
          refine (call87 h1 h6 hr).2 ?_
          simp [go_sem, h2]
          exact h
      · have hb1 : (decide (1 ≤ (n : Int)) && decide ((n : Int) ≤ 6)) = true := by
          rw [Bool.and_eq_true, decide_eq_true_eq, decide_eq_true_eq]; omega
        have hb2 : (decide (0 ≤ (r : Int)) && decide ((r : Int) ≤ (n : Int))) = true := by
          rw [Bool.and_eq_true, decide_eq_true_eq, decide_eq_true_eq]; omega
        rw [call36]
        simp [go_sem, WpFun, c36]
        refine k84 ?_
        rw [hb1]
        simp [go_sem]
        refine k84 ?_
        rw [hb2]
        simp [go_sem]
        refine (call88 h1 h6 hr).2 ?_
        have hxs : (szS n r).length = chS n r := rfl
        simp [go_sem, isS_sz.len]
        refine k84 ?_
        rw [show (decide (0 ≤ i) && decide (i ≤ (((szS n r).length : Nat) : Int))) = false by
          rw [hxs, ← Bool.not_eq_true, Bool.and_eq_true, decide_eq_true_eq, decide_eq_true_eq]; omega]
        simp [go_sem]
        exact h
  · refine ⟨0, 1, fun Q h => ?_, fun Q h => ?_⟩
    · rw [call35]
      simp [go_sem, WpFun, c35]
      refine k89 ?_
      rw [if_neg hn]
      simp [go_sem]
      exact h
    · rw [call36]
      simp [go_sem, WpFun, c36]
      refine k84 ?_
      cases hb : (decide (1 ≤ n) && decide (n ≤ 6))
      · simp [go_sem]
        exact h
      · simp [go_sem]
        refine k84 ?_
        rw [show (decide (0 ≤ r) && decide (r ≤ n)) = false by
          rw [Bool.and_eq_true, decide_eq_true_eq, decide_eq_true_eq] at hb
          rw [← Bool.not_eq_true, Bool.and_eq_true, decide_eq_true_eq, decide_eq_true_eq]; omega]
        simp [go_sem]
        exact h
theorem law5 {n r i : Int} {v : AV} {l : List Int} (hv : isV v l) : WpCall E false 0 0 5 [.int .i64 n, .int .i64 r, .int .i64 i, v] [] (fun v _ => v = .bool true) := by
  rw [call5]
  by_cases hl : 30 < l.length
  · have hl' : (30 : Int) < (l.length : Int) := by omega
    simp [go_sem, WpFun, c5, hv.frz, hv.len, hl', call15]
  · have hl' : ¬ (30 : Int) < (l.length : Int) := by omega
    obtain ⟨a, e, p1, p2⟩ := num_both (n := n) hv (by omega)
    obtain ⟨b, c, f, q1, q2, q3⟩ := nth_both (n := n) (r := r) (i := i)
    obtain ⟨d, g, r1, r2⟩ := lean_both (n := n) (r := r) (i := i)
    simp [go_sem, WpFun, c5, hv.frz, hv.len, hl']
    refine p1 _ ?_
    simp [go_sem]
    refine p2 _ ?_
    simp [go_sem]
    refine q1 _ ?_
    simp [go_sem]
    refine q2 _ ?_
    simp [go_sem]
    refine r1 _ ?_
    simp [go_sem]
    refine r2 _ ?_
    simp [go_sem]
    refine q3 _ ?_
    simp [go_sem, call15]
theorem numbers_true {a0 a1 a2 : Int} {v : AV} {l : List Int} (hv : isV v l) : ∃ f H', acall E f 5 [.int .i64 a0, .int .i64 a1, .int .i64 a2, v] [] = some (.bool true, H') := by
  obtain ⟨f, v, H', h, rfl⟩ := law5 hv (n := a0) (r := a1) (i := a2)
  exact ⟨f, H', h⟩
end Go.Proofs.YtbkhffakhggdaaaDoor.Code
end

