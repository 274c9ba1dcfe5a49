/-
  Part of the proofs about this chapter: contracts of functions, answers of calls, and plain laws.
-/
import Derived.Test.YtbkhffakhggdaaaDoorCn1
import Derived.Test.YtbkhffakhggdaaaDoorCn4
import Derived.KernelRfl
import Derived.Test.YtbkhffakhggdaaaDoorTCa
set_option linter.all false
section
namespace Go.Proofs.YtbkhffakhggdaaaDoor.Code
open Go Go.Ab
theorem kFreeX_all1 {x : Nat} (h : x < 2) : kFreeX 1 x = true := by
  exact all_of kFreeX_1_0 (by omega) (by omega)
theorem kFreeX_all2 {x : Nat} (h : x < 4) : kFreeX 2 x = true := by
  exact all_of kFreeX_2_0 (by omega) (by omega)
theorem kFreeX_all3 {x : Nat} (h : x < 8) : kFreeX 3 x = true := by
  exact all_of kFreeX_3_0 (by omega) (by omega)
theorem kFreeX_all4 {x : Nat} (h : x < 16) : kFreeX 4 x = true := by
  by_cases h0 : x < 8
  · exact all_of kFreeX_4_0 (by omega) (by omega)
  exact all_of kFreeX_4_8 (by omega) (by omega)
theorem kFreeX_all5 {x : Nat} (h : x < 32) : kFreeX 5 x = true := by
  by_cases h0 : x < 8
  · exact all_of kFreeX_5_0 (by omega) (by omega)
  by_cases h8 : x < 16
  · exact all_of kFreeX_5_8 (by omega) (by omega)
  by_cases h16 : x < 24
  · exact all_of kFreeX_5_16 (by omega) (by omega)
  exact all_of kFreeX_5_24 (by omega) (by omega)
theorem kFreeX_all6 {x : Nat} (h : x < 64) : kFreeX 6 x = true := by
  by_cases h0 : x < 8
  · exact all_of kFreeX_6_0 (by omega) (by omega)
  by_cases h8 : x < 16
  · exact all_of kFreeX_6_8 (by omega) (by omega)
  by_cases h16 : x < 24
  · exact all_of kFreeX_6_16 (by omega) (by omega)
  by_cases h24 : x < 32
  · exact all_of kFreeX_6_24 (by omega) (by omega)
  by_cases h32 : x < 40
  · exact all_of kFreeX_6_32 (by omega) (by omega)
  by_cases h40 : x < 48
  · exact all_of kFreeX_6_40 (by omega) (by omega)
  by_cases h48 : x < 56
  · exact all_of kFreeX_6_48 (by omega) (by omega)
  exact all_of kFreeX_6_56 (by omega) (by omega)
theorem kFreeX_all {n x : Nat} (h1 : 1 ≤ n) (h6 : n ≤ 6) (h : x < 2 ^ n) : kFreeX n x = true := by
  have : n = 1 ∨ n = 2 ∨ n = 3 ∨ n = 4 ∨ n = 5 ∨ n = 6 := by omega
  rcases this with rfl | rfl | rfl | rfl | rfl | rfl
  · exact kFreeX_all1 h
  · exact kFreeX_all2 h
  · exact kFreeX_all3 h
  · exact kFreeX_all4 h
  · exact kFreeX_all5 h
  · exact kFreeX_all6 h
theorem kChainX_all1 {x : Nat} (h : x < 2) : kChainX 1 x = true := by
  exact all_of kChainX_1_0 (by omega) (by omega)
theorem kChainX_all2 {x : Nat} (h : x < 4) : kChainX 2 x = true := by
  exact all_of kChainX_2_0 (by omega) (by omega)
theorem kChainX_all3 {x : Nat} (h : x < 8) : kChainX 3 x = true := by
  exact all_of kChainX_3_0 (by omega) (by omega)
theorem kChainX_all4 {x : Nat} (h : x < 16) : kChainX 4 x = true := by
  by_cases h0 : x < 8
  · exact all_of kChainX_4_0 (by omega) (by omega)
  exact all_of kChainX_4_8 (by omega) (by omega)
theorem kChainX_all5 {x : Nat} (h : x < 32) : kChainX 5 x = true := by
  by_cases h0 : x < 4
  · exact all_of kChainX_5_0 (by omega) (by omega)
  by_cases h4 : x < 8
  · exact all_of kChainX_5_4 (by omega) (by omega)
  by_cases h8 : x < 12
  · exact all_of kChainX_5_8 (by omega) (by omega)
  by_cases h12 : x < 16
  · exact all_of kChainX_5_12 (by omega) (by omega)
  by_cases h16 : x < 20
  · exact all_of kChainX_5_16 (by omega) (by omega)
  by_cases h20 : x < 24
  · exact all_of kChainX_5_20 (by omega) (by omega)
  by_cases h24 : x < 28
  · exact all_of kChainX_5_24 (by omega) (by omega)
  exact all_of kChainX_5_28 (by omega) (by omega)
theorem kChainX_all6 {x : Nat} (h : x < 64) : kChainX 6 x = true := by
  by_cases h0 : x < 2
  · exact all_of kChainX_6_0 (by omega) (by omega)
  by_cases h2 : x < 4
  · exact all_of kChainX_6_2 (by omega) (by omega)
  by_cases h4 : x < 6
  · exact all_of kChainX_6_4 (by omega) (by omega)
  by_cases h6 : x < 8
  · exact all_of kChainX_6_6 (by omega) (by omega)
  by_cases h8 : x < 10
  · exact all_of kChainX_6_8 (by omega) (by omega)
  by_cases h10 : x < 12
  · exact all_of kChainX_6_10 (by omega) (by omega)
  by_cases h12 : x < 14
  · exact all_of kChainX_6_12 (by omega) (by omega)
  by_cases h14 : x < 16
  · exact all_of kChainX_6_14 (by omega) (by omega)
  by_cases h16 : x < 18
  · exact all_of kChainX_6_16 (by omega) (by omega)
  by_cases h18 : x < 20
  · exact all_of kChainX_6_18 (by omega) (by omega)
  by_cases h20 : x < 22
  · exact all_of kChainX_6_20 (by omega) (by omega)
  by_cases h22 : x < 24
  · exact all_of kChainX_6_22 (by omega) (by omega)
  by_cases h24 : x < 26
  · exact all_of kChainX_6_24 (by omega) (by omega)
  by_cases h26 : x < 28
  · exact all_of kChainX_6_26 (by omega) (by omega)
  by_cases h28 : x < 30
  · exact all_of kChainX_6_28 (by omega) (by omega)
  by_cases h30 : x < 32
  · exact all_of kChainX_6_30 (by omega) (by omega)
  by_cases h32 : x < 34
  · exact all_of kChainX_6_32 (by omega) (by omega)
  by_cases h34 : x < 36
  · exact all_of kChainX_6_34 (by omega) (by omega)
  by_cases h36 : x < 38
  · exact all_of kChainX_6_36 (by omega) (by omega)
  by_cases h38 : x < 40
  · exact all_of kChainX_6_38 (by omega) (by omega)
  by_cases h40 : x < 42
  · exact all_of kChainX_6_40 (by omega) (by omega)
  by_cases h42 : x < 44
  · exact all_of kChainX_6_42 (by omega) (by omega)
  by_cases h44 : x < 46
  · exact all_of kChainX_6_44 (by omega) (by omega)
  by_cases h46 : x < 48
  · exact all_of kChainX_6_46 (by omega) (by omega)
  by_cases h48 : x < 50
  · exact all_of kChainX_6_48 (by omega) (by omega)
  by_cases h50 : x < 52
  · exact all_of kChainX_6_50 (by omega) (by omega)
  by_cases h52 : x < 54
  · exact all_of kChainX_6_52 (by omega) (by omega)
  by_cases h54 : x < 56
  · exact all_of kChainX_6_54 (by omega) (by omega)
  by_cases h56 : x < 58
  · exact all_of kChainX_6_56 (by omega) (by omega)
  by_cases h58 : x < 60
  · exact all_of kChainX_6_58 (by omega) (by omega)
  by_cases h60 : x < 62
  · exact all_of kChainX_6_60 (by omega) (by omega)
  exact all_of kChainX_6_62 (by omega) (by omega)
theorem kChainX_all {n x : Nat} (h1 : 1 ≤ n) (h6 : n ≤ 6) (h : x < 2 ^ n) : kChainX n x = true := by
  have : n = 1 ∨ n = 2 ∨ n = 3 ∨ n = 4 ∨ n = 5 ∨ n = 6 := by omega
  rcases this with rfl | rfl | rfl | rfl | rfl | rfl
  · exact kChainX_all1 h
  · exact kChainX_all2 h
  · exact kChainX_all3 h
  · exact kChainX_all4 h
  · exact kChainX_all5 h
  · exact kChainX_all6 h
theorem kFreeE_all {n : Nat} (h1 : 1 ≤ n) (h6 : n ≤ 6) : kFreeE n = true := all_of kFreeE_1 (by omega) (by omega)
theorem kChainE_all {n : Nat} (h1 : 1 ≤ n) (h6 : n ≤ 6) : kChainE n = true := all_of kChainE_1 (by omega) (by omega)
theorem kEq_all {n : Nat} (h1 : 1 ≤ n) (h6 : n ≤ 6) : kEq n = true := by
  by_cases h1 : n < 2
  · exact all_of kEq_1 (by omega) (by omega)
  by_cases h2 : n < 3
  · exact all_of kEq_2 (by omega) (by omega)
  by_cases h3 : n < 4
  · exact all_of kEq_3 (by omega) (by omega)
  by_cases h4 : n < 5
  · exact all_of kEq_4 (by omega) (by omega)
  by_cases h5 : n < 6
  · exact all_of kEq_5 (by omega) (by omega)
  exact all_of kEq_6 (by omega) (by omega)
end Go.Proofs.YtbkhffakhggdaaaDoor.Code
end

section
namespace Go.Proofs.YtbkhffakhggdaaaDoor.Code
open Go Go.Ab
variable {pure : Bool} {base bar : Nat} {H : Heap} {Q : AV → Heap → Prop} {K : AV → Heap → List Nat → Prop}

theorem k29n_c : k29n = true := by kernel_rfl
theorem free_both {n : Int} {v : AV} {l : List Int} (hv : isV v l) (hl : l.length < 1000) : ∃ (a b : AV) (e : Int),
    (∀ Q : AV → Heap → Prop, Q (.tup [a, .int .i64 e]) [] → WpCall E false 0 0 21 [.int .i64 n, v] [] Q) ∧
    (∀ Q : AV → Heap → Prop, Q (.tup [b, .int .i64 e]) [] → WpCall E false 0 0 22 [.int .i64 n, v] [] Q) ∧
    (∀ Q : AV → Heap → Prop, Q (.bool true) [] → WpCall E false 0 0 29 [a, b] [] Q) := by
  by_cases hn : 1 ≤ n ∧ n ≤ 6
  · obtain ⟨n, rfl⟩ := Int.eq_ofNat_of_zero_le (show 0 ≤ n by omega)
    have h1 : 1 ≤ n := by omega
    have h6 : n ≤ 6 := by omega
    by_cases he : errT n (-1) l = 0
    · have hk : kFree n v = true := by
        obtain ⟨x, hx, rfl | ⟨rfl, rfl⟩⟩ := isV_dy h1 h6 hv he
        · exact kFreeX_all h1 h6 hx
        · exact kFreeE_all h1 h6
      unfold kFree at hk
      split at hk
      · rename_i a b ha hb
        exact ⟨a, b, 0, fun Q h => ⟨200000, _, _, ha, h⟩, fun Q h => ⟨200000, _, _, hb, h⟩, fun Q h => ⟨200000, _, _, okv_eq hk, h⟩⟩
      · cases hk
    · refine ⟨.nils, .nils, errT n (-1) l, fun Q h => ?_, fun Q h => ?_, fun Q h => ⟨200000, _, _, okv_eq k29n_c, h⟩⟩
      · rw [call21]
        simp [go_sem, WpFun, c21, hv.frz]
        refine k72e h1 h6 hv hl he ?_
        simp [go_sem, he]
        exact h
      · rw [call22]
        simp [go_sem, WpFun, c22, hv.frz, hv.isTup, hv.noVec, hv.cells, fillA, setCells, chunks, AV.noVec.noVecs, AV.noVec, aop]
        refine k42e h1 h6 hv hl he ?_
        simp [go_sem, he]
        exact h
  · refine ⟨.nils, .nils, 1, fun Q h => ?_, fun Q h => ?_, fun Q h => ⟨200000, _, _, okv_eq k29n_c, h⟩⟩
    · rw [call21]
      simp [go_sem, WpFun, c21, hv.frz]
      refine k72o hn hv ?_
      simp [go_sem]
      exact h
    · rw [call22]
      simp [go_sem, WpFun, c22, hv.frz, hv.isTup, hv.noVec, hv.cells, fillA, setCells, chunks, AV.noVec.noVecs, AV.noVec, aop]
      refine k42o hn (fun _ _ _ => rfl) rfl ?_
      simp [go_sem]
      exact h
theorem chain_both {n : Int} {v : AV} {l : List Int} (hv : isV v l) (hl : l.length < 1000) : ∃ (a b : AV) (e : Int),
    (∀ Q : AV → Heap → Prop, Q (.tup [a, .int .i64 e]) [] → WpCall E false 0 0 23 [.int .i64 n, v] [] Q) ∧
    (∀ Q : AV → Heap → Prop, Q (.tup [b, .int .i64 e]) [] → WpCall E false 0 0 24 [.int .i64 n, v] [] Q) ∧
    (∀ Q : AV → Heap → Prop, Q (.bool true) [] → WpCall E false 0 0 20 [a, b] [] Q) := by
  by_cases hn : 1 ≤ n ∧ n ≤ 6
  · obtain ⟨n, rfl⟩ := Int.eq_ofNat_of_zero_le (show 0 ≤ n by omega)
    have h1 : 1 ≤ n := by omega
    have h6 : n ≤ 6 := by omega
    by_cases he : errT n (-1) l = 0
    · have hk : kChain n v = true := by
        obtain ⟨x, hx, rfl | ⟨rfl, rfl⟩⟩ := isV_dy h1 h6 hv he
        · exact kChainX_all h1 h6 hx
        · exact kChainE_all h1 h6
      unfold kChain at hk
      split at hk
      · rename_i a b ha hb
        exact ⟨a, b, 0, fun Q h => ⟨200000, _, _, ha, h⟩, fun Q h => ⟨200000, _, _, hb, h⟩, fun Q h => ⟨200000, _, _, okv_eq hk, h⟩⟩
      · cases hk
    · refine ⟨.nils, .nils, errT n (-1) l, fun Q h => ?_, fun Q h => ?_, fun Q h => ⟨200000, _, _, okv_eq k20n_ok, h⟩⟩
      · rw [call23]
        simp [go_sem, WpFun, c23, hv.frz]
        refine k72e h1 h6 hv hl he ?_
        simp [go_sem, he]
        exact h
      · rw [call24]
        simp [go_sem, WpFun, c24, hv.frz, hv.isTup, hv.noVec, hv.cells, fillA, setCells, chunks, AV.noVec.noVecs, AV.noVec, aop]
        refine k42e h1 h6 hv hl he ?_
        simp [go_sem, he]
        exact h
  · refine ⟨.nils, .nils, 1, fun Q h => ?_, fun Q h => ?_, fun Q h => ⟨200000, _, _, okv_eq k20n_ok, h⟩⟩
    · rw [call23]
      simp [go_sem, WpFun, c23, hv.frz]
      refine k72o hn hv ?_
      simp [go_sem]
      exact h
    · rw [call24]
      simp [go_sem, WpFun, c24, hv.frz, hv.isTup, hv.noVec, hv.cells, fillA, setCells, chunks, AV.noVec.noVecs, AV.noVec, aop]
      refine k42o hn (fun _ _ _ => rfl) rfl ?_
      simp [go_sem]
      exact h
theorem chains_both {n : Int} : ∃ (a b : AV) (e : Int),
    (∀ Q : AV → Heap → Prop, Q (.tup [a, .int .i64 e]) [] → WpCall E false 0 0 25 [.int .i64 n] [] Q) ∧
    (∀ Q : AV → Heap → Prop, Q (.tup [b, .int .i64 e]) [] → WpCall E false 0 0 26 [.int .i64 n] [] Q) ∧
    (∀ Q : AV → Heap → Prop, Q (.bool true) [] → WpCall E false 0 0 30 [a, b] [] Q) := by
  by_cases hn : 1 ≤ n ∧ n ≤ 6
  · obtain ⟨n, rfl⟩ := Int.eq_ofNat_of_zero_le (show 0 ≤ n by omega)
    have hk := kEq_all (n := n) (by omega) (by omega)
    unfold kEq at hk
    split at hk
    · rename_i a b ha hb
      refine ⟨a, b, 0, fun Q h => (call25 (by omega) (by omega)).2 ?_, fun Q h => (call26 (by omega) (by omega)).2 ?_, fun Q h => ⟨200000, _, _, okv_eq hk, h⟩⟩
      · rw [ha]; exact h
      · rw [hb]; exact h
    · cases hk
  · have hb : (decide (1 ≤ n) && decide (n ≤ 6)) = false := by
      rw [← Bool.not_eq_true, Bool.and_eq_true, decide_eq_true_eq, decide_eq_true_eq]; exact hn
    refine ⟨.nils, .nils, 1, fun Q h => ?_, fun Q h => ?_, fun Q h => ⟨200000, _, _, okv_eq k30n_ok, h⟩⟩
    · rw [call25o hn]
      simp [go_sem, frzWp, WpFun, c25]
      simp [go_sem, aload, Ab.part]
      refine k79 ?_
      rw [hb]
      simp [go_sem]
      exact h
    · rw [call26o hn]
      simp [go_sem, frzWp, WpFun, c26]
      refine k84 ?_
      rw [hb]
      simp [go_sem]
      exact h
theorem most_both {n : Int} : ∃ (a e : Int),
    (∀ Q : AV → Heap → Prop, Q (.tup [.int .i64 a, .int .i64 e]) [] → WpCall E false 0 0 27 [.int .i64 n] [] Q) ∧
    (∀ Q : AV → Heap → Prop, Q (.tup [.int .i64 a, .int .i64 e]) [] → WpCall E false 0 0 28 [.int .i64 n] [] Q) := by
  by_cases hn : 1 ≤ n ∧ n ≤ 6
  · obtain ⟨n, rfl⟩ := Int.eq_ofNat_of_zero_le (show 0 ≤ n by omega)
    refine ⟨(chS n (n / 2) : Nat), 0, fun Q h => (call27 (by omega) (by omega)).2 h, fun Q h => ?_⟩
    have hb : (decide (1 ≤ (n : Int)) && decide ((n : Int) ≤ 6)) = true := by
      rw [Bool.and_eq_true, decide_eq_true_eq, decide_eq_true_eq]; omega
    have hq : abin .quo (.int .i64 (n : Int)) (.int .i64 2) = some (.int .i64 ((n / 2 : Nat) : Int)) := by
      have : ∀ n, n < 7 → ((n : Nat) : Int).tdiv 2 = ((n / 2 : Nat) : Int) := by decide
      rw [abin_quo (by decide), this n (by omega), i64_nat (by omega)]
    rw [call28]
    simp [go_sem, WpFun, c28]
    refine k84 ?_
    rw [hb]
    simp [go_sem, hq]
    have hd : n / 2 ≤ n := Nat.div_le_self _ _
    refine (call88 (n := n) (r := n / 2) (by omega) (by omega) hd).2 ?_
    have hsz : isS (sz n (n / 2)) (szS n (n / 2)) := .inr ⟨_, rfl⟩
    simp [go_sem, hsz.len]
    exact h
  · have hb : (decide (1 ≤ n) && decide (n ≤ 6)) = false := by
      rw [← Bool.not_eq_true, Bool.and_eq_true, decide_eq_true_eq, decide_eq_true_eq]; exact hn
    refine ⟨0, 1, fun Q h => ?_, fun Q h => ?_⟩
    · rw [call27o hn]
      simp [go_sem, frzWp, WpFun, c27]
      refine k79 ?_
      rw [hb]
      simp [go_sem]
      exact h
    · rw [call28]
      simp [go_sem, WpFun, c28]
      refine k84 ?_
      rw [hb]
      simp [go_sem]
      exact h
theorem law4 {n : Int} {v : AV} {l : List Int} (hv : isV v l) : WpCall E false 0 0 4 [.int .i64 n, v] [] (fun v _ => v = .bool true) := by
  rw [call4]
  by_cases hl : 30 < l.length
  · have hl' : (30 : Int) < (l.length : Int) := by omega
    simp [go_sem, WpFun, c4, hv.frz, hv.len, hl', call15]
  · have hl' : ¬ (30 : Int) < (l.length : Int) := by omega
    obtain ⟨a, b, e, p1, p2, p3⟩ := free_both (n := n) hv (by omega)
    obtain ⟨c, d, f, q1, q2, q3⟩ := chain_both (n := n) hv (by omega)
    obtain ⟨a2, b2, e2, r1, r2, r3⟩ := chains_both (n := n)
    obtain ⟨a3, e3, s1, s2⟩ := most_both (n := n)
    simp [go_sem, WpFun, c4, hv.frz, hv.len, hl']
    refine p1 _ ?_
    simp [go_sem]
    refine p2 _ ?_
    simp [go_sem]
    refine q1 _ ?_
    simp [go_sem]
    refine q2 _ ?_
    simp [go_sem]
    refine r1 _ ?_
    simp [go_sem]
    refine r2 _ ?_
    simp [go_sem]
    refine s1 _ ?_
    simp [go_sem]
    refine s2 _ ?_
    simp [go_sem]
    refine p3 _ ?_
    simp [go_sem]
    refine q3 _ ?_
    simp [go_sem]
    refine r3 _ ?_
    simp [go_sem, call15]
theorem chains_true {a0 : Int} {v : AV} {l : List Int} (hv : isV v l) : ∃ f H', acall E f 4 [.int .i64 a0, v] [] = some (.bool true, H') := by
  obtain ⟨f, v, H', h, rfl⟩ := law4 hv (n := a0)
  exact ⟨f, H', h⟩
end Go.Proofs.YtbkhffakhggdaaaDoor.Code
end

