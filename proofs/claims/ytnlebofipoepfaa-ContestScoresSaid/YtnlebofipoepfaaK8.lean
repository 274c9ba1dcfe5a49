/-
  Parts of the proofs about this chapter, joined: contracts of functions and plain laws.
-/
import Derived.Test.YtnlebofipoepfaaK7
set_option linter.all false
section
namespace Go.Proofs.Ytnlebofipoepfaa.Code
open Go Go.Ab

set_option maxRecDepth 4000 in
theorem law3 {n : Int} {q : AV} {l : List ZZ} (hq : isP q l) : WpCall E false 0 0 3 [.agg [.int .i64 n, q]] [] (fun v _ => v = .bool true) := by
  rw [call3]
  have e0 : aload [Blk.row 0 [AV.int .i64 n, q] 0 true] ⟨true, 2⟩ (.ptr 0 0 0) = some (.agg [.int .i64 n, q]) := rfl
  simp [go_sem, WpFun, c3, hq.frz, e0, k15 hq]
  by_cases hl : 60 < l.length
  · simp [go_sem, hl, call16]
  · simp [go_sem, hl, e0]
    have hl2 : l.length < 1000 := by omega
    refine k17 hq hl2 (Nat.zero_le _) fun q' hq' => ?_
    have e1 : aload [Blk.row 0 [AV.int .i64 n, q] 0 true, .row 0 [.int .i64 n, q'] 0 true] ⟨true, 2⟩ (.ptr 0 0 0) = some (.agg [.int .i64 n, q]) := rfl
    have e2 : aload [Blk.row 0 [AV.int .i64 n, q] 0 true, .row 0 [.int .i64 n, q'] 0 true] ⟨true, 2⟩ (.ptr 1 0 0) = some (.agg [.int .i64 n, q']) := rfl
    simp [go_sem, storeWp, astore, setCells, hq'.cells, hq'.top, hq'.isTup, e1, e2]
    by_cases hc : checkS n l = 0
    · obtain ⟨m, rfl, hok⟩ := OkC.of hc
      refine k18g hq hl2 hok (Nat.zero_le _) fun v1 hv1 => ?_
      simp [go_sem, e1, e2]
      refine k19 hq' hl2 (Nat.zero_le _) (fun h => absurd hc h) fun m' hm' _ v2 hv2 => ?_
      obtain rfl : m = m' := by omega
      simp [go_sem, e1, e2]
      refine k20g hq hl2 hok (Nat.zero_le _) fun v3 hv3 => ?_
      simp [go_sem, e1, e2]
      refine k21 hq' hl2 (Nat.zero_le _) (fun h => absurd hc h) fun m' hm' _ v4 hv4 => ?_
      obtain rfl : m = m' := by omega
      have hle := hok.le
      have hb : (bestS m (boardF l fun _ => 0)).length ≤ 7 := Nat.le_trans (List.length_filter_le _ _) (by simp; omega)
      simp [go_sem, e1, e2]
      refine k22 hv1 hv2 (by rw [oftenS_len]; omega) (by rw [oftenS_len]; omega) ?_
      simp [go_sem, e1, e2]
      refine k22 hv3 hv4 (by omega) (by omega) ?_
      simp [go_sem, e1, e2]
      refine k23 hq hl2 (Nat.zero_le _) ?_
      simp [go_sem, e1, e2, k24 hq' hl2, hc, call16, hq.noVec, hq'.noVec]
    · refine k18e hq hl2 hc (Nat.zero_le _) ?_
      simp [go_sem, e1, e2]
      refine k19 hq' hl2 (Nat.zero_le _) (fun h => ?_) fun m hm hok => absurd hok.check (by rw [← hm]; exact hc)
      simp [go_sem, e1, e2]
      refine k20e hq hl2 hc (Nat.zero_le _) ?_
      simp [go_sem, e1, e2]
      refine k21 hq' hl2 (Nat.zero_le _) (fun h => ?_) fun m hm hok => absurd hok.check (by rw [← hm]; exact hc)
      simp [go_sem, e1, e2]
      refine k22 isL.nil isL.nil (by simp) (by simp) ?_
      simp [go_sem, e1, e2]
      refine k22 isL.nil isL.nil (by simp) (by simp) ?_
      simp [go_sem, e1, e2]
      refine k23 hq hl2 (Nat.zero_le _) ?_
      simp [go_sem, e1, e2, k24 hq' hl2, call16, hq.noVec, hq'.noVec]
theorem scores_true {n : Int} {q : AV} {l : List ZZ} (hq : isP q l) : ∃ f H', acall E f 3 [.agg [.int .i64 n, q]] [] = some (.bool true, H') := by
  obtain ⟨f, v, H', h, rfl⟩ := law3 (n := n) hq
  exact ⟨f, H', h⟩
end Go.Proofs.Ytnlebofipoepfaa.Code
end
