/-
  Parts of the proofs about this chapter, joined: contracts of functions and plain laws.
-/
import Derived.Test.YtnlebofipoepfaaK9
set_option linter.all false
section
namespace Go.Proofs.Ytnlebofipoepfaa.Code
open Go Go.Ab

set_option maxRecDepth 4000 in
theorem law5 {n : Int} {q : AV} {l : List ZZ} (hq : isP q l) : WpCall E false 0 0 5 [.agg [.int .i64 n, q]] [] (fun v _ => v = .bool true) := by
  rw [call5]
  have e0 : aload [Blk.row 0 [AV.int .i64 n, q] 0 true] ⟨true, 2⟩ (.ptr 0 0 0) = some (.agg [.int .i64 n, q]) := rfl
  simp [go_sem, WpFun, c5, hq.frz, e0, k15 hq]
  by_cases hl : 60 < l.length
  · simp [go_sem, hl, call16]
  · simp [go_sem, hl, e0]
    have hl2 : l.length < 1000 := by omega
    refine k17 hq hl2 (Nat.zero_le _) fun q' hq' => ?_
    have e1 : aload [Blk.row 0 [AV.int .i64 n, q] 0 true, .row 0 [.int .i64 n, q'] 0 true] ⟨true, 2⟩ (.ptr 0 0 0) = some (.agg [.int .i64 n, q]) := rfl
    have e2 : aload [Blk.row 0 [AV.int .i64 n, q] 0 true, .row 0 [.int .i64 n, q'] 0 true] ⟨true, 2⟩ (.ptr 1 0 0) = some (.agg [.int .i64 n, q']) := rfl
    simp [go_sem, storeWp, astore, setCells, hq'.cells, hq'.top, hq'.isTup, e1, e2]
    by_cases hc : checkS n l = 0
    · obtain ⟨m, rfl, hok⟩ := OkC.of hc
      obtain ⟨hbd, hbit⟩ := hok.board
      obtain ⟨g, hg⟩ := reach_w hbd
      have hpa := parts_of hbd hg
      have hge := groups_eq hbd hbit hpa
      have hte := threes_eq hbd hbit hok.pos
      have hle := hok.le
      refine k33g hq hl2 hok hg (Nat.zero_le _) fun v1 hv1 => ?_
      simp [go_sem, e1, e2]
      refine k34 hq' hl2 (Nat.zero_le _) (fun h => absurd hc h) fun m' hm' _ v2 hv2 => ?_
      obtain rfl : m = m' := by omega
      simp [go_sem, e1, e2]
      refine k35 hq hl2 (Nat.zero_le _) (fun h => absurd hc h) fun m' hm' _ => ?_
      obtain rfl : m = m' := by omega
      simp [go_sem, e1, e2]
      refine k36 hq' hl2 (fun h => absurd hc h) fun m' hm' _ => ?_
      obtain rfl : m = m' := by omega
      rw [hge] at hv2
      have hGl := hpa.len
      generalize groupsT g 8 (pw m - 1) = G at *
      simp [go_sem, e1, e2]
      refine k37 hv1 hv2 (by omega) (by omega) (fun l hl => by have := (hpa.each l hl).2.2.2; omega) (fun l hl => by have := (hpa.each l hl).2.2.2; omega) ?_
      simp [go_sem, call16, hte]
    · refine k33e hq hl2 hc (Nat.zero_le _) ?_
      simp [go_sem, e1, e2]
      refine k34 hq' hl2 (Nat.zero_le _) (fun h => ?_) fun m hm hok => absurd hok.check (by rw [← hm]; exact hc)
      simp [go_sem, e1, e2]
      refine k35 hq hl2 (Nat.zero_le _) (fun h => ?_) fun m hm hok => absurd hok.check (by rw [← hm]; exact hc)
      simp [go_sem, e1, e2]
      refine k36 hq' hl2 (fun h => ?_) fun m hm hok => absurd hok.check (by rw [← hm]; exact hc)
      simp [go_sem, e1, e2]
      refine k37 (A := []) (B := []) (.inl ⟨rfl, rfl⟩) (.inl ⟨rfl, rfl⟩) (by simp) (by simp) (by simp) (by simp) ?_
      simp [go_sem, call16]
theorem groups_true {n : Int} {q : AV} {l : List ZZ} (hq : isP q l) : ∃ f H', acall E f 5 [.agg [.int .i64 n, q]] [] = some (.bool true, H') := by
  obtain ⟨f, v, H', h, rfl⟩ := law5 (n := n) hq
  exact ⟨f, H', h⟩
end Go.Proofs.Ytnlebofipoepfaa.Code
end
