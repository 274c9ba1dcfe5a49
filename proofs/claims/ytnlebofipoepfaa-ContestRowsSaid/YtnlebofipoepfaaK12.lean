/-
  Parts of the proofs about this chapter, joined: contracts of functions and plain laws.
-/
import Derived.Test.YtnlebofipoepfaaK11
set_option linter.all false
section
namespace Go.Proofs.Ytnlebofipoepfaa.Code
open Go Go.Ab

section
variable {f : Nat → Nat → Bool} {n : Nat} {w : Nat → Nat}
theorem reach_all1b {x : Nat} (hx : x < n) (hbd : BoardW n w) (hw : ∀ x y, (w x).testBit y = f x y) {j : Nat} : reachR f n x (n - 1) j = true ↔ Rch w x j := by
  have hd : ∀ a b, f a b = true → a < n ∧ b < n := fun a b hab => hbd.dom a b (by rw [hw]; exact hab)
  have hc : closedR f n x (n - 1) := by
    rcases closed_or (f := f) hx (n - 1) with h | h
    · exact h
    · intro a b ha hb hr hf
      cases hrb : reachR f n x (n - 1) b
      · exfalso
        have := sub_len (l := b :: (List.range n).filter (reachR f n x (n - 1))) (m := List.range n) (by
          rw [List.nodup_cons]
          exact ⟨fun hm => (by rw [(List.mem_filter.1 hm).2] at hrb; cases hrb), List.nodup_range.filter _⟩) fun y hy => by
            rcases List.mem_cons.1 hy with rfl | hy
            · exact List.mem_range.2 hb
            · exact (List.mem_filter.1 hy).1
        rw [List.length_cons, List.length_range] at this
        omega
      · rfl
  refine ⟨reachR_sound hw, fun h => ?_⟩
  induction h with
  | refl => exact reach_start
  | step h1 h2 ih =>
    rw [hw] at h2
    exact hc _ _ (hd _ _ h2).1 (hd _ _ h2).2 ih h2
theorem row_eq (hn : n ≤ 7) : rowS f (fun _ => true) n [] (pw n - 1) = (rowsR f n n []).head? := by
  rw [rowS_find hn n [] (pw n - 1) (fun x => by rw [testBit_all, decide_eq_true_eq]; simp) (by
    have : ∀ n, n ≤ 7 → pw n - 1 < 128 := by decide
    exact this n hn)]
  cases rowsR f n n [] <;> rfl
theorem lastN_append {A B : List Nat} (h : B ≠ []) : lastN (A ++ B) = lastN B := by
  have := List.length_pos_iff.2 h
  unfold lastN
  rw [List.getD_eq_getElem?_getD, List.getD_eq_getElem?_getD, List.length_append, List.getElem?_append_right (by omega)]
  congr 2
  omega
/-- a ring may begin with anyone -/
theorem ring_turn {L : List Nat} (hv : Valid f n L) (hl : L.length = n) (hring : f (lastN L) (L.getD 0 0) = true) (h0 : 0 < n) : ∃ M, Valid f n M ∧ M.length = n ∧ M.getD 0 0 = 0 ∧ f (lastN M) 0 = true := by
  have hmem : 0 ∈ L := by
    apply Decidable.byContradiction
    intro hc
    have := sub_len (l := 0 :: L) (m := List.range n) (List.nodup_cons.2 ⟨hc, hv.nodup⟩) fun x hx => by
      rcases List.mem_cons.1 hx with rfl | hx
      · exact List.mem_range.2 h0
      · exact List.mem_range.2 (hv.lt x hx)
    rw [List.length_cons, List.length_range] at this
    omega
  obtain ⟨A, B, rfl⟩ := List.append_of_mem hmem
  by_cases hA : A = []
  · subst hA
    exact ⟨_, hv, hl, rfl, hring⟩
  · have hch := (chainL_append hA (by simp)).1 hv.chain
    have hg : (A ++ 0 :: B).getD 0 0 = A.getD 0 0 := by
      have := List.length_pos_iff.2 hA
      rw [List.getD_eq_getElem?_getD, List.getD_eq_getElem?_getD, List.getElem?_append_left this]
    rw [hg, lastN_append (by simp)] at hring
    have hp : (A ++ 0 :: B).Perm ((0 :: B) ++ A) := List.perm_append_comm
    refine ⟨(0 :: B) ++ A, ⟨hp.nodup hv.nodup, fun x hx => hv.lt x (hp.mem_iff.2 hx), (chainL_append (by simp) hA).2 ⟨hch.2.1, hch.1, hring⟩⟩, by rw [← hp.length_eq]; exact hl, rfl, ?_⟩
    rw [lastN_append hA]
    exact hch.2.2
theorem valid_one {x : Nat} (hx : x < n) : Valid f n [x] := ⟨by simp, fun y hy => by rw [List.mem_singleton] at hy; omega, trivial⟩
theorem rows_flat (h0 : 0 < n) : rowsR f n n [] = (List.range' 0 n).flatMap fun x => rowsR f n (n - 1) [x] := by
  obtain ⟨m, rfl⟩ : ∃ m, n = m + 1 := ⟨n - 1, by omega⟩
  rw [rowsR.eq_2]
  rfl
theorem find_congrL {p q : List Nat → Bool} : ∀ {l : List (List Nat)}, (∀ x ∈ l, p x = q x) → l.find? p = l.find? q
  | [], _ => rfl
  | x :: r, h => by
    rw [List.find?_cons, List.find?_cons, h x (List.mem_cons_self ..), find_congrL fun y hy => h y (List.mem_cons_of_mem _ hy)]
theorem ring_eq (hn : n ≤ 7) (h0 : 0 < n) : (rowsR f n n []).find? (ringP f) = if 2 < n then rowS f (fun x => f x 0) (n - 1) [0] (clr (pw n - 1) 1) else none := by
  have hel : ∀ {x L}, x < n → L ∈ rowsR f n (n - 1) [x] → Valid f n L ∧ L.getD 0 0 = x ∧ L.length = n := fun {x L} hx hL => by
    obtain ⟨h1, h2, h3⟩ := rows_valid (valid_one hx) hL
    refine ⟨h1, ?_, by rw [h3]; simp; omega⟩
    have := congrArg (fun M : List Nat => M.getD 0 0) h2
    simpa [List.getD_eq_getElem?_getD, List.getElem?_take] using this
  by_cases h2 : 2 < n
  · rw [if_pos h2]
    have hlt : clr (pw n - 1) 1 < 128 := by
      have : ∀ n, n ≤ 7 → clr (pw n - 1) 1 < 128 := by decide
      exact this n hn
    have hpl : pw n - 1 < 256 := by
      have : ∀ n, n ≤ 7 → pw n - 1 < 256 := by decide
      exact this n hn
    rw [rowS_find hn (n - 1) [0] (clr (pw n - 1) 1) (fun x => by
      have h1 : clr (pw n - 1) 1 = clr (pw n - 1) (pw 0) := rfl
      rw [h1, testBit_clr hpl, testBit_all, testBit_pw, Bool.and_eq_true, decide_eq_true_eq, Bool.not_eq_true', decide_eq_false_iff_not, List.mem_singleton]
      exact ⟨fun h => ⟨h.1, fun hc => h.2 hc.symm⟩, fun h => ⟨h.1, fun hc => h.2 hc.symm⟩⟩) hlt]
    have hA : (rowsR f n (n - 1) [0]).find? (ringP f) = (rowsR f n (n - 1) [0]).find? fun L => f (lastN L) 0 := find_congrL fun L hL => by
      obtain ⟨_, g1, g2⟩ := hel h0 hL
      unfold ringP
      rw [g1, g2, decide_eq_true h2, Bool.true_and]
    rw [rows_flat h0, List.find?_flatMap]
    obtain ⟨m, hm⟩ : ∃ m, n = m + 1 := ⟨n - 1, by omega⟩
    have hr : List.range' 0 n = 0 :: List.range' 1 (n - 1) := by rw [hm, List.range'_succ]; rfl
    rw [hr, List.findSome?_cons, hA]
    cases hf : (rowsR f n (n - 1) [0]).find? fun L => f (lastN L) 0 with
    | some L => rfl
    | none =>
      simp only
      rw [List.findSome?_eq_none_iff]
      intro x hx
      have hx := List.mem_range'_1.1 hx
      rw [List.find?_eq_none]
      intro L hL hring
      obtain ⟨g0, g1, g2⟩ := hel (show x < n by omega) hL
      unfold ringP at hring
      rw [Bool.and_eq_true] at hring
      obtain ⟨M, m1, m2, m3, m4⟩ := ring_turn g0 g2 hring.2 h0
      have hMr : M ∈ rowsR f n (n - 1) [0] := rows_has m1 (by rw [m2]; simp; omega) (by
        cases M with
        | nil => simp at m2; omega
        | cons a r => simp at m3; subst m3; rfl)
      exact List.find?_eq_none.1 hf M hMr m4
  · rw [if_neg h2, List.find?_eq_none]
    intro L hL hring
    have := rowsR_mem hL
    unfold ringP at hring
    rw [Bool.and_eq_true, decide_eq_true_eq] at hring
    simp at this
    omega
end
set_option maxRecDepth 8000 in
set_option maxHeartbeats 1000000 in
theorem law4 {n x y : Int} {q : AV} {l : List ZZ} (hq : isP q l) : WpCall E false 0 0 4 [.agg [.int .i64 n, q], .int .i64 x, .int .i64 y] [] (fun v _ => v = .bool true) := by
  rw [call4]
  have e0 : aload [Blk.row 0 [AV.int .i64 n, q] 0 true] ⟨true, 2⟩ (.ptr 0 0 0) = some (.agg [.int .i64 n, q]) := rfl
  simp [go_sem, WpFun, c4, hq.frz, e0, k15 hq]
  by_cases hl : 60 < l.length
  · simp [go_sem, hl, call16]
  · simp [go_sem, hl, e0]
    have hl2 : l.length < 1000 := by omega
    refine k17 hq hl2 (Nat.zero_le _) fun q' hq' => ?_
    have e1 : aload [Blk.row 0 [AV.int .i64 n, q] 0 true, .row 0 [.int .i64 n, q'] 0 true] ⟨true, 2⟩ (.ptr 0 0 0) = some (.agg [.int .i64 n, q]) := rfl
    have e2 : aload [Blk.row 0 [AV.int .i64 n, q] 0 true, .row 0 [.int .i64 n, q'] 0 true] ⟨true, 2⟩ (.ptr 1 0 0) = some (.agg [.int .i64 n, q']) := rfl
    simp [go_sem, storeWp, astore, setCells, hq'.cells, hq'.top, hq'.isTup, e1, e2]
    generalize [Blk.row 0 [AV.int .i64 n, q] 0 true, .row 0 [.int .i64 n, q'] 0 true] = HX at *
    by_cases hc : checkS n l = 0
    · obtain ⟨m, rfl, hok⟩ := OkC.of hc
      obtain ⟨hbd, hbit⟩ := hok.board
      have hle := hok.le
      have hpos := hok.pos
      have hone : ∀ x y, x < m → y < m → x ≠ y → bitL l x y = !bitL l y x := fun x y hx hy hne => by rw [← hbit, ← hbit]; exact hbd.one x y hx hy hne
      have hne := rows_ne hone
      have hrow := row_eq (f := bitL l) hle
      have hring := ring_eq (f := bitL l) hle hpos
      have hrows := rows_eq (w := boardF l fun _ => 0) (f := bitL l) hbit hle hpos hok.dom
      have hiff := fun a b (ha : a < m) => chainF_iff hok.dom ha (most := m - 1) (b := b)
      rw [show m - 1 + 1 = m by omega] at hiff
      have hreq := fun a b (ha : a < m) => (reach_all1b (j := b) ha hbd hbit).trans (reach_all (j := b) ha hbd hbit).symm
      by_cases hxy : x < 0 ∨ y < 0 ∨ (m : Int) ≤ x ∨ (m : Int) ≤ y
      case' pos =>
        refine k25n hq hl2 hok hxy (Nat.zero_le _) ?_
        simp [go_sem, e1, e2]
        refine k26 hq' hl2 (Nat.zero_le _) (fun h => absurd hc h) (fun _ _ => ?_) (fun m' a b hm hx hy ha hb => by omega) (fun m' a b hm hx hy ha hb => by omega)
        have hv1 : isL .nils [] := isL.nil
        have hv2 : isL .nils [] := isL.nil
        have hvl : ([] : List Nat).length < 1000 := by simp
      case' neg =>
        obtain ⟨a, rfl⟩ := Int.eq_ofNat_of_zero_le (show 0 ≤ x by omega)
        obtain ⟨b, rfl⟩ := Int.eq_ofNat_of_zero_le (show 0 ≤ y by omega)
        refine k25g hq hl2 hok (show a < m by omega) (show b < m by omega) (Nat.zero_le _) (fun hr => ?unreached) (fun L v1 d hv1 hch hlen hlv => ?reached)
        case' unreached =>
          simp [go_sem, e1, e2]
          refine k26 hq' hl2 (Nat.zero_le _) (fun h => absurd hc h) (fun _ h => absurd h hxy) (fun m' a' b' hm hx hy ha hb _ hno => ?_) (fun m' a' b' hm hx hy ha hb _ hno => by
            obtain rfl : m = m' := by omega
            obtain rfl : a = a' := by omega
            obtain rfl : b = b' := by omega
            have := (hreq a b ha).1 ((hiff a b ha).1 hno)
            rw [hr] at this; cases this)
          have hv1 : isL .nils [] := isL.nil
          have hv2 : isL .nils [] := isL.nil
          have hvl : ([] : List Nat).length < 1000 := by simp
        case' reached =>
          have hvl : L.length < 1000 := by
            have := (hiff a b (by omega)).2 ((hreq a b (by omega)).2 ((reach_all (by omega) hbd hbit).2 (reachR_sound hbit hlv.1)))
            have hdm : d ≤ m := hlv.le ((reach_all (by omega) hbd hbit).2 (reachR_sound hbit hlv.1))
            omega
          have hgr := chain_greedy hok.dom d hch hlen
          have hsome := chainF_some hok.dom (show a < m by omega) hlv (c := m) (Nat.zero_le _) (by
            have := hlv.le ((hreq a b (by omega)).2 ((reach_all (by omega) hbd hbit).2 (reachR_sound hbit hlv.1)))
            omega)
          simp [go_sem, e1, e2]
          refine k26 hq' hl2 (Nat.zero_le _) (fun h => absurd hc h) (fun _ h => absurd h hxy) (fun m' a' b' hm hx hy ha hb _ hno => by
            obtain rfl : m = m' := by omega
            obtain rfl : a = a' := by omega
            obtain rfl : b = b' := by omega
            rw [hsome] at hno; cases hno) (fun m' a' b' hm hx hy ha hb _ hno v2 hv2 => ?_)
          obtain rfl : m = m' := by omega
          obtain rfl : a = a' := by omega
          obtain rfl : b = b' := by omega
          rw [hsome, ← hgr] at hv2
      all_goals
        simp [go_sem, e1, e2]
        refine k27 hq hl2 hok (Nat.zero_le _) (fun R1 u1 hR1 hu1 => ?_) (fun hno => by
          rw [hrow] at hno
          exact hne (List.head?_eq_none_iff.1 hno))
        simp [go_sem, e1, e2]
        refine k28 hq' hl2 (Nat.zero_le _) (fun h => absurd hc h) (fun m' hm _ => by
          obtain rfl : m = m' := by omega
          exact hne) (fun m' R2 rest hm _ hR2 u2 hu2 => ?_)
        obtain rfl : m = m' := by omega
        obtain rfl : R1 = R2 := by
          rw [hrow, hR2] at hR1
          exact (Option.some.inj hR1).symm
        have hRl : R1.length < 1000 := by
          have := rowsR_mem (f := bitL l) (n := m) (k := m) (s := []) (x := R1) (by rw [hR2]; exact List.mem_cons_self ..)
          simp at this; omega
        simp [go_sem, e1, e2]
        have hdis : (∃ Lr, 2 < m ∧ rowS (bitL l) (fun x => bitL l x 0) (m - 1) [0] (clr (pw m - 1) 1) = some Lr) ∨ (2 < m → rowS (bitL l) (fun x => bitL l x 0) (m - 1) [0] (clr (pw m - 1) 1) = none) := by
          cases hS : rowS (bitL l) (fun x => bitL l x 0) (m - 1) [0] (clr (pw m - 1) 1) with
          | none => exact .inr fun _ => rfl
          | some Lr =>
            by_cases h2m : 2 < m
            · exact .inl ⟨Lr, h2m, rfl⟩
            · exact .inr fun h => absurd h h2m
        rcases hdis with ⟨Lr, h2m, hS⟩ | hno
        case' inl =>
          refine k29 hq hl2 hok (Nat.zero_le _) (fun Lr' u3 _ hS' hu3 => ?_) (fun hno => by rw [hno h2m] at hS; cases hS)
          obtain rfl : Lr = Lr' := by
            rw [hS] at hS'
            exact Option.some.inj hS'
          have hfd : (rowsR (bitL l) m m []).find? (ringP (bitL l)) = some Lr := by rw [hring, if_pos h2m]; exact hS
          have hLr : Lr.length < 1000 := by
            have := rowsR_mem (List.mem_of_find?_eq_some hfd)
            simp at this; omega
          simp [go_sem, e1, e2]
          refine k30 hq' hl2 (Nat.zero_le _) (fun h => absurd hc h) (fun m' L' hm _ hf u4 hu4 => ?_) (fun m' hm _ hf => by
            obtain rfl : m = m' := by omega
            rw [hfd] at hf; cases hf)
          obtain rfl : m = m' := by omega
          obtain rfl : Lr = L' := by
            rw [hfd] at hf
            exact Option.some.inj hf
        case' inr =>
          refine k29 hq hl2 hok (Nat.zero_le _) (fun Lr' u3 h2m hS' hu3 => by rw [hno h2m] at hS'; cases hS') (fun _ => ?_)
          have hfd : (rowsR (bitL l) m m []).find? (ringP (bitL l)) = none := by
            rw [hring]
            split
            · rename_i h; exact hno h
            · rfl
          have hu3 : isL .nils [] := isL.nil
          have hLr : ([] : List Nat).length < 1000 := by simp
          simp [go_sem, e1, e2]
          refine k30 hq' hl2 (Nat.zero_le _) (fun h => absurd hc h) (fun m' L' hm _ hf u4 hu4 => by
            obtain rfl : m = m' := by omega
            rw [hfd] at hf; cases hf) (fun m' hm _ hf => ?_)
          obtain rfl : m = m' := by omega
          have hu4 : isL .nils [] := isL.nil
        all_goals
          simp [go_sem, e1, e2]
          refine k31 hq hl2 hok (Nat.zero_le _) ?_
          simp [go_sem, e1, e2]
          refine k32 hq' hl2 (Nat.zero_le _) (fun h => absurd hc h) (fun m' hm _ => ?_)
          obtain rfl : m = m' := by omega
          rw [hrows]
          simp [go_sem, e1, e2]
          refine k22 hv1 hv2 (by omega) (by omega) ?_
          simp [go_sem, e1, e2]
          refine k22 hu1 hu2 (by omega) (by omega) ?_
          simp [go_sem, e1, e2]
          refine k22 hu3 hu4 (by omega) (by omega) ?_
          simp [go_sem, call16]
    · refine k25e hq hl2 hc (Nat.zero_le _) ?_
      simp [go_sem, e1, e2]
      refine k26 hq' hl2 (Nat.zero_le _) (fun h => ?_) (fun h => absurd h hc) (fun m a b hm _ _ _ _ hok => absurd hok.check (by rw [← hm]; exact hc)) (fun m a b hm _ _ _ _ hok => absurd hok.check (by rw [← hm]; exact hc))
      simp [go_sem, e1, e2]
      refine k27e hq hl2 hc (Nat.zero_le _) ?_
      simp [go_sem, e1, e2]
      refine k28 hq' hl2 (Nat.zero_le _) (fun h => ?_) (fun m hm hok => absurd hok.check (by rw [← hm]; exact hc)) (fun m L r hm hok => absurd hok.check (by rw [← hm]; exact hc))
      simp [go_sem, e1, e2]
      refine k29e hq hl2 hc (Nat.zero_le _) ?_
      simp [go_sem, e1, e2]
      refine k30 hq' hl2 (Nat.zero_le _) (fun h => ?_) (fun m L hm hok => absurd hok.check (by rw [← hm]; exact hc)) (fun m hm hok => absurd hok.check (by rw [← hm]; exact hc))
      simp [go_sem, e1, e2]
      refine k31e hq hl2 hc (Nat.zero_le _) ?_
      simp [go_sem, e1, e2]
      refine k32 hq' hl2 (Nat.zero_le _) (fun h => ?_) (fun m hm hok => absurd hok.check (by rw [← hm]; exact hc))
      simp [go_sem, e1, e2]
      refine k22 isL.nil isL.nil (by simp) (by simp) ?_
      simp [go_sem, e1, e2]
      refine k22 isL.nil isL.nil (by simp) (by simp) ?_
      simp [go_sem, e1, e2]
      refine k22 isL.nil isL.nil (by simp) (by simp) ?_
      simp [go_sem, call16]
theorem rows_true {n x y : Int} {q : AV} {l : List ZZ} (hq : isP q l) : ∃ f H', acall E f 4 [.agg [.int .i64 n, q], .int .i64 x, .int .i64 y] [] = some (.bool true, H') := by
  obtain ⟨f, v, H', h, rfl⟩ := law4 (n := n) (x := x) (y := y) hq
  exact ⟨f, H', h⟩
end Go.Proofs.Ytnlebofipoepfaa.Code
end
