/-
  Part of the proofs about this chapter: contracts of functions, answers of calls, and plain laws.
-/
import Derived.Test.YtbkhffakhggdaaaDoorTCb
import Derived.Test.YtbkhffakhggdaaaDoorSp
import Derived.Test.YtbkhffakhggdaaaDoorKit
set_option linter.all false
section
namespace Go.Proofs.YtbkhffakhggdaaaDoor.Code
open Go Go.Ab
variable {pure : Bool} {base bar : Nat} {H : Heap} {Q : AV → Heap → Prop} {K : AV → Heap → List Nat → Prop}

/-! a shelf of sets is valid; containing, by numbers and by sets -/
theorem dyL_ok {n x : Nat} (h1 : 1 ≤ n) (h6 : n ≤ 6) (hx : x < pw n) : errT n (-1) (dyL x) = 0 ∧ orT 0 (dyL x) = x := by
  have : ∀ n : Nat, n ≤ 6 → ∀ x, x < 2 ^ n → errT (n : Int) (-1) (dyL x) = 0 ∧ orT 0 (dyL x) = x := by decide +kernel
  exact this n h6 x hx
theorem opS_valid {n : Nat} (h1 : 1 ≤ n) (h6 : n ≤ 6) : ∀ {D done : List Nat}, (∀ x ∈ D, x < pw n) → (done ++ D).Nodup → opS n done (D.map dyL) = (0, done ++ D)
  | [], done, _, _ => by simp [opS]
  | x :: r, done, hD, hnd => by
    obtain ⟨e1, e2⟩ := dyL_ok h1 h6 (hD x (List.mem_cons_self ..))
    simp only [List.map_cons, opS, e1, e2]
    have hc : done.contains x = false := by
      rw [List.nodup_append] at hnd
      have : x ∉ done := fun hx => hnd.2.2 x hx x (List.mem_cons_self ..) rfl
      simpa using this
    rw [if_neg (by simp), hc]
    simp only [Bool.false_eq_true, if_false]
    rw [opS_valid h1 h6 (fun y hy => hD y (List.mem_cons_of_mem _ hy)) (by rw [List.append_assoc]; exact hnd), List.append_assoc]
    rfl
theorem ixP_none {a : Nat} : ∀ {S : List Nat} {k : Nat}, ixP a S k = none ↔ ∀ b ∈ S, ¬ (a ≠ b ∧ subB a b = true)
  | [], k => by simp [ixP]
  | b :: r, k => by
    simp only [ixP, List.forall_mem_cons]
    by_cases h : a ≠ b ∧ subB a b = true
    · simp [h]
    · rw [if_neg h, ixP_none (S := r)]
      simp [h]
theorem conS_none {S : List Nat} : ∀ {T : List Nat} {i : Nat}, conS S T i = none ↔ ∀ a ∈ T, ∀ b ∈ S, ¬ (a ≠ b ∧ subB a b = true)
  | [], i => by simp [conS]
  | a :: r, i => by
    simp only [conS, List.forall_mem_cons]
    cases h : ixP a S 0 with
    | none =>
      simp only
      rw [conS_none (T := r)]
      have := ixP_none.1 h
      exact ⟨fun hr => ⟨this, hr⟩, fun hr => hr.2⟩
    | some k =>
      simp only [reduceCtorEq, false_iff]
      intro hc
      rw [ixP_none.2 hc.1] at h
      cases h
theorem apR_iff {a i : Nat} : ∀ {S : List Nat} {k : Nat}, apR a i S k = true ↔ ∀ (j : Nat) (hj : j < S.length), i ≠ k + j → subB a S[j] = false
  | [], k => by simp [apR]
  | b :: r, k => by
    simp only [apR, Bool.and_eq_true, apR_iff (S := r)]
    constructor
    · rintro ⟨h1, h2⟩ j hj hne
      cases j with
      | zero =>
        simp only [Bool.or_eq_true, beq_iff_eq, Bool.not_eq_true'] at h1
        rcases h1 with h1 | h1
        · exact (hne (by omega)).elim
        · exact h1
      | succ j => exact h2 j (by simpa using hj) (by omega)
    · intro h
      refine ⟨?_, fun j hj hne => by have := h (j + 1) (by simpa using hj) (by omega); simpa only [List.getElem_cons_succ] using this⟩
      by_cases hk : i = k
      · simp [hk]
      · have := h 0 (by simp) (by omega)
        simp at this
        simp [this]
theorem apQ_iff {S : List Nat} : ∀ {T : List Nat} {i : Nat}, apQ S T i = true ↔ ∀ (k : Nat) (hk : k < T.length), apR T[k] (i + k) S 0 = true
  | [], i => by simp [apQ]
  | a :: r, i => by
    simp only [apQ, Bool.and_eq_true, apQ_iff (T := r)]
    constructor
    · rintro ⟨h1, h2⟩ k hk
      cases k with
      | zero => exact h1
      | succ k => have := h2 k (by simpa using hk); simpa only [List.getElem_cons_succ, Nat.add_assoc, Nat.add_comm 1 k] using this
    · intro h
      refine ⟨by have := h 0 (by simp); simpa only [List.getElem_cons_zero, Nat.add_zero] using this, fun k hk => ?_⟩
      have := h (k + 1) (by simpa using hk)
      simpa only [List.getElem_cons_succ, Nat.add_assoc, Nat.add_comm 1 k] using this
theorem apS_con {S : List Nat} (hnd : S.Nodup) : apS S = true ↔ conS S S 0 = none := by
  unfold apS
  rw [apQ_iff, conS_none]
  constructor
  · intro h a ha b hb ⟨hne, hs⟩
    obtain ⟨i, hi, rfl⟩ := List.getElem_of_mem ha
    obtain ⟨j, hj, rfl⟩ := List.getElem_of_mem hb
    have hij : i ≠ j := fun e => by subst e; exact hne rfl
    have := apR_iff.1 (h i hi) j hj (by omega)
    rw [this] at hs; cases hs
  · intro h k hk
    rw [apR_iff]
    intro j hj hne
    have hkj : S[k] ≠ S[j] := fun e => by
      have := (List.getElem_inj hnd).1 e
      omega
    have := h S[k] (List.getElem_mem hk) S[j] (List.getElem_mem hj)
    cases hc : subB S[k] S[j]
    · rfl
    · exact (this ⟨hkj, hc⟩).elim
/-- of each chain at most one -/
theorem chain_le {n : Nat} (h1 : 1 ≤ n) (h6 : n ≤ 6) {D : List Nat} (hD : ∀ x ∈ D, x < pw n) (hnd : D.Nodup) (hap : apS D = true) : D.length ≤ chS n (n / 2) := by
  have hn : n ∈ List.range' 1 6 := List.mem_range'_1.2 ⟨h1, by omega⟩
  have hix : ∀ x, x < pw n → chIx n x < chS n (n / 2) := fun x hx => by
    have := List.all_eq_true.1 (List.all_eq_true.1 okIx_all n hn) x (List.mem_range.2 hx)
    unfold okIx at this
    split at this
    · rw [Bool.and_eq_true, Nat.blt_eq] at this; exact this.2
    · cases this
  have hne : ∀ a ∈ D, ∀ b ∈ D, chIx n a = chIx n b → a = b := fun a ha b hb he => by
    have := List.all_eq_true.1 (List.all_eq_true.1 (List.all_eq_true.1 nest_all n hn) a (List.mem_range.2 (hD a ha))) b (List.mem_range.2 (hD b hb))
    have hbe : Nat.beq (chIx n a) (chIx n b) = true := by rw [he]; exact Nat.beq_refl _
    rw [hbe] at this
    have h2 := conS_none.1 ((apS_con hnd).1 hap)
    apply Decidable.byContradiction
    intro hab
    simp only [Bool.not_true, Bool.false_or, Bool.or_eq_true] at this
    rcases this with h | h
    · exact h2 a ha b hb ⟨hab, h⟩
    · exact h2 b hb a ha ⟨fun e => hab e.symm, h⟩
  have : (D.map (chIx n)).Nodup := by
    rw [List.Nodup, List.pairwise_map]
    exact hnd.imp_of_mem fun {a b} ha hb hab he => hab (hne a ha b hb he)
  have := nodup_len this (p := chS n (n / 2)) fun x hx => by
    obtain ⟨y, hy, rfl⟩ := List.mem_map.1 hx
    exact hix y (hD y hy)
  simpa using this
end Go.Proofs.YtbkhffakhggdaaaDoor.Code
end

section
namespace Go.Proofs.YtbkhffakhggdaaaDoor.Code
open Go Go.Ab
variable {pure : Bool} {base bar : Nat} {H : Heap} {Q : AV → Heap → Prop} {K : AV → Heap → List Nat → Prop}

theorem mlook_es {n a : Nat} (h1 : 1 ≤ n) (h6 : n ≤ 6) (ha : a < pw n) : ∃ i, mfind .i64 (a : Int) (esN n) 0 = some (some (i, .int .i64 (chIx n a : Nat))) := by
  have hn : n ∈ List.range' 1 6 := List.mem_range'_1.2 ⟨h1, by omega⟩
  have := List.all_eq_true.1 (List.all_eq_true.1 okIx_all n hn) a (List.mem_range.2 ha)
  unfold okIx at this
  split at this
  · rename_i i v hm
    rw [Bool.and_eq_true] at this
    have e := of_decide_eq_true this.1
    subst e
    exact ⟨i, hm⟩
  · cases this
theorem mlook_wp {id i : Nat} {v z : AV} {a : Int} {es : List (AV × AV)} {fr : Ab.Frame} {m k : Opd} (hm : m.ev fr = some (.mp id)) (hk : k.ev fr = some (.int .i64 a)) (hH : H[id]? = some (.map es)) (hf : mfind .i64 a es 0 = some (some (i, v)))
    (h : K v H []) : opWp (aop base bar (.mlook z false m k) fr H) K := by
  simp only [aop, hm, hk, hH, hf]
  exact h
theorem l11_4 {n i a : Nat} {vD : AV} {D : List Nat} (h1 : 1 ≤ n) (h6 : n ≤ 6) (hv : isL vD D) (hD : ∀ x ∈ D, x < pw n) (hl : D.length ≤ 64) (ha : a < pw n) (hH : H[2]? = some (.map (esN n))) {m : Int} {R : PQ} : ∀ (c k : Nat), k + c = D.length →
    R (.exit 10) [(3, .ptr 1 0 0), (4, vD), (5, .int .i64 m), (9, .mp 2), (125, vD), (126, .int .i64 (D.length : Nat)), (127, .int .i64 (i : Nat)), (21, .int .i64 (i : Nat)), (22, .int .i64 (a : Nat)), (132, vD), (133, .int .i64 (D.length : Nat)), (134, .int .i64 (D.length : Nat)), (135, .bool false)] H →
    Wp E base bar (.loop c11_l4) [(3, .ptr 1 0 0), (4, vD), (5, .int .i64 m), (9, .mp 2), (125, vD), (126, .int .i64 (D.length : Nat)), (127, .int .i64 (i : Nat)), (21, .int .i64 (i : Nat)), (22, .int .i64 (a : Nat)), (132, vD), (133, .int .i64 (D.length : Nat)), (134, .int .i64 (k : Nat))] H R := by
  intro c
  induction c with
  | zero =>
    intro k hk h
    obtain rfl : k = D.length := by omega
    rw [wp_round c11_l4.eq_1]
    simp [go_sem]
    exact h
  | succ c ih =>
    intro k hk h
    have hlt : k < D.length := by omega
    have hb := hD _ (List.getElem_mem hlt)
    have hix := fun (K : AV → Heap → List Nat → Prop) (q : IntKind) => hv.ix (H := H) (K := K) (k := q) hlt
    generalize D[k] = b at *
    have next := ih (k + 1) (by omega) h
    have hs := i64_suc (show k < 1000000 by omega)
    rw [wp_round c11_l4.eq_1]
    by_cases hik : i = k
    · subst hik
      simp [go_sem, hlt, hix, hs]
      exact next
    · have hik' : ¬ ((i : Int) = (k : Int)) := by omega
      obtain ⟨ia, fa⟩ := mlook_es h1 h6 ha
      obtain ⟨ib, fb⟩ := mlook_es h1 h6 hb
      simp [go_sem, hlt, hix, hik']
      refine mlook_wp (id := 2) rfl rfl hH fa ?_
      simp [go_sem]
      refine mlook_wp (id := 2) rfl rfl hH fb ?_
      by_cases he : chIx n a = chIx n b
      · have := List.all_eq_true.1 (List.all_eq_true.1 (List.all_eq_true.1 nest_all n (List.mem_range'_1.2 ⟨h1, by omega⟩)) a (List.mem_range.2 ha)) b (List.mem_range.2 hb)
        have hbe : Nat.beq (chIx n a) (chIx n b) = true := by rw [he]; exact Nat.beq_refl _
        rw [hbe] at this
        simp only [Bool.not_true, Bool.false_or, Bool.or_eq_true] at this
        have ha6 := pw6 h6 ha
        have hb6 := pw6 h6 hb
        have z1 := cl6_zero ha6 hb6
        have z2 := cl6_zero hb6 ha6
        by_cases hab : cl6 a b = 0
        · simp [go_sem, he, cl6_i ha6 hb6, hab, hs]
          exact next
        · have hba : cl6 b a = 0 := by
            rcases this with h | h
            · exact (hab (z1.2 h)).elim
            · exact z2.2 h
          simp [go_sem, he, cl6_i ha6 hb6, cl6_i hb6 ha6, hab, hba, hs]
          exact next
      · have he' : ¬ ((chIx n a : Int) = (chIx n b : Int)) := by omega
        simp [go_sem, he', hs]
        exact next
theorem l11_5 {n : Nat} {vD : AV} {D : List Nat} (h1 : 1 ≤ n) (h6 : n ≤ 6) (hv : isL vD D) (hD : ∀ x ∈ D, x < pw n) (hl : D.length ≤ 64) (hH : H[2]? = some (.map (esN n))) {m : Int} {R : PQ} : ∀ (c i : Nat), i + c = D.length →
    R (.exit 8) [(3, .ptr 1 0 0), (4, vD), (5, .int .i64 m), (9, .mp 2), (125, vD), (126, .int .i64 (D.length : Nat)), (127, .int .i64 (D.length : Nat)), (128, .bool false)] H →
    Wp E base bar (.loop c11_l5) [(3, .ptr 1 0 0), (4, vD), (5, .int .i64 m), (9, .mp 2), (125, vD), (126, .int .i64 (D.length : Nat)), (127, .int .i64 (i : Nat))] H R := by
  intro c
  induction c with
  | zero =>
    intro i hi h
    obtain rfl : i = D.length := by omega
    rw [wp_round c11_l5.eq_1]
    simp [go_sem]
    exact h
  | succ c ih =>
    intro i hi h
    have hlt : i < D.length := by omega
    have ha := hD _ (List.getElem_mem hlt)
    have hix := fun (K : AV → Heap → List Nat → Prop) (q : IntKind) => hv.ix (H := H) (K := K) (k := q) hlt
    generalize D[i] = a at *
    have next := ih (i + 1) (by omega) h
    rw [wp_round c11_l5.eq_1]
    simp [go_sem, hlt, hix, hv.len]
    refine l11_4 h1 h6 hv hD hl ha hH D.length 0 (by omega) ?_
    simp [go_sem, i64_suc (show i < 1000000 by omega)]
    exact next
theorem spL_all {n : Nat} (h1 : 1 ≤ n) (h4 : n ≤ 4) : spL (pw n) (pw n) 0 [] 0 = chS n (n / 2) := by
  have : n = 1 ∨ n = 2 ∨ n = 3 ∨ n = 4 := by omega
  rcases this with rfl | rfl | rfl | rfl <;> decide +kernel
theorem w25_form {n : Nat} (h1 : 1 ≤ n) (h6 : n ≤ 6) : ∃ xs, w25 n = .tup [.lst 1 false xs, .int .i64 0] ∧ xs.length = chS n (n / 2) ∧ (esN n).length = pw n := by
  have hn : n ∈ List.range' 1 6 := List.mem_range'_1.2 ⟨h1, by omega⟩
  have := List.all_eq_true.1 len_all n hn
  split at this
  · rename_i xs he
    rw [Bool.and_eq_true] at this
    exact ⟨xs, he, Nat.eq_of_beq_eq_true this.1, Nat.eq_of_beq_eq_true this.2⟩
  · cases this
theorem law11 {d : Nat} {q : AV} {bs : List Nat} (hd : d < 256) (hq : isB q bs) (hl : bs.length < 9223372036854775808) : WpCall E false 0 0 11 [.agg [.int .u8 (d : Nat), q]] [] (fun v _ => v = .bool true) := by
  have h1 : 1 ≤ d % 6 + 1 := by omega
  have h6 : d % 6 + 1 ≤ 6 := by omega
  rw [call11]
  simp [go_sem, WpFun, c11, hq.frz, hq.cells]
  simp [go_sem, aload, Ab.part]
  refine k52 hd (by decide) (by decide) hq hl (by simp) ?_
  have hD := madeS_mem (p := pw (d % 6 + 1)) pw_pos (l := bs) (acc := []) (by simp)
  have hnd := madeS_nodup (p := pw (d % 6 + 1)) (l := bs) (acc := []) (by simp)
  have hp6 : pw (d % 6 + 1) ≤ 64 := Nat.le_trans (Nat.pow_le_pow_right (by decide) h6) (by decide : 2 ^ 6 ≤ 64)
  have hlen := nodup_len hnd hD
  generalize madeS (pw (d % 6 + 1)) [] bs = D at *
  generalize d % 6 + 1 = n at *
  have hv : isL (outL 1 (nats D)) D := isL.out
  generalize outL 1 (nats D) = vD at *
  obtain ⟨xs, hw, hxs, hes⟩ := w25_form h1 h6
  have hc : cOf (w25 n) = .lst 1 false xs := by rw [hw]; rfl
  have hsh := shl_i64 (n := n) (by omega)
  simp [go_sem, storeWp, astore, setCells, aload, Ab.part, AV.cells]
  refine (call27 h1 h6).2 ?_
  simp [go_sem, aload, Ab.part]
  refine (call25 h1 h6).2 ?_
  rw [hw]
  simp [go_sem, hxs]
  rw [← hc]
  have hA := fun (B0 : Blk) (R : PQ) h => segA h1 h6 (vD := vD) (B0 := B0) (R := R) h
  generalize hm : chS n (n / 2) = m at *
  refine hA _ _ ?_
  simp [go_sem, aload, Ab.part, hsh]
  have hB := fun (B0 : Blk) (R : PQ) h => segB h1 h6 (vD := vD) (B0 := B0) (R := R) h
  rw [hm] at hB
  refine hB _ _ ?_
  simp [go_sem, aload, Ab.part, hsh, aop, hes, hv.len]
  refine l11_5 h1 h6 hv hD (by omega) rfl D.length 0 (by omega) ?_
  simp [go_sem, aload, Ab.part]
  refine k51 hv (fun x hx => pw6 h6 (hD x hx)) (by omega) (by simp) ?_
  have hS : isS (outL 1 (dys D)) D := isS.out
  generalize outL 1 (dys D) = vS at *
  simp [go_sem]
  have hop : opS n [] (D.map dyL) = (0, D) := by
    have := opS_valid h1 h6 (D := D) (done := []) hD (by simpa using hnd)
    simpa using this
  refine k37 h1 h6 (hS.vv fun x hx => pw6 h6 (hD x hx)) (by simp; omega) (fun l hl => ?_) (by simp) (fun e => ?_) (fun _ hn => ?_) (fun p _ hp => ?_)
  · obtain ⟨x, hx, rfl⟩ := List.mem_map.1 hl
    exact dyL_lt (pw6 h6 (hD x hx))
  · rw [hop] at e; exact (e rfl).elim
  · rw [hop] at hn
    have hap := (apS_con hnd).2 hn
    have hle := chain_le h1 h6 hD hnd hap
    rw [hm] at hle
    simp [go_sem]
    refine k53 hv (fun x hx => pw6 h6 (hD x hx)) (by omega) ?_
    rw [hap]
    have hle' : ¬ ((m : Int) < (D.length : Int)) := by omega
    simp [go_sem, hv.len, hle']
    by_cases h4 : 4 < n
    · have h4' : (4 : Int) < (n : Int) := by omega
      simp [go_sem, aload, Ab.part, h4', call15]
    · have h4' : ¬ ((4 : Int) < (n : Int)) := by omega
      simp [go_sem, aload, Ab.part, h4', storeWp, astore, setCells, AV.cells, AV.top.tops, AV.top]
      have hsp := spL_all h1 (by omega : n ≤ 4)
      rw [hm] at hsp
      refine c54_call (n := n) (x := 0) (m := 0) (f := pw n) (B0 := .row 0 [.int .u8 (d : Int), q] 0 true) (B2 := .map (esN n)) (l := []) (v := .nils) Own.nil rfl (fun R hR => ?_) (fun H' lf => ?_)
      · exact L54 (by omega) (pw n) 0 [] .nils _ _ 0 R (by omega) (by omega) (by simp) (by simp) Own.nil rfl (by simp) hR
      · have h5 := lf.five
        simp only [List.length_nil, Nat.max_self, hsp] at h5
        have ld3 : aload H' ⟨false, 1⟩ (.ptr 3 0 0) = some (.int .i64 (m : Int)) := by rw [aload_ptr (H5_get h5).2.1]; rfl
        simp [go_sem, ld3, call15]
  · rw [hop] at hp
    have hap : apS D = false := by
      cases h : apS D
      · rfl
      · have := (apS_con hnd).1 h
        rw [this] at hp; cases hp
    simp [go_sem]
    refine k53 hv (fun x hx => pw6 h6 (hD x hx)) (by omega) ?_
    rw [hap]
    simp [go_sem]
    by_cases h4 : 4 < n
    · have h4' : (4 : Int) < (n : Int) := by omega
      simp [go_sem, aload, Ab.part, h4', call15]
    · have h4' : ¬ ((4 : Int) < (n : Int)) := by omega
      simp [go_sem, aload, Ab.part, h4', storeWp, astore, setCells, AV.cells, AV.top.tops, AV.top]
      have hsp := spL_all h1 (by omega : n ≤ 4)
      rw [hm] at hsp
      refine c54_call (n := n) (x := 0) (m := 0) (f := pw n) (B0 := .row 0 [.int .u8 (d : Int), q] 0 true) (B2 := .map (esN n)) (l := []) (v := .nils) Own.nil rfl (fun R hR => ?_) (fun H' lf => ?_)
      · exact L54 (by omega) (pw n) 0 [] .nils _ _ 0 R (by omega) (by omega) (by simp) (by simp) Own.nil rfl (by simp) hR
      · have h5 := lf.five
        simp only [List.length_nil, Nat.max_self, hsp] at h5
        have ld3 : aload H' ⟨false, 1⟩ (.ptr 3 0 0) = some (.int .i64 (m : Int)) := by rw [aload_ptr (H5_get h5).2.1]; rfl
        simp [go_sem, ld3, call15]
theorem sperner_true {d : Nat} {q : AV} {bs : List Nat} (hd : d < 256) (hq : isB q bs) (hl : bs.length < 9223372036854775808) : ∃ f H', acall E f 11 [.agg [.int .u8 (d : Nat), q]] [] = some (.bool true, H') := by
  obtain ⟨f, v, H', h, rfl⟩ := law11 hd hq hl
  exact ⟨f, H', h⟩
end Go.Proofs.YtbkhffakhggdaaaDoor.Code
end

section
namespace Go.Proofs.YtbkhffakhggdaaaDoor.Code
open Go Go.Ab Go.RowKit Go.ChangeShapes Go.WideShapes
variable {H : Type} {enc : TypeId × Value → H} {P : Program} {W : World} {spare : Nat → Bool} {held : Bool}
/-- a drawer by numbers as an argument -/
theorem drawer_vr {t e : TypeId} {f0 f1 : Field} {v : Value} {d : DataW H} {ps : List MemPlace} {r : Reach} {b0 : Nat}
    (ht : P.underlying t = some (.struct #[f0, f1])) (o0 : f0.offset = 0) (o1 : f1.offset = 1) (c0 : P.cellsOf f0.type = 1) (c1 : P.cellsOf f1.type = 1) (ct : P.cellsOf t = 2)
    (h0 : P.underlying f0.type = some (.int .u8)) (h1 : P.underlying f1.type = some (.slice e)) (he : P.underlying e = some (.int .u8)) (ce : P.cellsOf e = 1)
    (hct : P.cellTypes P.depth t = some [f0.type, f1.type]) (hval : Value.okWide P W r b0 t v) (hd : DataW.Trod enc P W 0 spare held t v d ps) :
    ∃ (n : Nat) (q : AV) (bs : List Nat), n < 256 ∧ VR (ctx0 W) (.agg [.int .u8 (n : Int), q]) v ∧ isB q bs ∧ bs.length < 9223372036854775808 := by
  unfold Value.okWide at hval
  rw [ht] at hval
  obtain ⟨cs, rfl, hcs, ts, hts, _, hcell⟩ := hval
  rw [hct] at hts
  cases hts
  obtain ⟨fuel, hd⟩ := hd
  obtain ⟨xs, m, _, _, hl, hxl, hx⟩ := DataW.trod_struct ht hd
  have g0 := hx 0 f0 rfl
  have g1 := hx 1 f1 rfl
  have hxl2 : xs.length = 2 := hxl
  rw [List.getElem?_eq_getElem (by omega), o0, c0] at g0
  rw [List.getElem?_eq_getElem (by omega), o1, c1] at g1
  have hl2 : cs.toList.length = 2 := by simpa [ct] using hcs
  obtain ⟨u0, u1, hu⟩ : ∃ u0 u1, cs.toList = [u0, u1] := by
    match cs.toList, hl2 with
    | [a, b], _ => exact ⟨a, b, rfl⟩
  have hcl : (Value.agg cs).cells = cs := rfl
  rw [hcl, hu] at g0 g1
  simp at g0 g1
  obtain ⟨z, hn, _, hw⟩ := DataW.trod_int h0 g0
  simp at hn
  subst hn
  obtain ⟨n, rfl, hn256⟩ := Ab.u8_wf hw
  have hcs1 : cs[1]? = some u1 := by
    have : cs.toList[1]? = some u1 := by rw [hu]; rfl
    simpa using this
  obtain ⟨u, hu1, hok⟩ := hcell 1 u1 hcs1
  simp at hu1
  subst hu1
  have hf : flatT P 1 e = true := by unfold flatT; rw [he]
  obtain ⟨q, q1, q2, q3⟩ := slice_vr (n := 1) h1 hf g1 hok
  have hP : ∃ bs, isB q bs ∧ bs.length < 9223372036854775808 := by
    rcases q3 with rfl | ⟨xs, rfl, hxs⟩
    · exact ⟨[], ⟨.inl ⟨rfl, rfl⟩, by simp⟩, by simp⟩
    · have each : ∀ x ∈ xs, ∃ n : Nat, x = .int .u8 (n : Int) ∧ n < 256 := fun x hx => by
        obtain ⟨ys, rfl, hs⟩ := hxs x hx
        unfold Sh at hs
        rw [he] at hs
        obtain ⟨z, rfl, hw⟩ := hs
        obtain ⟨n, rfl, hn⟩ := Ab.u8_wf hw
        exact ⟨n, by unfold wrapA; rw [he]; rfl, hn⟩
      have all : ∀ {xs : List AV}, (∀ x ∈ xs, ∃ n : Nat, x = .int .u8 (n : Int) ∧ n < 256) → ∃ bs : List Nat, xs = (bs.map fun (x : Nat) => AV.int .u8 (x : Int)) ∧ ∀ x ∈ bs, x < 256 := by
        intro xs
        induction xs with
        | nil => exact fun _ => ⟨[], rfl, by simp⟩
        | cons x r ih =>
          intro h
          obtain ⟨n, rfl, hn⟩ := h x (List.mem_cons_self ..)
          obtain ⟨l, rfl, hl⟩ := ih fun y hy => h y (List.mem_cons_of_mem _ hy)
          exact ⟨n :: l, rfl, fun y hy => by
            rcases List.mem_cons.1 hy with rfl | hy
            · exact hn
            · exact hl y hy⟩
      obtain ⟨bs, rfl, hbs⟩ := all each
      rw [ce] at q1 ⊢
      refine ⟨bs, ⟨.inr ⟨false, rfl⟩, hbs⟩, ?_⟩
      rcases DataW.trod_slice h1 g1 with ⟨hh, _⟩ | ⟨a, len, cap, elems, rest, k, _, hh, _, _, hle, hmax, _⟩
      · simp at hh; subst hh; cases q1
      · simp at hh; subst hh
        cases q1 with
        | lst sz ex xs b o cap f hlc hex hsz hcell hv =>
          simp only [List.length_map] at hle
          have : (maxLen : Nat) < 9223372036854775808 := by decide
          omega
  obtain ⟨bs, hP, hlen⟩ := hP
  refine ⟨n, q, bs, hn256, ?_, hP, hlen⟩
  have e : cs = #[.int .u8 (n : Int), u1] := by
    apply Array.toList_inj.1
    rw [hu]
  subst e
  refine .agg [.int .u8 (n : Int), q] #[.int .u8 (n : Int), u1] rfl (fun c hc => ?_) fun i c v hc hv => ?_
  · simp at hc
    rcases hc with rfl | rfl
    · rfl
    · exact q2
  · match i with
    | 0 => simp at hc hv; subst hc; subst hv; exact .int _ _
    | 1 => simp at hc hv; subst hc; subst hv; exact q1
    | i + 2 => simp at hc
end Go.Proofs.YtbkhffakhggdaaaDoor.Code
end

