/-
  Parts of the proofs about this chapter, joined: contracts of functions and plain laws.
-/
import Derived.Test.YtoipleipokpnaaaGreatWcb
import Derived.KernelRfl
set_option linter.all false
section
namespace Go.Proofs.YtoipleipokpnaaaGreat.Code
open Go Go.Ab
variable {pure : Bool} {base bar : Nat} {H : Heap} {Q : AV → Heap → Prop} {K : AV → Heap → List Nat → Prop}
/-! insertion sort -/
def srt (L : List ZZ) : Prop := L.Pairwise fun p q => ¬ ltZ q p
theorem zc_tops {p : ZZ} (n : Nat) : AV.top.tops (zc p) ≤ n := by simp [zc, AV.top.tops, AV.top]
theorem ltZ.le {x y z : ZZ} (h1 : ¬ ltZ y x) (h2 : ¬ ltZ z y) : ¬ ltZ z x := by unfold ltZ at *; omega
theorem l86a {id ver n i : Nat} {ex : Bool} {x : ZZ} {C : List ZZ} {H0 : Heap} (hid : id < H0.length) (hb : bar ≤ id) (hn : n < 1000) {R : PQ} : ∀ (A B : List ZZ), A.length + B.length + C.length + 1 = n → srt (A ++ B) → (∀ b ∈ B, ltZ x b) →
    (∀ S : List ZZ, S.Perm (A ++ x :: B) → srt S → ∀ v, R (.exit 2) [(0, .vec id ver 0 n 2), (1, .int .i64 0), (2, .int .i64 (n : Nat)), (3, .fn 69 [] []), (8, .int .i64 (i : Nat)), (9, v), (34, .bool false)] (H0.set id (.row ver (prs (S ++ C)) 0 ex))) →
    Wp E base bar (.loop c86_l0) [(0, .vec id ver 0 n 2), (1, .int .i64 0), (2, .int .i64 (n : Nat)), (3, .fn 69 [] []), (8, .int .i64 (i : Nat)), (9, .int .i64 (A.length : Nat))] (H0.set id (.row ver (prs (A ++ x :: B ++ C)) 0 ex)) R := by
  intro A
  obtain ⟨m, hm⟩ : ∃ m, A.length = m := ⟨_, rfl⟩
  induction m generalizing A with
  | zero =>
    intro B hl hs hB h
    have : A = [] := List.length_eq_zero_iff.1 hm
    subst this
    have hh := h (x :: B) (List.Perm.refl _) (List.pairwise_cons.2 ⟨fun b hb hlt => ltZ.asymm hlt (hB b hb), hs⟩)
    rw [wp_round c86_l0.eq_1]
    simp [go_sem]
    exact hh _
  | succ m ih =>
    intro B hl hs hB h
    obtain ⟨A', y, rfl⟩ : ∃ A' y, A = A' ++ [y] := by
      rcases List.eq_nil_or_concat A with e | ⟨A', y, e⟩
      · subst e; simp at hm
      · exact ⟨A', y, by rw [e, List.concat_eq_append]⟩
    have hm' : A'.length = m := by simpa using hm
    rw [hm]
    have eL : A' ++ [y] ++ x :: B ++ C = A' ++ y :: x :: (B ++ C) := by simp
    have hlen : (A' ++ y :: x :: (B ++ C)).length = n := by simp at hl ⊢; omega
    have hx : (A' ++ y :: x :: (B ++ C))[m + 1]'(by simp; omega) = x := by
      rw [List.getElem_append_right (by omega)]
      simp [hm']
    have hy : (A' ++ y :: x :: (B ++ C))[m]'(by simp; omega) = y := by
      rw [List.getElem_append_right (by omega)]
      simp [hm']
    have hset : ((A' ++ y :: x :: (B ++ C)).set (m + 1) y).set m x = A' ++ x :: (y :: B) ++ C := by
      rw [List.set_append_right _ _ (by omega), List.set_append_right _ _ (by omega)]
      simp [hm']
    have hr1 := prs_part (L := A' ++ y :: x :: (B ++ C)) (i := m + 1) (by omega)
    have hr2 := prs_part (L := A' ++ y :: x :: (B ++ C)) (i := m) (by omega)
    rw [hx] at hr1
    rw [hy] at hr2
    have hs1 := prs_set (L := A' ++ y :: x :: (B ++ C)) (i := m + 1) (p := y) (by omega)
    have hs2 := prs_set (L := (A' ++ y :: x :: (B ++ C)).set (m + 1) y) (i := m) (p := x) (by rw [List.length_set]; omega)
    rw [hset] at hs2
    have hw : IntKind.i64.wrap (((m + 1 : Nat) : Int) - 1) = ((m : Nat) : Int) := by rw [Go.IntWalk.i64_in _ (by omega)]; omega
    have hpl := prs_length (l := A' ++ y :: x :: (B ++ C))
    rw [hlen] at hpl
    have hpl2 := prs_length (l := (A' ++ y :: x :: (B ++ C)).set (m + 1) y)
    rw [List.length_set, hlen] at hpl2
    have hsA : srt (A' ++ (y :: B)) := by simpa using hs
    have hgo := fun (hyx : ltZ x y) => ih A' hm' (y :: B) (by simp at hl ⊢; omega) hsA (fun b hb => by
      rcases List.mem_cons.1 hb with rfl | hb
      · exact hyx
      · exact hB b hb) (fun S hS => h S (hS.trans (by simpa using (List.Perm.append_left A' (List.Perm.swap y x B)))))
    rw [hm'] at hgo
    have hstop : ¬ ltZ x y → srt (A' ++ [y] ++ x :: B) := fun hno => by
      unfold srt at hs ⊢
      rw [List.pairwise_append] at hs ⊢
      obtain ⟨s1, s2, s3⟩ := hs
      refine ⟨s1, List.pairwise_cons.2 ⟨fun b hb hlt => ltZ.asymm hlt (hB b hb), s2⟩, fun a ha b hb => ?_⟩
      rcases List.mem_cons.1 hb with rfl | hb
      · rcases List.mem_append.1 ha with ha | ha
        · rw [List.pairwise_append] at s1
          exact ltZ.le (s1.2.2 a ha y (by simp)) hno
        · rw [List.mem_singleton.1 ha]; exact hno
      · exact s3 a ha b hb
    rw [eL]
    have hg : (H0.set id (.row ver (prs (A' ++ y :: x :: (B ++ C))) 0 ex))[id]? = some (.row ver (prs (A' ++ y :: x :: (B ++ C))) 0 ex) := List.getElem?_set_self hid
    have hset2 : ∀ b c : Blk, (H0.set id b).set id c = H0.set id c := fun b c => by rw [List.set_set]
    have hfin := fun hno v => h _ (List.Perm.refl _) (hstop hno) v
    rw [eL] at hfin
    rw [← hs2, ← hs1] at hgo
    clear hx hy hset hs2 hs1 hpl2 eL
    generalize A' ++ y :: x :: (B ++ C) = L at *
    have i1 : m + 1 < n := by simp at hl; omega
    have i2 : m < n := by omega
    have hA1 : aload (H0.set id (.row ver (prs L) 0 ex)) ⟨true, 2⟩ (.ptr id ver ((m + 1) * 2)) = some (.agg (zc x)) := by rw [aload_ptr hg, Nat.mul_comm]; exact hr1
    have hA2 : aload (H0.set id (.row ver (prs L) 0 ex)) ⟨true, 2⟩ (.ptr id ver (m * 2)) = some (.agg (zc y)) := by rw [aload_ptr hg, Nat.mul_comm]; exact hr2
    have c1 : (m + 1) * 2 + 2 ≤ (prs L).length := by omega
    have c2 : m * 2 + 2 ≤ (prs L).length := by omega
    have hl0 : (H0.set id (.row ver (prs L) 0 ex)).length = H0.length := by simp
    rw [Nat.mul_comm 2 (m + 1), Nat.mul_comm 2 m] at hgo
    have hbl : bar ≤ H0.length := by omega
    have hj0 : 0 < m + 1 := by omega
    clear hr1 hr2 hl hpl hlen
    generalize m + 1 = j at *
    rw [wp_round c86_l0.eq_1]
    simp [go_sem, i1, i2, hw, hA1, hA2, hj0]
    refine k69 (p := x) (q := y) (by rw [hl0]; exact hbl) ?_
    by_cases hlt : ltZ x y
    · have hc := cmp_lt.2 hlt
      have hh := hgo hlt
      generalize cmpV [x.1, x.2] [y.1, y.2] = z at *
      simp [go_sem, hc, i1, i2, hw, hA1, hA2]
      rw [storeWp_ptr (size := 2) hg rfl rfl (by omega) (by omega) hb (.inr (zc_tops _)), hset2]
      have hg2 : (H0.set id (.row ver (setCells (prs L) (j * 2) (zc y)) 0 ex))[id]? = some (.row ver (setCells (prs L) (j * 2) (zc y)) 0 ex) := List.getElem?_set_self hid
      have hcl : (AV.agg (zc y)).cells = zc y := rfl
      have hcx : (AV.agg (zc x)).cells = zc x := rfl
      rw [hcl]
      simp [go_sem, i1, i2, hw]
      rw [storeWp_ptr (size := 2) hg2 rfl rfl (by omega) (by rw [setCells_length]; omega) hb (.inr (zc_tops _)), hset2, hcx]
      simp [go_sem, hw]
      exact hh
    · have hc : ¬ cmpV [x.1, x.2] [y.1, y.2] < 0 := fun e => hlt (cmp_lt.1 e)
      generalize cmpV [x.1, x.2] [y.1, y.2] = z at *
      simp [go_sem, hc]
      exact hfin hlt _
end Go.Proofs.YtoipleipokpnaaaGreat.Code
end
section
namespace Go.Proofs.YtoipleipokpnaaaGreat.Code
open Go Go.Ab
variable {pure : Bool} {base bar : Nat} {H : Heap} {Q : AV → Heap → Prop} {K : AV → Heap → List Nat → Prop}
theorem l86b {id ver n : Nat} {ex : Bool} {L0 : List ZZ} {H0 : Heap} (hid : id < H0.length) (hb : bar ≤ id) (hn : n < 1000) {R : PQ} 
    (h : ∀ S : List ZZ, S.Perm L0 → srt S → R (.exit 0) [(0, .vec id ver 0 n 2), (1, .int .i64 0), (2, .int .i64 (n : Nat)), (3, .fn 69 [] []), (8, .int .i64 (n : Nat)), (14, .bool false)] (H0.set id (.row ver (prs S) 0 ex))) :
    ∀ (k i : Nat) (L : List ZZ), i + k = n → 1 ≤ i → L.Perm L0 → L.length = n → srt (L.take i) →
    Wp E base bar (.loop c86_l1) [(0, .vec id ver 0 n 2), (1, .int .i64 0), (2, .int .i64 (n : Nat)), (3, .fn 69 [] []), (8, .int .i64 (i : Nat))] (H0.set id (.row ver (prs L) 0 ex)) R := by
  intro k
  induction k with
  | zero =>
    intro i L hi h1 hp hl hs
    obtain rfl : i = n := by omega
    rw [List.take_of_length_le (by omega)] at hs
    rw [wp_round c86_l1.eq_1]
    simp [go_sem]
    exact h L hp hs
  | succ k ih =>
    intro i L hi h1 hp hl hs
    have hlt : i < L.length := by omega
    have hin : i < n := by omega
    have e1 : L.take i ++ L[i] :: [] ++ L.drop (i + 1) = L := by
      rw [List.append_assoc, List.cons_append, List.nil_append, ← List.drop_eq_getElem_cons hlt, List.take_append_drop]
    have htl : (L.take i).length = i := by rw [List.length_take]; omega
    have hw := i64_suc (show i < 1000000 by omega)
    rw [wp_round c86_l1.eq_1]
    simp [go_sem, hin]
    have hin' := fun (R : PQ) => l86a (base := base) (bar := bar) (ver := ver) (n := n) (i := i) (ex := ex) (x := L[i]) (C := L.drop (i + 1)) hid hb hn (R := R) (L.take i) [] (by simp; omega) (by simpa using hs) (by simp)
    rw [e1, htl] at hin'
    refine hin' _ fun S hS hsS v => ?_
    simp [go_sem, hw]
    have hSl : S.length = i + 1 := by rw [hS.length_eq]; simp; omega
    refine ih (i + 1) _ (by omega) (by omega) ?_ ?_ ?_
    · refine ((List.Perm.append_right _ hS).trans ?_).trans hp
      rw [e1]
    · rw [List.length_append, hSl, List.length_drop]; omega
    · rw [List.take_append_of_le_length (by omega), List.take_of_length_le (by omega)]; exact hsS
theorem k86 {id ver n : Nat} {ex : Bool} {L : List ZZ} (h : H[id]? = some (.row ver (prs L) 0 ex)) (hl : L.length = n) (h1 : 1 ≤ n) (hn : n < 1000) (hb : bar ≤ id) 
    (k : ∀ S : List ZZ, S.Perm L → srt S → Q (.tup []) (H.set id (.row ver (prs S) 0 ex))) : WpCall E false base bar 86 [.vec id ver 0 n 2, .int .i64 0, .int .i64 (n : Nat), .fn 69 [] []] H Q := by
  have hid := (List.getElem?_eq_some_iff.1 h).1
  rw [call86]
  have hw : IntKind.i64.wrap 1 = ((1 : Nat) : Int) := rfl
  simp [go_sem, WpFun, c86, hw]
  have hset : H.set id (.row ver (prs L) 0 ex) = H := set_same h
  have := fun (R : PQ) hR => l86b (base := H.length) (bar := bar) (ver := ver) (n := n) (ex := ex) (L0 := L) hid hb hn (R := R) hR (n - 1) 1 L (by omega) (by omega) (List.Perm.refl _) hl (by
    obtain _ | ⟨p, L⟩ := L
    · simp at hl; omega
    · simp [srt])
  rw [hset] at this
  refine this _ fun S hS hsS => ?_
  simp [go_sem]
  rw [show (H.set id (.row ver (prs S) 0 ex)).take H.length = H.set id (.row ver (prs S) 0 ex) by rw [List.take_of_length_le (by simp)]]
  exact k S hS hsS
theorem bytesOf_size {l : List Nat} : (bytesOf l).size = l.length := by unfold bytesOf; simp [ByteArray.size]
set_option maxRecDepth 4000 in
theorem c95_size : c95_b0.size = 256 := by
  unfold c95_b0
  rw [bytesOf_size]
  rfl
theorem k95 {n : Nat} (hn : n ≤ 12) (h : ∀ r : Int, Q (.int .i64 r) H) : WpCall E pure base bar 95 [.int .u64 (n : Nat)] H Q := by
  rw [call95]
  have e0 : frzAll bar H [.int .u64 (n : Nat)] = some ([.int .u64 (n : Nat)], H) := rfl
  rw [e0]
  have hw : IntKind.u8.wrap ((n : Nat) : Int) = ((n : Nat) : Int) := by rw [show IntKind.u8.wrap ((n : Nat) : Int) = (n : Int) from Go.IntWalk.u8_in _ (by omega)]
  have hb : n < c95_b0.size := by rw [c95_size]; omega
  obtain ⟨b, hb⟩ : ∃ b, c95_b0[n]? = some b := ⟨_, getElem?_pos c95_b0 n hb⟩
  unfold c95
  generalize c95_b0 = B at *
  simp [go_sem, WpFun, hw, show ¬ (4294967296 : Int) ≤ (n : Int) by omega, show ¬ (65536 : Int) ≤ (n : Int) by omega, show ¬ (256 : Int) ≤ (n : Int) by omega]
  simp [go_sem, aop, Opd.ev, AV.asNat, hb]
  exact h _
theorem k82 {n : Nat} (hn : n ≤ 12) (h : ∀ r : Int, Q (.int .i64 r) H) : WpCall E pure base bar 82 [.int .u64 (n : Nat)] H Q := by
  rw [call82]
  have e0 : frzAll bar H [.int .u64 (n : Nat)] = some ([.int .u64 (n : Nat)], H) := rfl
  rw [e0]
  simp [go_sem, WpFun, c82]
  refine k95 hn fun r => ?_
  simp [go_sem]
  exact h r
theorem k81 {id ver n : Nat} {ex : Bool} {L : List ZZ} {r : Int} (h : H[id]? = some (.row ver (prs L) 0 ex)) (hl : L.length = n) (h1 : 1 ≤ n) (hn : n ≤ 12) (hb : bar ≤ id) 
    (k : ∀ S : List ZZ, S.Perm L → srt S → Q (.tup []) (H.set id (.row ver (prs S) 0 ex))) : WpCall E false base bar 81 [.vec id ver 0 n 2, .int .i64 0, .int .i64 (n : Nat), .int .i64 r, .fn 69 [] []] H Q := by
  rw [call81]
  have hw : IntKind.i64.wrap ((n : Nat) : Int) = (n : Nat) := Go.IntWalk.i64_in _ (by omega)
  simp [go_sem, WpFun, c81]
  rw [wp_round c81_l0.eq_1]
  simp [go_sem, hw, show (n : Int) ≤ 12 by omega]
  refine k86 h hl h1 (by omega) hb fun S hS hsS => ?_
  simp [go_sem]
  rw [show (H.set id (.row ver (prs S) 0 ex)).take H.length = H.set id (.row ver (prs S) 0 ex) by rw [List.take_of_length_le (by simp)]]
  exact k S hS hsS
theorem k68 {id ver n : Nat} {ex : Bool} {L : List ZZ} (h : H[id]? = some (.row ver (prs L) 0 ex)) (hl : L.length = n) (h1 : 1 ≤ n) (hn : n ≤ 12) (hb : bar ≤ id) 
    (k : ∀ S : List ZZ, S.Perm L → srt S → Q (.tup []) (H.set id (.row ver (prs S) 0 ex))) : WpCall E false base bar 68 [.vec id ver 0 n 2, .fn 69 [] []] H Q := by
  rw [call68]
  have hw : IntKind.u64.wrap ((n : Nat) : Int) = ((n : Nat) : Int) := by rw [show IntKind.u64.wrap ((n : Nat) : Int) = (n : Int) from Go.IntWalk.u64_in _ (by omega)]
  simp [go_sem, WpFun, c68, hw]
  refine k82 hn fun r => ?_
  simp [go_sem]
  refine k81 h hl h1 (by omega) hb fun S hS hsS => ?_
  simp [go_sem]
  rw [show (H.set id (.row ver (prs S) 0 ex)).take H.length = H.set id (.row ver (prs S) 0 ex) by rw [List.take_of_length_le (by simp)]]
  exact k S hS hsS
theorem k68n (k : Q (.tup []) H) : WpCall E false base bar 68 [.nils, .fn 69 [] []] H Q := by
  rw [call68]
  simp [go_sem, WpFun, c68]
  refine k82 (n := 0) (by omega) fun r => ?_
  simp [go_sem]
  rw [call81]
  simp [go_sem, WpFun, c81]
  rw [wp_round c81_l0.eq_1]
  simp [go_sem]
  rw [call86]
  simp [go_sem, WpFun, c86]
  rw [wp_round c86_l1.eq_1]
  simp [go_sem]
  exact k
end Go.Proofs.YtoipleipokpnaaaGreat.Code
end
section
namespace Go.Proofs.YtoipleipokpnaaaGreat.Code
open Go Go.Ab
variable {pure : Bool} {base bar : Nat} {H : Heap} {Q : AV → Heap → Prop} {K : AV → Heap → List Nat → Prop}
/-! ties of a list under construction, never frozen -/
def O0 (k : Nat) (l : List ZZ) (v : AV) (H : Heap) : Prop := (l = [] ∧ v = .nils) ∨ ∃ id ver, l ≠ [] ∧ k ≤ id ∧ v = .vec id ver 0 l.length 2 ∧ H[id]? = some (.row ver (prs l) 0 false)
theorem O0.more {k : Nat} {l : List ZZ} {v : AV} {G : Heap} (g : O0 k l v H) : O0 k l v (H ++ G) := by
  rcases g with h | ⟨id, ver, h1, h2, h3, h4⟩
  · exact .inl h
  · exact .inr ⟨id, ver, h1, h2, h3, by rw [List.getElem?_append_left (List.getElem?_eq_some_iff.1 h4).1]; exact h4⟩
theorem O0.pair {k : Nat} {l : List ZZ} {v : AV} {p : ZZ} {ex : Bool} (g : O0 k l v H) (hk : k ≤ H.length) (hb : bar ≤ k) (hbase : base ≤ k) (hlen : l.length < 1000)
    (h : ∀ v' H' tc, O0 k (l ++ [p]) v' H' → H.length ≤ H'.length → (∀ j, j < k → H'[j]? = H[j]?) → K v' H' tc) : appWp base bar 2 16 (some v) (some (.lst 2 ex [.agg (zc p)])) H K := by
  have hz : frzAll bar H (zc p) = some (zc p, H) := rfl
  have hpl : (prs l).length = l.length * 2 := by rw [prs_length, Nat.mul_comm]
  have e2 : prs l ++ zc p = prs (l ++ [p]) := by rw [prs_append, prs_one]
  simp only [appWp, asrc_lst]
  rw [show [AV.agg (zc p)].flatMap AV.cells = zc p from rfl, hz]
  rcases g with ⟨rfl, rfl⟩ | ⟨id, ver, h1, h2, rfl, h4⟩
  · have := h (.vec H.length 0 0 1 2) (H ++ [.row 0 (zc p) 0 false]) [] (.inr ⟨H.length, 0, by simp, hk, rfl, by simp [prs_one]⟩) (by simp) fun j hj => List.getElem?_append_left (by omega)
    simpa [aappend, zc, AV.noVec, AV.noVec.noVecs] using this
  · have hid := (List.getElem?_eq_some_iff.1 h4).1
    have := h (.vec id (ver + 1) 0 (l.length + 1) 2) (H.set id (.row (ver + 1) (prs l ++ zc p) 0 false)) [id] (.inr ⟨id, ver + 1, by simp, h2, by simp, by rw [List.getElem?_set_self hid, e2]⟩) (by simp) fun j hj => List.getElem?_set_ne (by omega)
    have hle : ¬ (140737488355328 < (l.length + 1) * 16) := by omega
    have htk : (prs l).take (l.length * 2) = prs l := List.take_of_length_le (by omega)
    have c1 : ¬ (prs l).length < 0 + l.length * 2 := by omega
    have c2 : ¬ (0 + (l.length + 1) * 2 ≤ (prs l).length) := by omega
    have hbi : bar ≤ id := by omega
    have hba : base ≤ id := by omega
    have hzl : (zc p).length = 2 := rfl
    simp only [aappend, h4, hzl, ne_eq, not_true_eq_false, if_false, false_or, c1, c2, htk, hbi, hba]
    simpa [aappend, h4, hle, htk, zc, AV.noVec, AV.noVec.noVecs, hbi, hba] using this
theorem O0.frz {k d : Nat} {l : List ZZ} {v : AV} (g : O0 k l v H) (hb : bar ≤ k) : ∃ u H', frz (d + 3) bar H v = some (u, H') ∧ isP u l ∧ H'.length = H.length ∧ (∀ j, j < k → H'[j]? = H[j]?) := by
  have : Own k 2 (prs l) v H := by
    rcases g with ⟨rfl, rfl⟩ | ⟨id, ver, h1, h2, h3, h4⟩
    · exact .inl ⟨rfl, rfl⟩
    · exact .inr ⟨id, ver, 0, fun e => h1 (by
        have := congrArg List.length e
        rw [prs_length] at this
        exact List.length_eq_zero_iff.1 (by simp at this; omega)), h2, by omega, by rw [h3, prs_length, Nat.mul_div_cancel_left _ (by omega)], h4⟩
  obtain ⟨H', e1, e2, e3, e4⟩ := this.frz (d := d) (bar := bar) (by omega) ⟨l.length, prs_length⟩ prs_plain hb
  refine ⟨_, H', e1, isP.out, e3, fun j hj => e4 j fun hid => ?_⟩
  have := (this.lt hid).1
  omega
theorem l34 {q : AV} {l : List ZZ} {H0 : Heap} (hq : isP q l) (hl : l.length < 1000) (hb : bar ≤ H0.length) (hbase : base ≤ H0.length) {R : PQ} : ∀ (k i : Nat), i + k = l.length → ∀ (v : AV) (H : Heap), 
    O0 H0.length ((l.take i).map normT) v H → H0.length ≤ H.length → (∀ j, j < H0.length → H[j]? = H0[j]?) →
    (∀ v' H', O0 H0.length (l.map normT) v' H' → H0.length ≤ H'.length → (∀ j, j < H0.length → H'[j]? = H0[j]?) → R (.exit 0) [(3, v'), (6, q), (7, .int .i64 (l.length : Nat)), (8, .int .i64 (l.length : Nat)), (9, .bool false)] H') →
    Wp E base bar (.loop c34_l0) [(3, v), (6, q), (7, .int .i64 (l.length : Nat)), (8, .int .i64 (i : Nat))] H R := by
  intro k
  induction k with
  | zero =>
    intro i hi v H g hH hlow h
    obtain rfl : i = l.length := by omega
    rw [List.take_length] at g
    rw [wp_round c34_l0.eq_1]
    simp [go_sem]
    exact h v H g hH hlow
  | succ k ih =>
    intro i hi v H g hH hlow h
    have hlt : i < l.length := by omega
    have htk : l.take (i + 1) = l.take i ++ [l[i]] := by rw [List.take_add_one, List.getElem?_eq_getElem hlt]; rfl
    have hix := fun (H : Heap) (K : AV → Heap → List Nat → Prop) => hq.ix (H := H) (K := K) (k := .i64) hlt
    obtain ⟨⟨a, b⟩, hp⟩ : ∃ p, l[i] = p := ⟨_, rfl⟩
    rw [hp] at htk hix
    have hw := i64_suc (show i < 1000000 by omega)
    have hnext := ih (i + 1) (by omega)
    rw [htk, List.map_append] at hnext
    have hlen : ((l.take i).map normT).length < 1000 := by simp; omega
    rw [wp_round c34_l0.eq_1]
    have hbH : bar ≤ H.length := by omega
    have hnt : [(a, b)].map normT = [(if b < a then b else a, if a < b then b else a)] := by
      rw [List.map_singleton, normT]
      simp only [List.cons.injEq, Prod.mk.injEq, and_true]
      omega
    rw [hnt] at hnext
    simp [go_sem, hlt, hix, zc, aload, Ab.part, storeWp, astore, AV.isTup, AV.cells, setCells, hbH, aop, evs, Opd.ev, fillA, chunks]
    refine (g.more (G := [.row 0 [.int .i64 a, .int .i64 b] 0 true])).pair (p := (if b < a then b else a, if a < b then b else a)) (by simp; omega) hb hbase hlen fun v' H' tc g' hl' hlow' => ?_
    simp [go_sem, hw]
    simp at hl'
    refine hnext v' H' g' (by omega) (fun j hj => ?_) h
    rw [hlow' j hj, List.getElem?_append_left (by omega), hlow j hj]
theorem k34 {q : AV} {l : List ZZ} (hq : isP q l) (hl : l.length ≤ 12) (hbar : bar ≤ H.length) (k : ∀ u S, isP u S → S.Perm (l.map normT) → srt S → Q u H) : WpCall E pure base bar 34 [q] H Q := by
  rw [call34]
  have e0 : frzAll bar H [q] = some ([q], H) := by simp [frzAll, frz.frzs, frzsW, hq.frz]
  rw [e0]
  have hb' := bar_if (pure := pure) hbar
  have hlen := fun (H : Heap) (K : AV → Heap → List Nat → Prop) => hq.len (H := H) (K := K)
  simp [go_sem, WpFun, c34, hlen]
  refine l34 (H0 := H) hq (by omega) hb' (by omega) l.length 0 (by omega) .nils H (by simp [O0]) (by omega) (fun _ _ => rfl) fun v H1 g hH1 hlow => ?_
  simp [go_sem]
  have hfin : ∀ (S : List ZZ) (H2 : Heap), S.Perm (l.map normT) → srt S → O0 H.length S v H2 → H2.length = H1.length → (∀ j, j < H.length → H2[j]? = H[j]?) → retWp 0 H.length (if pure = true then H.length else bar) [.tmp 2] Q .ret [(2, v)] H2 := by
    intro S H2 hp hs g2 h2 hlow2
    obtain ⟨u, H3, f1, f2, f3, f4⟩ := g2.frz (d := 5) (bar := if pure = true then H.length else bar) hb'
    have hk := k u S f2 hp hs
    have htake : H3.take H.length = H := take_same (by omega) fun j hj => by rw [f4 j hj, hlow2 j hj]
    simp [go_sem, f1, f2.top, htake]
    exact hk
  rcases g with ⟨e1, rfl⟩ | ⟨id, ver, h1, h2, rfl, h4⟩
  · refine k68n ?_
    simp [go_sem]
    exact hfin [] H1 (by rw [e1]) (by simp [srt]) (.inl ⟨rfl, rfl⟩) rfl hlow
  · refine k68 h4 rfl (by have := List.length_pos_iff.2 h1; omega) (by simpa using hl) (by omega) fun S hS hsS => ?_
    have hid := (List.getElem?_eq_some_iff.1 h4).1
    simp [go_sem]
    have := hfin S (H1.set id (.row ver (prs S) 0 false)) hS hsS (.inr ⟨id, ver, fun e => h1 (by rw [e] at hS; exact hS.symm.eq_nil), h2, by rw [hS.length_eq], List.getElem?_set_self hid⟩) (by simp) fun j hj => by
      rw [List.getElem?_set_ne (by omega), hlow j hj]
    simpa [go_sem] using this
end Go.Proofs.YtoipleipokpnaaaGreat.Code
end
section
namespace Go.Proofs.YtoipleipokpnaaaGreat.Code
open Go Go.Ab
variable {pure : Bool} {base bar : Nat} {H : Heap} {Q : AV → Heap → Prop} {K : AV → Heap → List Nat → Prop}
end Go.Proofs.YtoipleipokpnaaaGreat.Code
end
section
namespace Go.Proofs.YtoipleipokpnaaaGreat.Code
open Go Go.Ab
variable {pure : Bool} {base bar : Nat} {H : Heap} {Q : AV → Heap → Prop} {K : AV → Heap → List Nat → Prop}
/-! ties of a list under construction that may begin as an empty literal -/
def O1 (k : Nat) (l : List ZZ) (v : AV) (H : Heap) : Prop := O0 k l v H ∨ (l = [] ∧ v = .lst 2 true [])
theorem prs_ne {l : List ZZ} (h : l ≠ []) : prs l ≠ [] := fun e => h (prs_eq_nil.1 e)
theorem prs_noVec {l : List ZZ} : AV.noVec.noVecs (prs l) = true := by
  induction l with
  | nil => rfl
  | cons p r ih => rw [show prs (p :: r) = zc p ++ prs r from rfl]; simpa [zc, AV.noVec, AV.noVec.noVecs] using ih
theorem asrc_P {q : AV} {r : List ZZ} (hq : isP q r) : Ab.asrc H 2 q = some (prs r) := by
  rcases hq with ⟨rfl, rfl⟩ | ⟨ex, rfl⟩
  · rfl
  · rw [asrc_lst]
    congr 1
    induction r with
    | nil => rfl
    | cons p r ih => rw [show prA (p :: r) = .agg (zc p) :: prA r from rfl, List.flatMap_cons, ih]; rfl
theorem O1.app {k : Nat} {l r : List ZZ} {v q : AV} (g : O1 k l v H) (hq : isP q r) (hk : k ≤ H.length) (hb : bar ≤ k) (hbase : base ≤ k) (hlen : l.length + r.length < 1000)
    (h : ∀ v' H' tc, O1 k (l ++ r) v' H' → H.length ≤ H'.length → (∀ j, j < k → H'[j]? = H[j]?) → (∀ i ∈ tc, k ≤ i) → K v' H' tc) : appWp base bar 2 16 (some v) (some q) H K := by
  have hz : frzAll bar H (prs r) = some (prs r, H) := plains (d := 6) prs_plain
  have hpr : (prs r).length = r.length * 2 := by rw [prs_length, Nat.mul_comm]
  have hpl : (prs l).length = l.length * 2 := by rw [prs_length, Nat.mul_comm]
  have hdv : (prs r).length / 2 = r.length := by omega
  have hd2 : 2 ∣ (prs r).length := ⟨r.length, prs_length⟩
  simp only [appWp, asrc_P hq, hz]
  by_cases hr : r = []
  · subst hr
    rw [List.append_nil] at h
    rcases g with (⟨rfl, rfl⟩ | ⟨id, ver, h1, h2, rfl, h4⟩) | ⟨rfl, rfl⟩
    · simpa [prs, aappend, AV.noVec.noVecs] using h .nils H [] (.inl (.inl ⟨rfl, rfl⟩)) (Nat.le_refl _) (fun _ _ => rfl) (by simp)
    · have := h _ H [] (.inl (.inr ⟨id, ver, h1, h2, rfl, h4⟩)) (Nat.le_refl _) (fun _ _ => rfl) (by simp)
      have c1 : ¬ (prs l).length < l.length * 2 := by omega
      have c2 : ¬ 140737488355328 < l.length * 16 := by omega
      simpa [prs_nil, aappend, AV.noVec.noVecs, h4, c1, c2] using this
    · simpa [prs, aappend, AV.noVec.noVecs] using h (.lst 2 true []) H [] (.inr ⟨rfl, rfl⟩) (Nat.le_refl _) (fun _ _ => rfl) (by simp)
  · have hpos := List.length_pos_iff.2 hr
    have hne := prs_ne hr
    have hle : r.length * 16 ≤ 140737488355328 := by omega
    have hnew := h (.vec H.length 0 0 r.length 2) (H ++ [.row 0 (prs r) 0 false]) []
    rcases g with (⟨rfl, rfl⟩ | ⟨id, ver, h1, h2, rfl, h4⟩) | ⟨rfl, rfl⟩
    · have := hnew (.inl (.inr ⟨H.length, 0, by simpa using hr, hk, by simp, by simp⟩)) (by simp) (fun j hj => List.getElem?_append_left (by omega)) (by simp)
      simpa [aappend, hne, hdv, hle, prs_noVec, hd2] using this
    · have hid := (List.getElem?_eq_some_iff.1 h4).1
      have := h (.vec id (ver + 1) 0 (l.length + r.length) 2) (H.set id (.row (ver + 1) (prs l ++ prs r) 0 false)) [id] (.inl (.inr ⟨id, ver + 1, by simp [h1], h2, by simp, by rw [List.getElem?_set_self hid, prs_append]⟩)) (by simp) (fun j hj => List.getElem?_set_ne (by omega)) (by simpa using h2)
      have hle2 : ¬ (140737488355328 < (l.length + r.length) * 16) := by omega
      have htk : (prs l).take (l.length * 2) = prs l := List.take_of_length_le (by omega)
      have c1 : ¬ (prs l).length < 0 + l.length * 2 := by omega
      have c2 : ¬ (0 + (l.length + r.length) * 2 ≤ (prs l).length) := by omega
      have hbi : bar ≤ id := by omega
      have hba : base ≤ id := by omega
      have hie : ((prs r).isEmpty) = false := by simpa using hne
      simp only [aappend, h4, hdv, ne_eq, not_true_eq_false, if_false, false_or, c1, c2, hle2, htk, hbi, hba, hie, prs_noVec]
      simpa [hbi, hba, hd2] using this
    · have := hnew (.inl (.inr ⟨H.length, 0, by simpa using hr, hk, by simp, by simp⟩)) (by simp) (fun j hj => List.getElem?_append_left (by omega)) (by simp)
      simpa [aappend, hne, hdv, hle, prs_noVec, hd2] using this
theorem O1.frz {k d : Nat} {l : List ZZ} {v : AV} (g : O1 k l v H) (hb : bar ≤ k) : ∃ u H', Go.Ab.frz (d + 3) bar H v = some (u, H') ∧ isP u l ∧ H'.length = H.length ∧ (∀ j, j < k → H'[j]? = H[j]?) := by
  rcases g with g | ⟨rfl, rfl⟩
  · exact g.frz hb
  · exact ⟨_, H, rfl, .inr ⟨true, rfl⟩, rfl, fun _ _ => rfl⟩
theorem k32 {q : AV} {l : List ZZ} (hq : isP q l) (hl : l.length < 1000) (h : ∀ v G, O1 H.length l v (H ++ G) → Q v (H ++ G)) : WpCall E pure base bar 32 [q] H Q := by
  rw [call32]
  have e0 : frzAll bar H [q] = some ([q], H) := by simp [frzAll, frz.frzs, frzsW, hq.frz]
  rw [e0]
  have hq' := hq
  rcases hq with ⟨rfl, rfl⟩ | ⟨ex, rfl⟩
  · have := h .nils [] (.inl (.inl ⟨rfl, rfl⟩))
    rw [List.append_nil] at this
    have eq_nn : ∀ {H : Heap} {K : AV → Heap → List Nat → Prop}, eqWp false .nilS (some .nils) (some .nils) H K = K (.bool true) H [] := (rfl)
    simp [go_sem, WpFun, c32, eq_nn]
    exact this
  · have eq_ln : ∀ {l : List AV} {H : Heap} {K : AV → Heap → List Nat → Prop}, eqWp false .nilS (some (.lst 2 ex l)) (some .nils) H K = K (.bool false) H [] := (rfl)
    simp [go_sem, WpFun, c32, aop, fillA, chunks, eq_ln]
    have hpr : (prs l).length = l.length * 2 := by rw [prs_length, Nat.mul_comm]
    have hdv : (prs l).length / 2 = l.length := by omega
    have hd2 : 2 ∣ (prs l).length := ⟨l.length, prs_length⟩
    have hz : ∀ b, frzsW (frz 8 b) H (prs l) = some (prs l, H) := fun b => plains (d := 6) prs_plain
    have ha := asrc_P (H := H) hq'
    have hle : l.length * 16 ≤ 140737488355328 := by omega
    by_cases hn : l = []
    · subst hn
      have := h (.lst 2 true []) [] (.inr ⟨rfl, rfl⟩)
      rw [List.append_nil] at this
      simp [Opd.ev, go_sem, appWp, ha, aappend, prs_nil, AV.noVec.noVecs]
      exact this
    · have := h (.vec H.length 0 0 l.length 2) [.row 0 (prs l) 0 false] (.inl (.inr ⟨H.length, 0, hn, Nat.le_refl _, rfl, by simp⟩))
      simp [Opd.ev, go_sem, appWp, ha, aappend, prs_ne hn, hz, hdv, hle, prs_noVec, hd2]
      exact this
end Go.Proofs.YtoipleipokpnaaaGreat.Code
end
section
namespace Go.Proofs.YtoipleipokpnaaaGreat.Code
open Go Go.Ab
variable {pure : Bool} {base bar : Nat} {H : Heap} {Q : AV → Heap → Prop} {K : AV → Heap → List Nat → Prop}
theorem dc_congr {n : Nat} {D D' : Nat → Int} (h : ∀ x, x < n → D x = D' x) : dc n D = dc n D' := by
  unfold dc
  exact List.map_congr_left fun x hx => by rw [h x (List.mem_range.1 hx)]
theorem isSq.congr {v : AV} {n : Nat} {M M' : Mat} (h : isSq v n M) (hM : ∀ a b, a < n → b < n → M a b = M' a b) : isSq v n M' := by
  subst h
  unfold isSq
  congr 1
  refine List.map_congr_left fun i hi => ?_
  rw [dc_congr fun x hx => by rw [cRow, hM i x (List.mem_range.1 hi) hx]]
theorem row_isL {n i : Nat} {M : Mat} : isL (.lst 1 false (dc n (cRow M i))) ((List.range n).map (M i)) := by
  refine .inr ⟨false, ?_⟩
  simp [nats, dc, Function.comp_def]
end Go.Proofs.YtoipleipokpnaaaGreat.Code
end
section
namespace Go.Proofs.YtoipleipokpnaaaGreat.Code
open Go Go.Ab
/-! Pruefer: what is written, read again -/
theorem tieW_off {w : Nat → Nat} {k to : Nat} (hne : to ≠ k) (h1 : (w k).testBit to = true) (h2 : (w to).testBit k = true) (x y : Nat) :
    (tieW w k to x).testBit y = ((w x).testBit y && !decide ((x = k ∧ y = to) ∨ (x = to ∧ y = k))) := by
  have hca : upd w k (bxor (w k) (pw to)) to = w to := by unfold upd; rw [if_neg hne]
  unfold tieW
  rw [hca]
  simp only [upd]
  by_cases e1 : x = to
  · rw [if_pos e1, testBit_bxor, testBit_pw]
    by_cases e2 : k = y
    · have h3 : (w x).testBit y = true := by rw [e1, ← e2]; exact h2
      have h4 : (w to).testBit y = true := by rw [← e2]; exact h2
      rw [h3, h4]
      simp [e1, e2]
    · subst e1
      simp [e2, show ¬ y = k from fun e => e2 e.symm, hne]
  · rw [if_neg e1]
    by_cases e2 : x = k
    · rw [if_pos e2, testBit_bxor, testBit_pw]
      by_cases e3 : to = y
      · have h3 : (w x).testBit y = true := by rw [e2, ← e3]; exact h1
        have h4 : (w k).testBit y = true := by rw [← e3]; exact h1
        rw [h3, h4]
        simp [e2, e3]
      · subst e2
        simp [e3, show ¬ y = to from fun e => e3 e.symm, e1]
    · rw [if_neg e2]
      simp [e1, e2]
theorem prufer {n : Nat} {l : List ZZ} (hn : n ≤ 9) : ∀ (t : Nat) {w : Nat → Nat} {g : Nat → Bool} {b : List ZZ}, Inv n l w g (t + 2) → ∀ x y,
    tieB ((rdF n (wrF n t w) g b).1 ++ [lastF n (rdF n (wrF n t w) g b).2]) x y = (tieB b x y || (w x).testBit y) := by
  intro t
  induction t with
  | zero =>
    intro w g b h x y
    obtain ⟨k0, a1, a2, _⟩ := h.leaf (by omega)
    obtain ⟨u1, u2, _⟩ := firstF_ok (n := n) (p := fun k => !g k) ⟨k0, a1, by simp [a2]⟩
    obtain ⟨u, hu⟩ : ∃ u, firstF n (fun k => !g k) = u := ⟨_, rfl⟩
    rw [hu] at u1 u2
    simp only [Bool.not_eq_true'] at u2
    have hc := h.cnt
    obtain ⟨y0, b1, b2, b3⟩ := lftN_two u1 u2 (by omega)
    obtain ⟨v1, v2, _⟩ := firstF_ok (n := n) (p := fun k => !updB g u true k) ⟨y0, b1, by simp [updB, b2, b3]⟩
    obtain ⟨v, hv⟩ : ∃ v, firstF n (fun k => !updB g u true k) = v := ⟨_, rfl⟩
    rw [hv] at v1 v2
    simp only [Bool.not_eq_true'] at v2
    have vne : v ≠ u := fun e => by simp [updB, e] at v2
    have vg : g v = false := by simpa [updB, vne] using v2
    have c1 := lftN_clear u1 u2
    have c2 := lftN_clear v1 v2
    have only : ∀ z, z < n → g z = false → z = u ∨ z = v := fun z hz hg => by
      apply Classical.byContradiction
      intro hno
      have hz1 : z ≠ u := fun e => hno (.inl e)
      have hz2 : z ≠ v := fun e => hno (.inr e)
      have c3 := lftN_clear (g := updB (updB g u true) v true) hz (by simp [updB, hz1, hz2, hg])
      omega
    have hbit : ∀ {p q}, (w p).testBit q = true → tieB l p q = true ∧ g p = false ∧ g q = false := fun {p q} hpq => by
      rw [h.bit] at hpq
      simpa [and_assoc] using hpq
    obtain ⟨z, hz⟩ := h.last u1 u2 (by omega)
    obtain ⟨z1, _, z3⟩ := hbit hz
    have zi := h.inn _ _ z1
    have zv : z = v := by
      rcases only z zi.2.1 z3 with e | e
      · exact absurd e.symm zi.2.2
      · exact e
    subst zv
    have hzu : (w z).testBit u = true := by rw [h.bit, tieB_symm, z1, u2, vg]; rfl
    have e0 : rdF n (wrF n 0 w) g b = (b, g) := rfl
    rw [e0]
    simp only [tieB_snoc, lastF, hu, hv]
    congr 1
    rw [Bool.eq_iff_iff]
    simp only [Bool.or_eq_true, Bool.and_eq_true, beq_iff_eq]
    constructor
    · intro h4
      have : (x = u ∧ y = z) ∨ (x = z ∧ y = u) := by omega
      rcases this with ⟨rfl, rfl⟩ | ⟨rfl, rfl⟩
      · exact hz
      · exact hzu
    · intro h4
      obtain ⟨q1, q2, q3⟩ := hbit h4
      obtain ⟨i1, i2, i3⟩ := h.inn _ _ q1
      have := only x i1 q2
      have := only y i2 q3
      omega
  | succ t ih =>
    intro w g b h x y
    obtain ⟨k, to, hk, hto, hne, hgk, hpre, hbk, hI, hwr⟩ := h.next hn
    have hcnt := fun x hx => wrF_count hn (t + 1) h x hx
    have hkt : ∀ y, (w k).testBit y = true ↔ y = to := fun y => by rw [← mem_bitsN (h.lt k), hbk, List.mem_singleton]
    have h1 : (w k).testBit to = true := (hkt to).2 rfl
    have h2 : (w to).testBit k = true := by
      have := h1
      rw [h.bit] at this ⊢
      rw [tieB_symm]
      simp only [Bool.and_eq_true] at this ⊢
      exact ⟨⟨this.1.1, this.2⟩, this.1.2⟩
    rw [hwr] at hcnt ⊢
    have hkin : rdP (to :: wrF n t (tieW w k to)) g k = true := by
      have := hcnt k hk
      rw [hgk, hbk] at this
      simp only [List.length_singleton] at this
      have hc0 : (to :: wrF n t (tieW w k to)).count k = 0 := by simp at this ⊢; omega
      have : k ∉ to :: wrF n t (tieW w k to) := List.count_eq_zero.1 hc0
      unfold rdP
      simp only [hgk, Bool.not_false, Bool.true_and, Bool.not_eq_true']
      exact Bool.eq_false_iff.2 fun hh => this (by simpa using hh)
    obtain ⟨f1, f2, f3⟩ := firstF_ok ⟨k, hk, hkin⟩
    have hf : firstF n (rdP (to :: wrF n t (tieW w k to)) g) = k := by
      generalize firstF n (rdP (to :: wrF n t (tieW w k to)) g) = f at *
      rcases Nat.lt_trichotomy f k with hlt | e | hlt
      · exfalso
        have hl := hpre f hlt
        unfold rdP at f2
        simp only [Bool.and_eq_true, Bool.not_eq_true'] at f2
        have := hcnt f f1
        have hnm : f ∉ to :: wrF n t (tieW w k to) := fun hm => by
          have := f2.2
          rw [List.contains_eq_mem] at this
          simp only [hm, decide_true] at this
          cases this
        rw [f2.1, List.count_eq_zero.2 hnm] at this
        unfold leafB at hl
        rw [← this] at hl
        simp at hl
      · exact e
      · have := f3 k hlt
        rw [hkin] at this; cases this
    have e1 : rdF n (to :: wrF n t (tieW w k to)) g b = rdF n (wrF n t (tieW w k to)) (updB g k true) (b ++ [((k : Int), (to : Int))]) := by
      rw [rdF, hf]
    rw [e1, ih hI x y, tieB_snoc, tieW_off hne h1 h2]
    rw [Bool.eq_iff_iff]
    simp only [Bool.or_eq_true, Bool.and_eq_true, beq_iff_eq, Bool.not_eq_true', decide_eq_false_iff_not]
    constructor
    · rintro ((h3 | h3) | h3)
      · exact .inl h3
      · right
        have : (x = k ∧ y = to) ∨ (x = to ∧ y = k) := by omega
        rcases this with ⟨rfl, rfl⟩ | ⟨rfl, rfl⟩
        · exact h1
        · exact h2
      · exact .inr h3.1
    · rintro (h3 | h3)
      · exact .inl (.inl h3)
      · by_cases hc : (x = k ∧ y = to) ∨ (x = to ∧ y = k)
        · left; right; omega
        · exact .inr ⟨h3, hc⟩
/-- what a tree's list says, read again, is the tree -/
theorem read_write {n : Nat} {l : List ZZ} {w : Nat → Nat} (hn : n ≤ 9) (h1 : 1 ≤ n) (hw : Wd n l w) (ht : Tre n l) (x y : Nat) : tieB (rdAll n (wrF n (n - 2) w)) x y = tieB l x y := by
  have hI := inv_start hn hw ht.errL ht.len ht.conn
  unfold rdAll
  by_cases hn1 : n ≤ 1
  · rw [if_pos hn1]
    cases e : tieB l x y with
    | false => rfl
    | true =>
      have := ht.inn x y e
      omega
  · rw [if_neg hn1, prufer hn (n - 2) (by rw [show n - 2 + 2 = n by omega]; exact hI), ← hw.bit]
    rfl
end Go.Proofs.YtoipleipokpnaaaGreat.Code
end
section
namespace Go.Proofs.YtoipleipokpnaaaGreat.Code
open Go Go.Ab
/-! a list, read and written again -/
def SR (n : Nat) (L : List Nat) (g : Nat → Bool) : List ZZ := (rdF n L g []).1 ++ [lastF n (rdF n L g []).2]
theorem rdF_b {n : Nat} : ∀ (L : List Nat) (g : Nat → Bool) (b : List ZZ), rdF n L g b = (b ++ (rdF n L g []).1, (rdF n L g []).2)
  | [], g, b => by simp [rdF]
  | x :: r, g, b => by
    rw [rdF, rdF, rdF_b r _ (b ++ _), rdF_b r _ ([] ++ _)]
    simp
theorem SR_cons {n x : Nat} {r : List Nat} {g : Nat → Bool} : SR n (x :: r) g = (((firstF n (rdP (x :: r) g) : Nat) : Int), (x : Int)) :: SR n r (updB g (firstF n (rdP (x :: r) g)) true) := by
  unfold SR
  rw [rdF, rdF_b r _ ([] ++ _)]
  simp
theorem RI.bare {n : Nat} {L : List Nat} {g : Nat → Bool} {b : List ZZ} (h : RI n L g b) : RI n L g [] := ⟨h.lt, h.ng, h.cnt, (fun _ hp => by cases hp), fun _ hp => by cases hp⟩
theorem ownC_cons {p : ZZ} {l : List ZZ} {x : Nat} : ownC (p :: l) x = (if p.1 = (x : Int) ∨ p.2 = (x : Int) then 1 else 0) + ownC l x := by
  unfold ownC
  rw [List.filter_cons]
  by_cases h : p.1 = (x : Int) ∨ p.2 = (x : Int)
  · rw [if_pos (by simpa using h), if_pos h, List.length_cons]; omega
  · rw [if_neg (by simpa using h), if_neg h]; omega
structure ST (n : Nat) (L : List Nat) (g : Nat → Bool) (S : List ZZ) : Prop where
  ok : ∀ p ∈ S, okP n p ∧ g p.1.toNat = false ∧ g p.2.toNat = false
  dis : S.Pairwise fun p q => ¬ sameT p q
  len : S.length = L.length + 1
  conn : ∀ u v, u < n → v < n → g u = false → g v = false → Rch (tieB S) u v
  own : ∀ x, x < n → ownC S x = if g x then 0 else L.count x + 1
theorem tieB_cons {p : ZZ} {l : List ZZ} {x y : Nat} : tieB (p :: l) x y = (((p.1 == (x : Int) && p.2 == (y : Int)) || (p.1 == (y : Int) && p.2 == (x : Int))) || tieB l x y) := by simp [tieB]
theorem ST.of {n : Nat} : ∀ {L : List Nat} {g : Nat → Bool}, RI n L g [] → ST n L g (SR n L g)
  | [], g, h => by
    obtain ⟨a, c, e, ha, hc, hne, ga, gc, _, _, _, only⟩ := h.last
    have eS : SR n [] g = [((a : Int), (c : Int))] := by unfold SR; simp [rdF, e]
    rw [eS]
    refine ⟨fun p hp => ?_, by simp, by simp, fun u v hu hv gu gv => ?_, fun x hx => ?_⟩
    · rw [List.mem_singleton] at hp; subst hp
      exact ⟨⟨by simp, by simp, by simp only; omega, by simp only; omega, by simp only; omega⟩, by simpa using ga, by simpa using gc⟩
    · have hac : tieB [((a : Int), (c : Int))] a c = true := by simp [tieB]
      have hca : tieB [((a : Int), (c : Int))] c a = true := by simp [tieB]
      rcases only u hu gu with rfl | rfl <;> rcases only v hv gv with rfl | rfl
      · exact .refl _
      · exact .step (.refl _) hac
      · exact .step (.refl _) hca
      · exact .refl _
    · rw [ownC_cons]
      have e0 : ownC [] x = 0 := rfl
      rw [e0]
      cases gx : g x with
      | true =>
        rw [if_neg]; simp
        rintro (hh | hh)
        · have : x = a := by simp only at hh; omega
          rw [this, ga] at gx; cases gx
        · have : x = c := by simp only at hh; omega
          rw [this, gc] at gx; cases gx
      | false =>
        rw [if_pos]
        · simp
        · rcases only x hx gx with rfl | rfl
          · exact .inl rfl
          · exact .inr rfl
  | x :: r, g, h => by
    obtain ⟨k, ek, hk, hx, hkx, gk, gx, hkm, _, _, hR⟩ := h.step
    have ih := ST.of hR.bare
    rw [SR_cons, ← ek]
    generalize SR n r (updB g k true) = S at *
    have hg : ∀ z, updB g k true z = false ↔ g z = false ∧ z ≠ k := fun z => by
      unfold updB; split
      · rename_i e; simp [e]
      · rename_i e; simp [e]
    have hkx' : tieB (((k : Int), (x : Int)) :: S) k x = true := by rw [tieB_cons]; simp
    have hxk' : tieB (((k : Int), (x : Int)) :: S) x k = true := by rw [tieB_symm]; exact hkx'
    have hup : ∀ {u v}, Rch (tieB S) u v → Rch (tieB (((k : Int), (x : Int)) :: S)) u v := fun {u v} hr => by
      induction hr with
      | refl => exact .refl _
      | step _ hs ih => exact .step ih (by rw [tieB_cons, hs, Bool.or_true])
    have gx' : updB g k true x = false := (hg x).2 ⟨gx, fun e => hkx e.symm⟩
    refine ⟨fun p hp => ?_, ?_, by simp [ih.len], fun u v hu hv gu gv => ?_, fun z hz => ?_⟩
    · rcases List.mem_cons.1 hp with rfl | hp
      · exact ⟨⟨by simp, by simp, by simp only; omega, by simp only; omega, by simp only; omega⟩, by simpa using gk, by simpa using gx⟩
      · obtain ⟨q1, q2, q3⟩ := ih.ok p hp
        exact ⟨q1, ((hg _).1 q2).1, ((hg _).1 q3).1⟩
    · refine List.pairwise_cons.2 ⟨fun q hq hs => ?_, ih.dis⟩
      obtain ⟨q1, q2, q3⟩ := ih.ok q hq
      rcases hs with ⟨s1, s2⟩ | ⟨s1, s2⟩
      · have : q.1.toNat = k := by simp only at s1; omega
        rw [this] at q2
        exact ((hg _).1 q2).2 rfl
      · have : q.2.toNat = k := by simp only at s1; omega
        rw [this] at q3
        exact ((hg _).1 q3).2 rfl
    · by_cases hu1 : u = k
      · by_cases hv1 : v = k
        · rw [hu1, hv1]; exact .refl _
        · rw [hu1]
          exact Rch.trans (.step (.refl _) hkx') (hup (ih.conn x v hx hv gx' ((hg v).2 ⟨gv, hv1⟩)))
      · by_cases hv1 : v = k
        · rw [hv1]
          exact .step (hup (ih.conn u x hu hx ((hg u).2 ⟨gu, hu1⟩) gx')) hxk'
        · exact hup (ih.conn u v hu hv ((hg u).2 ⟨gu, hu1⟩) ((hg v).2 ⟨gv, hv1⟩))
    · rw [ownC_cons, ih.own z hz]
      by_cases hzk : z = k
      · subst hzk
        have e1 : updB g z true z = true := by simp [updB]
        rw [if_pos e1, if_pos (.inl rfl), gk, List.count_eq_zero.2 hkm]
        simp
      · have e1 : updB g k true z = g z := by simp [updB, hzk]
        simp only [e1]
        cases gz : g z with
        | true =>
          have : z ≠ x := fun e => by rw [e, gx] at gz; cases gz
          rw [if_neg (by omega)]; simp
        | false =>
          rw [List.count_cons]
          by_cases hzx : z = x
          · subst hzx
            rw [if_pos (.inr rfl)]; simp; omega
          · have e2 : (x == z) = false := by simp; omega
            rw [if_neg (by omega), e2]; simp
theorem rdAll_tre {n : Nat} {L : List Nat} (h1 : 1 ≤ n) (hn : n ≤ 9) (hlen : L.length = n - 2) (hv : ∀ x ∈ L, x < n) : Tre n (rdAll n L) := by
  unfold rdAll
  by_cases hn1 : n ≤ 1
  · rw [if_pos hn1]
    exact ⟨h1, hn, (fun _ hp => by cases hp), .nil, by simp; omega, fun x hx => by
      obtain rfl : x = 0 := by omega
      exact .refl _⟩
  · rw [if_neg hn1]
    have hS := ST.of (RI.start (by omega) hlen hv)
    exact ⟨h1, hn, fun p hp => (hS.ok p hp).1, hS.dis, by have := hS.len; unfold SR at this; omega, fun x hx => hS.conn 0 x (by omega) hx rfl rfl⟩
theorem write_sr {n : Nat} {l : List ZZ} (hn : n ≤ 9) : ∀ {L : List Nat} {g : Nat → Bool} {w : Nat → Nat}, RI n L g [] → (∀ x y, (w x).testBit y = tieB (SR n L g) x y) → Inv n l w g (L.length + 2) → wrF n L.length w = L
  | [], _, _, _, _, _ => rfl
  | x :: r, g, w, h, hw, hI => by
    have hS := ST.of h
    have hwd : Wd n (SR n (x :: r) g) w := ⟨hI.lt, hw, fun p hp => (hS.ok p hp).1⟩
    have hE : errL n [] (SR n (x :: r) g) = 0 := errL_iff.2 ⟨fun p hp => (hS.ok p hp).1, (fun _ _ _ hq => by cases hq), hS.dis⟩
    have hown := own_bits hn hwd hE
    obtain ⟨k, ek, hk, hx, hkx, gk, gx, hkm, hpre, _, hR⟩ := h.step
    obtain ⟨k', to, hk', hto, hne, gk', hpre', hbk, hI', hwr⟩ := hI.next hn
    have hleaf : ∀ z, z < n → g z = false → (z ∉ x :: r ↔ leafB (w z) = true) := fun z hz gz => by
      unfold leafB
      rw [hown z, hS.own z hz, gz]
      simp only [Bool.false_eq_true, if_false, beq_iff_eq]
      rw [← List.count_eq_zero]
      omega
    have hkk : k' = k := by
      have l1 : leafB (w k') = true := by unfold leafB; rw [hbk]; rfl
      have l2 := (hleaf k' hk' gk').2 l1
      have l3 := (hleaf k hk gk).1 hkm
      rcases Nat.lt_trichotomy k' k with hlt | e | hlt
      · rcases hpre k' hlt with e | e
        · rw [e] at gk'; cases gk'
        · exact absurd e l2
      · exact e
      · rw [hpre' k hlt] at l3; cases l3
    subst hkk
    have hkt : ∀ y, (w k').testBit y = true ↔ y = to := fun y => by rw [← mem_bitsN (hI.lt k'), hbk, List.mem_singleton]
    have hSc : SR n (x :: r) g = ((k' : Int), (x : Int)) :: SR n r (updB g k' true) := by rw [SR_cons, ← ek]
    rw [hSc] at hw
    have htx : x = to := (hkt x).1 (by rw [hw, tieB_cons]; simp)
    subst htx
    have h1 : (w k').testBit x = true := (hkt x).2 rfl
    have h2 : (w x).testBit k' = true := by rw [hw, tieB_symm, ← hw]; exact h1
    have hS' := ST.of hR.bare
    have hno : ∀ u v, tieB (SR n r (updB g k' true)) u v = true → u ≠ k' ∧ v ≠ k' := fun u v ht => by
      rw [tieB_iff] at ht
      rcases ht with e | e
      · obtain ⟨_, q2, q3⟩ := hS'.ok _ e
        simp only [Int.toNat_natCast] at q2 q3
        exact ⟨fun e => by rw [e] at q2; simp [updB] at q2, fun e => by rw [e] at q3; simp [updB] at q3⟩
      · obtain ⟨_, q2, q3⟩ := hS'.ok _ e
        simp only [Int.toNat_natCast] at q2 q3
        exact ⟨fun e => by rw [e] at q3; simp [updB] at q3, fun e => by rw [e] at q2; simp [updB] at q2⟩
    have hw' : ∀ u v, (tieW w k' x u).testBit v = tieB (SR n r (updB g k' true)) u v := fun u v => by
      rw [tieW_off hne h1 h2, hw, tieB_cons, Bool.eq_iff_iff]
      simp only [Bool.or_eq_true, Bool.and_eq_true, beq_iff_eq, Bool.not_eq_true', decide_eq_false_iff_not]
      constructor
      · rintro ⟨h3 | h3, h4⟩
        · exact absurd (by omega) h4
        · exact h3
      · intro h3
        have := hno u v h3
        exact ⟨.inr h3, fun h4 => by omega⟩
    rw [List.length_cons, hwr, write_sr hn hR.bare hw' hI']
/-- what a list says, written again, is the list -/
theorem write_read {n : Nat} {L : List Nat} {w : Nat → Nat} (h1 : 1 ≤ n) (hn : n ≤ 9) (hlen : L.length = n - 2) (hv : ∀ x ∈ L, x < n) (hw : Wd n (rdAll n L) w) : wrF n (n - 2) w = L := by
  by_cases hn1 : n ≤ 1
  · have : L = [] := List.length_eq_zero_iff.1 (by omega)
    rw [this, show n - 2 = 0 by omega]; rfl
  · have ht := rdAll_tre h1 hn hlen hv
    have hI := inv_start hn hw ht.errL ht.len ht.conn
    rw [← hlen]
    refine write_sr hn (RI.start (by omega) hlen hv) (fun x y => ?_) (by rw [hlen, show n - 2 + 2 = n by omega]; exact hI)
    rw [hw.bit]
    unfold rdAll SR
    rw [if_neg hn1]
end Go.Proofs.YtoipleipokpnaaaGreat.Code
end
section
namespace Go.Proofs.YtoipleipokpnaaaGreat.Code
open Go Go.Ab
variable {pure : Bool} {base bar : Nat} {H : Heap} {Q : AV → Heap → Prop}
/-! numbers of lists -/
theorem wrF_ok {n : Nat} {l : List ZZ} (hn : n ≤ 9) : ∀ (t : Nat) {w : Nat → Nat} {g : Nat → Bool}, Inv n l w g (t + 2) → (wrF n t w).length = t ∧ ∀ x ∈ wrF n t w, x < n
  | 0, w, g, h => ⟨rfl, fun x hx => by cases hx⟩
  | t + 1, w, g, h => by
    obtain ⟨k, to, hk, hto, hne, hgk, hpre, hbk, hI, hwr⟩ := h.next hn
    obtain ⟨i1, i2⟩ := wrF_ok hn t hI
    rw [hwr]
    refine ⟨by simp [i1], fun x hx => ?_⟩
    rcases List.mem_cons.1 hx with rfl | hx
    · exact hto
    · exact i2 x hx
theorem wr_ok {n : Nat} {l : List ZZ} {w : Nat → Nat} (ht : Tre n l) (hw : Wd n l w) : (wrF n (n - 2) w).length = n - 2 ∧ ∀ x ∈ wrF n (n - 2) w, x < n := by
  have h1 := ht.one
  by_cases hn1 : n ≤ 1
  · rw [show n - 2 = 0 by omega]
    exact ⟨rfl, fun x hx => by cases hx⟩
  · exact wrF_ok (l := l) (g := fun _ => false) ht.nine (n - 2) (by
      rw [show n - 2 + 2 = n by omega]
      exact inv_start ht.nine hw ht.errL ht.len ht.conn)
/-- a tree has one tie less than knots -/
theorem Tre.full {n : Nat} {l : List ZZ} (h : Tre n l) : l.length + 1 = n := by
  obtain ⟨w, k1, _⟩ := wd_sum h.nine (r := l) Wd.nil h.errL (by simp [bitsN_zero, Sm_zero])
  rw [List.nil_append] at k1
  obtain ⟨a1, a2⟩ := wr_ok h k1
  have hr := rdAll_tre h.one h.nine a1 a2
  have e : tieB (rdAll n (wrF n (n - 2) w)) = tieB l := funext fun x => funext fun y => read_write h.nine h.one k1 h x y
  have l1 := tidyF_length h
  have l2 := tidyF_length hr
  rw [e] at l2
  have h1 := h.one
  have hl := h.len
  have : (rdAll n (wrF n (n - 2) w)).length + 1 = n := by
    unfold rdAll
    by_cases hn1 : n ≤ 1
    · rw [if_pos hn1]; simp; omega
    · rw [if_neg hn1]
      have := (ST.of (RI.start (by omega) a1 a2)).len
      unfold SR at this
      rw [this]; omega
  omega
def nV (m : Nat) (L : List Nat) : Nat := L.foldl (fun a k => a * m + k) 0
theorem nV_from {m : Nat} : ∀ (L : List Nat) (a : Nat), L.foldl (fun a k => a * m + k) a = a * m ^ L.length + nV m L
  | [], a => by simp [nV]
  | x :: r, a => by
    have e1 := nV_from (m := m) r (a * m + x)
    have e2 := nV_from (m := m) r (0 * m + x)
    unfold nV
    rw [List.foldl_cons, List.foldl_cons, e1, e2, List.length_cons, Nat.pow_succ, Nat.add_mul, Nat.zero_mul, Nat.zero_add, ← Nat.add_assoc, Nat.mul_assoc, Nat.mul_comm m]
theorem nV_cons {m x : Nat} {r : List Nat} : nV m (x :: r) = x * m ^ r.length + nV m r := by
  unfold nV
  rw [List.foldl_cons, nV_from]; simp [nV]
theorem nV_lt {m : Nat} : ∀ {L : List Nat}, (∀ x ∈ L, x < m) → nV m L < m ^ L.length
  | [], _ => by simp [nV]
  | x :: r, h => by
    have ih := nV_lt (L := r) fun y hy => h y (List.mem_cons_of_mem _ hy)
    have hx := h x (List.mem_cons_self ..)
    rw [nV_cons, List.length_cons, Nat.pow_succ]
    calc x * m ^ r.length + nV m r < x * m ^ r.length + m ^ r.length := by omega
      _ = (x + 1) * m ^ r.length := by rw [Nat.add_mul, Nat.one_mul]
      _ ≤ m * m ^ r.length := Nat.mul_le_mul_right _ hx
      _ = m ^ r.length * m := Nat.mul_comm ..
theorem dg_nV {m : Nat} : ∀ {L : List Nat}, (∀ x ∈ L, x < m) → dgP m L.length (nV m L) = L
  | [], _ => rfl
  | x :: r, h => by
    have hr : ∀ y ∈ r, y < m := fun y hy => h y (List.mem_cons_of_mem _ hy)
    have ih := dg_nV hr
    have hlt := nV_lt hr
    have hpos : 0 < m ^ r.length := by omega
    rw [List.length_cons, dgP, nV_cons, Nat.mul_comm x, Nat.mul_add_div hpos, Nat.div_eq_of_lt hlt, Nat.mul_add_mod, Nat.mod_eq_of_lt hlt, ih, Nat.add_zero]
theorem nV_dg {m : Nat} (hm : 1 ≤ m) : ∀ {k x : Nat}, x < m ^ k → nV m (dgP m k x) = x ∧ ∀ y ∈ dgP m k x, y < m
  | 0, x, h => ⟨by simp [nV, dgP] at h ⊢; omega, fun y hy => by simp [dgP] at hy⟩
  | k + 1, x, h => by
    have hpos : 0 < m ^ k := Nat.pow_pos hm
    obtain ⟨i1, i2⟩ := nV_dg hm (k := k) (x := x % m ^ k) (Nat.mod_lt _ hpos)
    refine ⟨?_, fun y hy => ?_⟩
    · rw [dgP, nV_cons, i1, dgP_len, Nat.mul_comm]
      exact Nat.div_add_mod ..
    · rw [dgP] at hy
      rcases List.mem_cons.1 hy with rfl | hy
      · exact Nat.div_lt_of_lt_mul (by rw [Nat.pow_succ] at h; exact h)
      · exact i2 y hy
theorem nW_nV {n : Nat} : ∀ (L : List Nat) (a : Nat), (∀ x ∈ L, x < n) → n ≤ 9 → (a + 1) * n ^ L.length ≤ 4782969 * 9 → 1 ≤ n → nW (n : Int) (a : Int) L = ((L.foldl (fun a k => a * n + k) a : Nat) : Int)
  | [], a, _, _, _, _ => rfl
  | x :: r, a, h, hn, hb, h1 => by
    have hx := h x (List.mem_cons_self ..)
    have hpos : 1 ≤ n ^ r.length := Nat.pow_pos h1
    have hb2 : (a * n + x + 1) * n ^ r.length ≤ 4782969 * 9 := by
      have s1 : (a * n + x + 1) * n ^ r.length ≤ (a * n + n) * n ^ r.length := Nat.mul_le_mul_right _ (by omega)
      have s2 : (a * n + n) * n ^ r.length = (a + 1) * n ^ (x :: r).length := by
        rw [List.length_cons, Nat.pow_succ, show a * n + n = (a + 1) * n by rw [Nat.add_mul, Nat.one_mul], Nat.mul_comm (n ^ r.length) n, Nat.mul_assoc]
      omega
    have hsm : a * n + x + 1 ≤ 4782969 * 9 := Nat.le_trans (Nat.le_mul_of_pos_right _ hpos) hb2
    have e1 : IntKind.i64.wrap ((a : Int) * (n : Int)) = ((a * n : Nat) : Int) := by
      rw [← Int.natCast_mul, Go.IntWalk.i64_in _ (by omega)]
    have e2 : IntKind.i64.wrap (((a * n : Nat) : Int) + (x : Int)) = ((a * n + x : Nat) : Int) := by
      rw [← Int.natCast_add, Go.IntWalk.i64_in _ (by omega)]
    unfold nW
    rw [List.foldl_cons, List.foldl_cons, e1, e2]
    exact nW_nV r _ (fun y hy => h y (List.mem_cons_of_mem _ hy)) hn hb2 h1
theorem nW_ok {n : Nat} {L : List Nat} (h1 : 1 ≤ n) (hn : n ≤ 9) (hlen : L.length = n - 2) (hv : ∀ x ∈ L, x < n) : nW (n : Int) 0 L = ((nV n L : Nat) : Int) := by
  have : n ^ (n - 2) ≤ 4782969 := (by decide : ∀ n, n ≤ 9 → n ^ (n - 2) ≤ 4782969) n hn
  exact nW_nV L 0 hv hn (by rw [hlen]; omega) h1
theorem k11 {n : Nat} {q : AV} {l : List ZZ} {w : Nat → Nat} (hq : isP q l) (ht : Tre n l) (hw : Wd n l w) (hbar : bar ≤ H.length) (h : Q (.tup [.int .i64 (nV n (wrF n (n - 2) w) : Nat), .int .i64 0]) H) : WpCall E pure base bar 11 [.agg [.int .i64 (n : Nat), q]] H Q := by
  rw [call11]
  have e0 : frzAll bar H [.agg [.int .i64 (n : Nat), q]] = some ([.agg [.int .i64 (n : Nat), q]], H) := by simp [frzAll, frz.frzs, frzsW, frz_agg, frz_int, hq.frz]
  rw [e0]
  have hb' : (if pure = true then H.length else bar) ≤ H.length := bar_if hbar
  have h9 := ht.nine
  have hl := ht.len
  obtain ⟨a1, a2⟩ := wr_ok ht hw
  simp [go_sem, WpFun, c11, hq.isTup, hq.cells, aload, AV.isTup, AV.cells]
  refine k23 hq (by omega) (by simp; omega) (fun he => absurd ht.errT he) fun m w' u hm _ _ _ hw' hu => ?_
  obtain rfl : n = m := by omega
  obtain rfl := wd_unique hw hw'
  simp [go_sem, hu.len]
  refine l11 hu (by omega) (wrF n (n - 2) w).length 0 (by omega) 0 ?_
  rw [List.drop_zero, nW_ok ht.one h9 a1 a2]
  simp [go_sem]
  exact h
end Go.Proofs.YtoipleipokpnaaaGreat.Code
end
section
namespace Go.Proofs.YtoipleipokpnaaaGreat.Code
open Go Go.Ab
variable {pure : Bool} {base bar : Nat} {H : Heap} {Q : AV → Heap → Prop}
/-! grows -/
theorem ld_list {a : AV} {x : List Nat} (h : isL a x) : aload H ⟨false, 1⟩ (.fp a) = some a := by
  rcases h with ⟨rfl, rfl⟩ | ⟨ex, rfl⟩ <;> rfl
theorem l35 {n : Nat} {sq : AV} {M : Mat} (hs : isSq sq n M) (hn : n ≤ 9) (h1 : 1 ≤ n) {R : PQ} (hr : (∃ a b, a < n ∧ b < n ∧ 100 ≤ M a b) → R .ret [(2, .bool false)] H)
    (he : (∀ a b, a < n → b < n → M a b < 100) → R (.exit 0) [(13, sq), (14, .int .i64 (n : Nat)), (15, .int .i64 (n : Nat)), (16, .bool false)] H) :
    ∀ (k i : Nat), i + k = n → (∀ a b, a < i → b < n → M a b < 100) →
    Wp E base bar (.loop c35_l0) [(13, sq), (14, .int .i64 (n : Nat)), (15, .int .i64 (i : Nat))] H R := by
  intro k
  induction k with
  | zero =>
    intro i hi ha
    obtain rfl : i = n := by omega
    rw [wp_round c35_l0.eq_1]
    simp [go_sem]
    exact he ha
  | succ k ih =>
    intro i hi ha
    have hlt : i < n := by omega
    have hsx := fun (H : Heap) (K : AV → Heap → List Nat → Prop) => hs.ix (H := H) (K := K) (k := .i64) hlt
    have hrl : isL (.lst 1 false (dc n (cRow M i))) ((List.range n).map (M i)) := row_isL
    have hld := fun (H : Heap) => ld_list (H := H) hrl
    rw [wp_round c35_l0.eq_1]
    simp [go_sem, hlt, hsx, hld]
    refine k71x hrl (by simp; omega) (by simp; omega) fun m hm hall => ?_
    obtain ⟨j, hj, rfl⟩ := List.mem_map.1 hm
    rw [List.mem_range] at hj
    by_cases hb : 100 ≤ M i j
    · simp [go_sem, show (100 : Int) ≤ ((M i j : Nat) : Int) by omega]
      exact hr ⟨i, j, hlt, hj, hb⟩
    · simp [go_sem, show ¬ (100 : Int) ≤ ((M i j : Nat) : Int) by omega, i64_suc (show i < 1000000 by omega)]
      refine ih (i + 1) (by omega) fun a b ha' hb' => ?_
      by_cases e : a = i
      · subst e
        have := hall (M a b) (List.mem_map.2 ⟨b, List.mem_range.2 hb', rfl⟩)
        omega
      · exact ha a b (by omega) hb'
theorem grows_iff {n : Nat} {l : List ZZ} (h1 : 1 ≤ n) (hn : n ≤ 9) (hv : ∀ p ∈ l, okP n p) (hd : l.Pairwise fun p q => ¬ sameT p q) : errT n l = 0 ↔ l.length + 1 = n ∧ ∀ a b, a < n → b < n → farF n l a b < 100 := by
  constructor
  · intro he
    have ht := tre_of he
    obtain ⟨D, hD, hDn⟩ := ht.tm
    refine ⟨ht.full, fun a b ha hb => ?_⟩
    rw [farF_tm hD hv (fun x y hx hy => by have := hDn x y hx hy; omega) ha hb]
    have := hDn a b ha hb
    omega
  · rintro ⟨hl, hf⟩
    have ht : Tre n l := ⟨h1, hn, hv, hd, by omega, fun x hx => farF_rch hv (hf 0 x (by omega) hx)⟩
    exact ht.errT
theorem k35 {n : Nat} {q : AV} {l : List ZZ} (hq : isP q l) (hl : l.length < 1000) (h1 : 1 ≤ n) (hn : n ≤ 9) (hv : ∀ p ∈ l, okP n p) (hd : l.Pairwise fun p q => ¬ sameT p q) (hbar : bar ≤ H.length)
    (h : Q (.bool (decide (errT n l = 0))) H) : WpCall E pure base bar 35 [.agg [.int .i64 (n : Nat), q]] H Q := by
  rw [call35]
  have e0 : frzAll bar H [.agg [.int .i64 (n : Nat), q]] = some ([.agg [.int .i64 (n : Nat), q]], H) := by simp [frzAll, frz.frzs, frzsW, frz_agg, frz_int, hq.frz]
  rw [e0]
  have hb' := bar_if (pure := pure) hbar
  have hg := grows_iff h1 hn hv hd
  have hlen := fun (H : Heap) (K : AV → Heap → List Nat → Prop) => hq.len (H := H) (K := K)
  have hw := i64_pred hn
  simp [go_sem, WpFun, c35, hq.isTup, hq.cells, aload, AV.isTup, AV.cells, hlen, hw]
  by_cases hc : (l.length : Int) = (n : Int) - 1
  · have hll : l.length + 1 = n := by omega
    simp [go_sem, hc, aload, Ab.part]
    refine k31 hq hl hn h1 hv (by simp; omega) fun sq hsq => ?_
    have sl := fun (H : Heap) (K : AV → Heap → List Nat → Prop) => hsq.len (H := H) (K := K)
    simp [go_sem, sl]
    refine l35 hsq hn h1 (fun hex => ?_) (fun hall => ?_) n 0 (by omega) (fun a b ha _ => by omega)
    · have : ¬ errT n l = 0 := fun he => by
        obtain ⟨a, b, ha, hb, hab⟩ := hex
        have := (hg.1 he).2 a b ha hb
        omega
      rw [decide_eq_false this] at h
      simp [go_sem]
      exact h
    · have : errT n l = 0 := hg.2 ⟨hll, hall⟩
      rw [decide_eq_true this] at h
      simp [go_sem]
      exact h
  · have : ¬ errT n l = 0 := fun he => by
      have := (hg.1 he).1
      omega
    rw [decide_eq_false this] at h
    simp [go_sem, hc]
    exact h
end Go.Proofs.YtoipleipokpnaaaGreat.Code
end
section
namespace Go.Proofs.YtoipleipokpnaaaGreat.Code
open Go Go.Ab
/-! leaf by leaf -/
theorem lessT_tieD {l : List ZZ} {k x y : Nat} (hdis : l.Pairwise fun p q => ¬ sameT p q) (hk : k < l.length) (hp : l[k] = ((x : Int), (y : Int))) (u v : Nat) : tieB (lessT l k) u v = true ↔ tieB l u v = true ∧ ¬ ((u = x ∧ v = y) ∨ (u = y ∧ v = x)) := by
  have hl := erase_mem hk
  rw [hp] at hl
  have hd := hdis
  rw [hl, List.pairwise_append] at hd
  obtain ⟨_, d2, d3⟩ := hd
  obtain ⟨d4, _⟩ := List.pairwise_cons.1 d2
  have hno : ∀ q ∈ lessT l k, ¬ sameT q ((x : Int), (y : Int)) := fun q hq => by
    unfold lessT at hq
    rcases List.mem_append.1 hq with hq | hq
    · exact d3 q hq _ (List.mem_cons_self ..)
    · exact fun e => d4 q hq e.symm
  have hmem : ∀ q, q ∈ l ↔ q ∈ lessT l k ∨ q = ((x : Int), (y : Int)) := fun q => by
    conv => lhs; rw [hl]
    unfold lessT
    simp only [List.mem_append, List.mem_cons]
    constructor
    · rintro (h | h | h)
      · exact .inl (.inl h)
      · exact .inr h
      · exact .inl (.inr h)
    · rintro ((h | h) | h)
      · exact .inl h
      · exact .inr (.inr h)
      · exact .inr (.inl h)
  rw [tieB_iff, tieB_iff, hmem, hmem]
  constructor
  · intro h
    refine ⟨by rcases h with h | h; exact .inl (.inl h); exact .inr (.inl h), ?_⟩
    rintro (⟨rfl, rfl⟩ | ⟨rfl, rfl⟩)
    · rcases h with h | h
      · exact hno _ h (.inl ⟨rfl, rfl⟩)
      · exact hno _ h (.inr ⟨rfl, rfl⟩)
    · rcases h with h | h
      · exact hno _ h (.inr ⟨rfl, rfl⟩)
      · exact hno _ h (.inl ⟨rfl, rfl⟩)
  · rintro ⟨h, hn⟩
    rcases h with (h | h) | (h | h)
    · exact .inl h
    · injection h with h1 h2
      exact absurd (.inl ⟨by omega, by omega⟩) hn
    · exact .inr h
    · injection h with h1 h2
      exact absurd (.inr ⟨by omega, by omega⟩) hn
def ownI (T : List ZZ) (k : Nat) (i : Nat) : List Nat := (List.range i).filter fun j => match T[j]? with | some p => decide (p.1 = (k : Int)) || decide (p.2 = (k : Int)) | none => false
theorem ownI_suc {T : List ZZ} {k i : Nat} (hi : i < T.length) : ownI T k (i + 1) = ownI T k i ++ (if T[i].1 = (k : Int) ∨ T[i].2 = (k : Int) then [i] else []) := by
  unfold ownI
  rw [List.range_succ, List.filter_append]
  congr 1
  by_cases h : T[i].1 = (k : Int) ∨ T[i].2 = (k : Int)
  · rw [if_pos h]; simp [List.filter_cons, List.getElem?_eq_getElem hi, h]
  · rw [if_neg h]; simp [List.filter_cons, List.getElem?_eq_getElem hi, h]
theorem ownI_len {T : List ZZ} {k : Nat} : ∀ {i : Nat}, i ≤ T.length → (ownI T k i).length = ownC (T.take i) k
  | 0, _ => by simp [ownI, ownC]
  | i + 1, h => by
    have hi : i < T.length := by omega
    rw [ownI_suc hi, List.length_append, ownI_len (by omega), List.take_add_one, List.getElem?_eq_getElem hi]
    unfold ownC
    rw [List.filter_append, List.length_append]
    congr 1
    by_cases hc : T[i].1 = (k : Int) ∨ T[i].2 = (k : Int)
    · rw [if_pos hc]; simp [List.filter_cons, hc]
    · rw [if_neg hc]; simp [List.filter_cons, hc]
theorem ownI_mem {T : List ZZ} {k i : Nat} (h : i ∈ ownI T k T.length) : ∃ hi : i < T.length, T[i].1 = (k : Int) ∨ T[i].2 = (k : Int) := by
  unfold ownI at h
  rw [List.mem_filter, List.mem_range] at h
  refine ⟨h.1, ?_⟩
  have := h.2
  rw [List.getElem?_eq_getElem h.1] at this
  simpa using this
structure PR (n : Nat) (l T : List ZZ) (w : Nat → Nat) (g : Nat → Bool) (t : Nat) : Prop where
  inv : Inv n l w g (t + 2)
  ok : ∀ p ∈ T, okP n p
  dis : T.Pairwise fun p q => ¬ sameT p q
  bit : ∀ x y, (w x).testBit y = tieB T x y
  len : T.length = t + 1
theorem PR.step {n t : Nat} {l T : List ZZ} {w : Nat → Nat} {g : Nat → Bool} (hn : n ≤ 9) (h : PR n l T w g (t + 1)) :
    ∃ k to i, ∃ hi : i < T.length, k < n ∧ to < n ∧ (∀ j, j < k → (ownI T j T.length).length ≠ 1) ∧ ownI T k T.length = [i] ∧ T[i].1 + T[i].2 - (k : Int) = (to : Int) ∧
      PR n l (lessT T i) (tieW w k to) (updB g k true) t ∧ wrF n (t + 1) w = to :: wrF n t (tieW w k to) := by
  obtain ⟨k, to, hk, hto, hne, hgk, hpre, hbk, hI, hwr⟩ := h.inv.next hn
  have hwd : Wd n T w := ⟨h.inv.lt, h.bit, h.ok⟩
  have hE : errL n [] T = 0 := errL_iff.2 ⟨h.ok, (fun _ _ _ hq => by cases hq), h.dis⟩
  have hown := own_bits hn hwd hE
  have hcl : ∀ j, (ownI T j T.length).length = (bitsN (w j)).length := fun j => by rw [hown j, ownI_len (Nat.le_refl _), List.take_length]
  obtain ⟨i, hoi⟩ := List.length_eq_one_iff.1 (show (ownI T k T.length).length = 1 by rw [hcl, hbk]; rfl)
  obtain ⟨hi, hik⟩ := ownI_mem (T := T) (k := k) (i := i) (by rw [hoi]; simp)
  have hkt : ∀ y, (w k).testBit y = true ↔ y = to := fun y => by rw [← mem_bitsN (h.inv.lt k), hbk, List.mem_singleton]
  have h1 : (w k).testBit to = true := (hkt to).2 rfl
  have h2 : (w to).testBit k = true := by rw [h.bit, tieB_symm, ← h.bit]; exact h1
  have hok := h.ok _ (List.getElem_mem hi)
  obtain ⟨⟨c, d⟩, hcd⟩ : ∃ p, T[i] = p := ⟨_, rfl⟩
  rw [hcd] at hok hik
  obtain ⟨g1, g2, g3, g4, g5⟩ := hok
  simp only at g1 g2 g3 g4 g5 hik
  obtain ⟨c, rfl⟩ := Int.eq_ofNat_of_zero_le g1
  obtain ⟨d, rfl⟩ := Int.eq_ofNat_of_zero_le g2
  have htie : tieB T c d = true := tieB_iff.2 (.inl (by rw [← hcd]; exact List.getElem_mem hi))
  have hends : (c = k ∧ d = to) ∨ (c = to ∧ d = k) := by
    rcases hik with e | e
    · have : c = k := by omega
      subst this
      exact .inl ⟨rfl, (hkt d).1 (by rw [h.bit]; exact htie)⟩
    · have : d = k := by omega
      subst this
      exact .inr ⟨(hkt c).1 (by rw [h.bit, tieB_symm]; exact htie), rfl⟩
  have hll := lessT_len hi
  refine ⟨k, to, i, hi, hk, hto, fun j hj => ?_, hoi, ?_, ⟨hI, fun p hp => h.ok p (lessT_sub.subset hp), h.dis.sublist lessT_sub, fun x y => ?_, ?_⟩, hwr t⟩
  · have := hpre j hj
    unfold leafB at this
    rw [hcl]
    simpa using this
  · rw [hcd]; simp only; omega
  · rw [tieW_off hne h1 h2, h.bit, Bool.eq_iff_iff, lessT_tieD h.dis hi hcd]
    simp only [Bool.and_eq_true, Bool.not_eq_true', decide_eq_false_iff_not]
    constructor
    · rintro ⟨q1, q2⟩
      exact ⟨q1, fun q3 => q2 (by omega)⟩
    · rintro ⟨q1, q2⟩
      exact ⟨q1, fun q3 => q2 (by omega)⟩
  · have := h.len
    omega
theorem PR.start {n : Nat} {l : List ZZ} {w : Nat → Nat} (ht : Tre n l) (hw : Wd n l w) (h2 : 2 ≤ n) : PR n l l w (fun _ => false) (n - 2) := by
  have := inv_start ht.nine hw ht.errL ht.len ht.conn
  refine ⟨by rw [show n - 2 + 2 = n by omega]; exact this, ht.ok, ht.dis, hw.bit, ?_⟩
  have := ht.full
  omega
end Go.Proofs.YtoipleipokpnaaaGreat.Code
end
section
namespace Go.Proofs.YtoipleipokpnaaaGreat.Code
open Go Go.Ab
variable {pure : Bool} {base bar : Nat} {H : Heap} {Q : AV → Heap → Prop} {K : AV → Heap → List Nat → Prop}
/-! a tie taken out in place -/
theorem setCells_at {l m n r : List AV} (h : m.length = n.length) : setCells (l ++ m ++ r) l.length n = l ++ n ++ r := by
  induction n generalizing l m with
  | nil => 
    obtain rfl : m = [] := List.length_eq_zero_iff.1 (by simpa using h)
    simp [setCells]
  | cons x n ih =>
    obtain ⟨y, m, rfl⟩ : ∃ y m', m = y :: m' := by
      cases m with
      | nil => simp at h
      | cons y m => exact ⟨y, m, rfl⟩
    have := ih (l := l ++ [x]) (m := m) (by simpa using h)
    simp only [setCells]
    rw [show (l ++ y :: m ++ r).set l.length x = l ++ [x] ++ m ++ r by simp [List.set_append]]
    simpa using this
theorem cut_app {T : List ZZ} {Z : List AV} {i : Nat} (hi : i < T.length) : (prs T ++ Z).drop ((i + 1) * 2) = prs (T.drop (i + 1)) ++ Z := by
  have hpl : (prs T).length = 2 * T.length := prs_length
  rw [List.drop_append_of_le_length (by omega), Nat.mul_comm, prs_drop]
theorem del_cells {T : List ZZ} {Z : List AV} {i : Nat} (hi : i < T.length) : ∃ Z2, setCells (prs T ++ Z) (i * 2) (prs (T.drop (i + 1))) = prs (lessT T i) ++ Z2 ∧ Z2.length = 2 + Z.length := by
  have h1 : (prs (T.take i)).length = i * 2 := by rw [prs_length, List.length_take]; omega
  have e1 : prs T = prs (T.take i) ++ prs (T.drop i) := by rw [← prs_append, List.take_append_drop]
  have hlen : (prs (T.drop (i + 1))).length = 2 * (T.length - (i + 1)) := by rw [prs_length, List.length_drop]
  have hlen2 : (prs (T.drop i)).length = 2 * (T.length - i) := by rw [prs_length, List.length_drop]
  refine ⟨(prs (T.drop i) ++ Z).drop (prs (T.drop (i + 1))).length, ?_, by rw [List.length_drop, List.length_append, hlen, hlen2]; omega⟩
  have := setCells_at (l := prs (T.take i)) (m := (prs (T.drop i) ++ Z).take (prs (T.drop (i + 1))).length) (n := prs (T.drop (i + 1))) (r := (prs (T.drop i) ++ Z).drop (prs (T.drop (i + 1))).length) (by
    rw [List.length_take, List.length_append, hlen, hlen2]; omega)
  rw [h1, List.append_assoc, List.take_append_drop, ← List.append_assoc, ← e1] at this
  rw [this, lessT, prs_append]
theorem clr_cells {L : List ZZ} {Z2 : List AV} (h : 2 ≤ Z2.length) : ∃ Z3, setCells (prs L ++ Z2) (L.length * 2) [.int .i64 0, .int .i64 0] = prs L ++ Z3 := by
  refine ⟨[.int .i64 0, .int .i64 0] ++ Z2.drop 2, ?_⟩
  have := setCells_at (l := prs L) (m := Z2.take 2) (n := [.int .i64 0, .int .i64 0]) (r := Z2.drop 2) (by rw [List.length_take]; simp; omega)
  rw [prs_length, Nat.mul_comm, List.append_assoc, List.take_append_drop] at this
  rw [this, List.append_assoc]
theorem k72 {id ver i m : Nat} {T : List ZZ} {Z : List AV} (h : H[id]? = some (.row ver (prs T ++ Z) 0 false)) (hm : T.length = m) (hi : i < m) (hm9 : m < 1000) (hb : bar ≤ id)
    (k : ∀ Z', Q (.vec id ver 0 (m - 1) 2) (H.set id (.row ver (prs (lessT T i) ++ Z') 0 false))) : WpCall E false base bar 72 [.vec id ver 0 m 2, .int .i64 (i : Nat), .int .i64 ((i + 1 : Nat) : Int)] H Q := by
  have hid := (List.getElem?_eq_some_iff.1 h).1
  have hpl : (prs T).length = 2 * m := by rw [prs_length, hm]
  rw [call72]
  have f1 : m ≤ ((prs T).length + Z.length) / 2 := by omega
  have f2 : (0 : Int) ≤ (i : Int) + 1 := by omega
  have f3 : i + 1 ≤ m := hi
  have f4 : i ≤ ((prs T).length + Z.length) / 2 := by omega
  have f5 : ¬ (i : Int) = (i : Int) + 1 := by omega
  have f6 : i ≤ m := by omega
  have f7 : i ≤ i + 1 := by omega
  by_cases hlast : i + 1 < m
  · have f8 : m * 2 < (prs T).length + Z.length ∨ i + 1 < m := .inr hlast
    simp [go_sem, WpFun, c72, aop, Opd.ev, Opd.evo, aslice, optBound, bound1, AV.asNat, h, f1, f2, f3, f4, f5, f6, f7, hlast, appWp, asrc]
    have hnews : List.take ((m - (i + 1)) * 2) (List.drop ((i + 1) * 2) (prs T ++ Z)) = prs (T.drop (i + 1)) := by
      rw [cut_app (by omega), List.take_append_of_le_length (by rw [prs_length, List.length_drop]; omega), List.take_of_length_le (by rw [prs_length, List.length_drop]; omega)]
    have hz : ∀ d b, frzsW (frz (d + 2) b) H (prs (T.drop (i + 1))) = some (prs (T.drop (i + 1)), H) := fun d b => plains prs_plain
    have hnl : (prs (T.drop (i + 1))).length = (m - (i + 1)) * 2 := by rw [prs_length, List.length_drop]; omega
    have hne : prs (T.drop (i + 1)) ≠ [] := prs_ne fun e => by
      have := congrArg List.length e
      rw [List.length_drop] at this
      simp at this; omega
    have hd2 : 2 ∣ (m - (i + 1)) * 2 := ⟨m - (i + 1), Nat.mul_comm ..⟩
    obtain ⟨Z2, c1, c2⟩ := del_cells (Z := Z) (show i < T.length by omega)
    obtain ⟨Z3, c3⟩ := clr_cells (L := lessT T i) (Z2 := Z2) (by omega)
    have hll := lessT_len (show i < T.length by omega)
    have hk := k Z3
    have tz : AV.top.tops (prs (T.drop (i + 1))) = 0 := tops_prs
    have g1 : (i + 1) * 2 + (m - (i + 1)) * 2 ≤ (prs T).length + Z.length := by omega
    have hdv : (prs (T.drop (i + 1))).length / 2 = m - (i + 1) := by omega
    have hie : ((prs (T.drop (i + 1))).isEmpty) = false := by simpa using hne
    have q1 : ¬ (140737488355328 < (i + (m - (i + 1))) * 16) := by omega
    have q2 : ¬ ((prs T ++ Z).length < 0 + i * 2) := by rw [List.length_append]; omega
    have q3 : 0 + (i + (m - (i + 1))) * 2 ≤ (prs T ++ Z).length := by rw [List.length_append]; omega
    have q4 : i + (m - (i + 1)) = m - 1 := by omega
    have ha : aappend base bar H 2 16 (.vec id ver 0 i 2) (prs (T.drop (i + 1))) = some (.vec id ver 0 (m - 1) 2, H.set id (.row ver (prs (lessT T i) ++ Z2) 0 false), [id]) := by
      rw [← q4, ← c1]
      simp only [aappend, h, hdv, hie, ne_eq, not_true_eq_false, if_false, false_or, q1, q2, q3, tz]
      simp [hb]
    rw [if_pos g1, hnews]
    simp only [hz, hnl, hd2, ha, true_and]
    have hls : (lessT T i).length = m - 1 := by omega
    have hC : (prs (lessT T i) ++ Z2).length = (m - 1) * 2 + Z2.length := by rw [List.length_append, prs_length, hls]; omega
    have hg : ∀ b, (H.set id b)[id]? = some b := fun b => List.getElem?_set_self hid
    rw [hls] at c3
    have r1 : m ≤ ((m - 1) * 2 + Z2.length) / 2 := by omega
    have r2 : m - 1 ≤ m := by omega
    have r3 : m * 2 < (m - 1) * 2 + Z2.length ∨ m - 1 = 0 ∨ m - 1 < m := by omega
    have r4 : m - (m - 1) = 1 := by omega
    have r5 : (m - 1) * 2 + 2 ≤ (m - 1) * 2 + Z2.length := by omega
    generalize prs (lessT T i) ++ Z2 = C at *
    simp [go_sem, aop, Opd.ev, Opd.evo, aslice, optBound, bound1, AV.asNat, hg, hC, r1, r2, r3, r4, r5, hb, c3, List.set_set, AV.top.tops, AV.top, hid]
    exact hk
  · obtain rfl : m = i + 1 := by omega
    have hl0 : lessT T i = T.take i := by
      unfold lessT
      rw [List.drop_of_length_le (by omega), List.append_nil]
    have eC : prs T ++ Z = prs (lessT T i) ++ (prs (T.drop i) ++ Z) := by
      rw [hl0, ← List.append_assoc, ← prs_append, List.take_append_drop]
    have hdl : (prs (T.drop i)).length = 2 := by rw [prs_length, List.length_drop]; omega
    obtain ⟨Z3, c3⟩ := clr_cells (L := lessT T i) (Z2 := prs (T.drop i) ++ Z) (by rw [List.length_append]; omega)
    have hls : (lessT T i).length = i := by rw [hl0, List.length_take]; omega
    rw [← eC, hls] at c3
    have hk := k Z3
    have q1 : ¬ (140737488355328 < i * 16) := by omega
    have q2 : ¬ ((prs T).length + Z.length < i * 2) := by omega
    have r1 : i + 1 ≤ ((prs T).length + Z.length) / 2 := by omega
    have r3 : (i + 1) * 2 < (prs T).length + Z.length ∨ i = 0 ∨ i < i + 1 := by omega
    have r5 : i * 2 + 2 ≤ (prs T).length + Z.length := by omega
    have n0 : AV.noVec.noVecs [] = true := rfl
    simp only [setCells] at c3
    by_cases hZ : (i + 1) * 2 < (prs T).length + Z.length
    · have q6 : (i + 1) * 2 ≤ (prs T).length + Z.length := by omega
      simp [go_sem, WpFun, c72, aop, Opd.ev, Opd.evo, aslice, optBound, bound1, AV.asNat, h, f1, f2, f3, f4, f5, f7, hZ, appWp, asrc, frzsW, aappend, q1, q2, q6, n0]
      rw [if_pos ⟨r5, hb⟩, c3]
      simp [go_sem]
      exact hk
    · simp [go_sem, WpFun, c72, aop, Opd.ev, Opd.evo, aslice, optBound, bound1, AV.asNat, h, f1, f2, f3, f4, f5, f7, hZ, appWp, asrc, frzsW, aappend, q1, q2, n0]
      rw [if_pos ⟨r5, hb⟩, c3]
      simp [go_sem]
      exact hk
end Go.Proofs.YtoipleipokpnaaaGreat.Code
end
section
namespace Go.Proofs.YtoipleipokpnaaaGreat.Code
open Go Go.Ab
variable {pure : Bool} {base bar : Nat} {H : Heap} {Q : AV → Heap → Prop} {K : AV → Heap → List Nat → Prop}
/-! three lists at once -/
def V3 (k0 : Nat) (T : List ZZ) (v : AV) (H : Heap) : Prop := ∃ id ver Z, k0 ≤ id ∧ v = .vec id ver 0 T.length 2 ∧ H[id]? = some (.row ver (prs T ++ Z) 0 false)
structure W6 (k0 : Nat) (T : List ZZ) (out own : List Nat) (v3 v4 v6 : AV) (H0 H : Heap) : Prop where
  three : V3 k0 T v3 H
  four : Own k0 1 (nats out) v4 H
  six : Own k0 1 (nats own) v6 H
  n34 : ∀ j, idOf v4 = some j → idOf v3 ≠ some j
  n36 : ∀ j, idOf v6 = some j → idOf v3 ≠ some j
  n46 : ∀ j, idOf v6 = some j → idOf v4 ≠ some j
  low : ∀ j, j < k0 → H[j]? = H0[j]?
  len : k0 ≤ H.length
theorem V3.keep {k0 : Nat} {T : List ZZ} {v : AV} {H' : Heap} (g : V3 k0 T v H) (h : ∀ j, j < H.length → idOf v = some j → H'[j]? = H[j]?) : V3 k0 T v H' := by
  obtain ⟨id, ver, Z, h1, h2, h3⟩ := g
  exact ⟨id, ver, Z, h1, h2, by rw [h id (List.getElem?_eq_some_iff.1 h3).1 (by rw [h2]; rfl), h3]⟩
theorem V3.lt {k0 j : Nat} {T : List ZZ} {v : AV} (g : V3 k0 T v H) (h : idOf v = some j) : k0 ≤ j ∧ j < H.length := by
  obtain ⟨id, ver, Z, h1, h2, h3⟩ := g
  rw [h2] at h
  cases h
  exact ⟨h1, (List.getElem?_eq_some_iff.1 h3).1⟩
theorem W6.more {k0 : Nat} {T : List ZZ} {out own : List Nat} {v3 v4 v6 : AV} {H0 G : Heap} (g : W6 k0 T out own v3 v4 v6 H0 H) : W6 k0 T out own v3 v4 v6 H0 (H ++ G) := by
  have ha : ∀ j, j < H.length → (H ++ G)[j]? = H[j]? := fun j hj => List.getElem?_append_left hj
  exact ⟨g.three.keep fun j hj _ => ha j hj, g.four.mono fun j hj => ha j (g.four.lt hj).2, g.six.mono fun j hj => ha j (g.six.lt hj).2, g.n34, g.n36, g.n46, fun j hj => by
    rw [ha j (by have := g.len; omega), g.low j hj], by rw [List.length_append]; have := g.len; omega⟩
theorem W6.app6 {k0 x : Nat} {T : List ZZ} {out own : List Nat} {v3 v4 v6 : AV} {H0 : Heap} {ex : Bool} (g : W6 k0 T out own v3 v4 v6 H0 H) (hb : bar ≤ k0) (hbase : base ≤ k0) (hl : own.length < 1000)
    (h : ∀ v' H' tc, W6 k0 T out (own ++ [x]) v3 v4 v' H0 H' → H.length ≤ H'.length → K v' H' tc) : appWp base bar 1 8 (some v6) (some (.lst 1 ex [.int .i64 (x : Nat)])) H K := by
  refine g.six.app g.len (by omega) (Nat.one_dvd _) (fun c hc => by simp [AV.cells] at hc; rw [hc]; exact Plain.int) (by simp [AV.cells, AV.noVec, AV.noVec.noVecs]) (Nat.one_dvd _) hb hbase (by simp [nats, AV.cells]; omega) fun v' H' tc g' kp => ?_
  refine h v' H' tc ⟨g.three.keep fun j hj hid => kp.same j hj fun e => g.n36 j e hid, g.four.mono fun j hj => kp.same j (g.four.lt hj).2 fun e => g.n46 j e hj, by simpa [nats, AV.cells] using g', g.n34, fun j hj hid => ?_, fun j hj hid => ?_, fun j hj => ?_, by have := g.len; have := kp.len; omega⟩ kp.len
  · rcases kp.id j hj with e | e
    · exact g.n36 j e hid
    · have := (g.three.lt hid).2; omega
  · rcases kp.id j hj with e | e
    · exact g.n46 j e hid
    · have := (g.four.lt hid).2; omega
  · rw [kp.same j (by have := g.len; omega) fun e => by have := (g.six.lt e).1; omega, g.low j hj]
theorem W6.app4 {k0 x : Nat} {T : List ZZ} {out own : List Nat} {v3 v4 v6 : AV} {H0 : Heap} {ex : Bool} (g : W6 k0 T out own v3 v4 v6 H0 H) (hb : bar ≤ k0) (hbase : base ≤ k0) (hl : out.length < 1000)
    (h : ∀ v' H' tc, W6 k0 T (out ++ [x]) own v3 v' v6 H0 H' → H.length ≤ H'.length → K v' H' tc) : appWp base bar 1 8 (some v4) (some (.lst 1 ex [.int .i64 (x : Nat)])) H K := by
  refine g.four.app g.len (by omega) (Nat.one_dvd _) (fun c hc => by simp [AV.cells] at hc; rw [hc]; exact Plain.int) (by simp [AV.cells, AV.noVec, AV.noVec.noVecs]) (Nat.one_dvd _) hb hbase (by simp [nats, AV.cells]; omega) fun v' H' tc g' kp => ?_
  refine h v' H' tc ⟨g.three.keep fun j hj hid => kp.same j hj fun e => g.n34 j e hid, by simpa [nats, AV.cells] using g', g.six.mono fun j hj => kp.same j (g.six.lt hj).2 fun e => g.n46 j hj e, fun j hj hid => ?_, g.n36, fun j hj hid => ?_, fun j hj => ?_, by have := g.len; have := kp.len; omega⟩ kp.len
  · rcases kp.id j hj with e | e
    · exact g.n34 j e hid
    · have := (g.three.lt hid).2; omega
  · rcases kp.id j hid with e | e
    · exact g.n46 j hj e
    · have := (g.six.lt hj).2; omega
  · rw [kp.same j (by have := g.len; omega) fun e => by have := (g.four.lt e).1; omega, g.low j hj]
theorem part_app {T : List ZZ} {Z : List AV} {i : Nat} (hi : i < T.length) : Ab.part ⟨true, 2⟩ (prs T ++ Z) (2 * i) = some (.agg (zc T[i])) := by
  have := prs_part hi
  have hpl : (prs T).length = 2 * T.length := prs_length
  unfold Ab.part at this ⊢
  simp only at this ⊢
  have c1 : 2 * i + 2 ≤ (prs T).length := by omega
  have c2 : 2 * i + 2 ≤ (prs T ++ Z).length := by rw [List.length_append]; omega
  rw [if_pos c1] at this
  rw [if_pos c2, List.drop_append_of_le_length (by omega), List.take_append_of_le_length (by rw [List.length_drop]; omega)]
  exact this
theorem l36a {k0 n j : Nat} {T : List ZZ} {out : List Nat} {v1 v3 v4 : AV} {H0 : Heap} (hT : T.length < 1000) (hb : bar ≤ k0) (hbase : base ≤ k0) {R : PQ} : ∀ (k i : Nat), i + k = T.length → ∀ (v6 : AV) (H : Heap), W6 k0 T out (ownI T j i) v3 v4 v6 H0 H →
    (∀ v6' H', W6 k0 T out (ownI T j T.length) v3 v4 v6' H0 H' → R (.exit 4) [(1, v1), (3, v3), (4, v4), (17, .int .i64 (n : Nat)), (18, .int .i64 (j : Nat)), (5, .int .i64 (j : Nat)), (6, v6'), (21, v3), (22, .int .i64 (T.length : Nat)), (23, .int .i64 (T.length : Nat)), (24, .bool false)] H') →
    Wp E base bar (.loop c36_l0) [(1, v1), (3, v3), (4, v4), (17, .int .i64 (n : Nat)), (18, .int .i64 (j : Nat)), (5, .int .i64 (j : Nat)), (6, v6), (21, v3), (22, .int .i64 (T.length : Nat)), (23, .int .i64 (i : Nat))] H R := by
  intro k
  induction k with
  | zero =>
    intro i hi v6 H g h
    obtain rfl : i = T.length := by omega
    rw [wp_round c36_l0.eq_1]
    simp [go_sem]
    exact h v6 H g
  | succ k ih =>
    intro i hi v6 H g h
    have hlt : i < T.length := by omega
    have hnext := ih (i + 1) (by omega)
    rw [ownI_suc hlt] at hnext
    obtain ⟨⟨a, b⟩, hp⟩ : ∃ p, T[i] = p := ⟨_, rfl⟩
    have hpt := fun Z => part_app (Z := Z) hlt
    rw [hp] at hnext hpt
    obtain ⟨id, ver, Z, t1, t2, t3⟩ := g.three
    have hbH : bar ≤ H.length := by have := g.len; omega
    have hal : ∀ G, aload (H ++ G) ⟨true, 2⟩ (.ptr id ver (i * 2)) = some (.agg (zc (a, b))) := fun G => by
      rw [aload_ptr (by rw [List.getElem?_append_left (List.getElem?_eq_some_iff.1 t3).1]; exact t3), Nat.mul_comm]; exact hpt Z
    have hal0 : aload H ⟨true, 2⟩ (.ptr id ver (i * 2)) = some (.agg (zc (a, b))) := by rw [aload_ptr t3, Nat.mul_comm]; exact hpt Z
    have hw := i64_suc (show i < 1000000 by omega)
    have hml := ownI_len (T := T) (k := j) (i := i) (by omega)
    have hol : (ownI T j i).length < 1000 := by
      unfold ownI
      exact Nat.lt_of_le_of_lt (List.length_filter_le _ _) (by simp; omega)
    rw [wp_round c36_l0.eq_1]
    have key : ∀ (hc : a = (j : Int) ∨ b = (j : Int)) (K : AV → Heap → List Nat → Prop), (∀ v' H' tc, W6 k0 T out (ownI T j i ++ [i]) v3 v4 v' H0 H' → K v' H' tc) → appWp base bar 1 8 (some v6) (some (.lst 1 true [.int .i64 (i : Nat)])) (H ++ [.row 0 [.int .i64 a, .int .i64 b] 0 true]) K := fun hc K hK =>
      g.more.app6 hb hbase hol fun v' H' tc g' _ => hK v' H' tc g'
    have mo := g.more (G := [.row 0 [.int .i64 a, .int .i64 b] 0 true])
    by_cases h1 : a = (j : Int)
    · rw [if_pos (.inl h1)] at hnext
      simp [go_sem, hlt, t2, hal0, zc]
      simp [go_sem, zc, storeWp, astore, AV.isTup, AV.cells, setCells, hbH, aload, h1, aop, evs, Opd.ev, fillA, chunks]
      rw [← t2]
      have := key (.inl h1)
      rw [h1] at this
      refine this _ fun v' H' tc g' => ?_
      simp [go_sem, hw]
      exact hnext v' H' g' h
    · by_cases h2 : b = (j : Int)
      · rw [if_pos (.inr h2)] at hnext
        simp [go_sem, hlt, t2, hal0, zc]
        simp [go_sem, zc, storeWp, astore, AV.isTup, AV.cells, setCells, hbH, aload, h1, h2, aop, evs, Opd.ev, fillA, chunks]
        rw [← t2]
        have := key (.inr h2)
        rw [h2] at this
        refine this _ fun v' H' tc g' => ?_
        simp [go_sem, hw]
        exact hnext v' H' g' h
      · rw [if_neg (by simp only; rintro (e | e); exact h1 e; exact h2 e), List.append_nil] at hnext
        simp [go_sem, hlt, t2, hal0, zc]
        simp [go_sem, zc, storeWp, astore, AV.isTup, AV.cells, setCells, hbH, aload, h1, h2, aop, evs, Opd.ev, fillA, chunks, hw]
        rw [← t2]
        exact hnext v6 _ mo h
end Go.Proofs.YtoipleipokpnaaaGreat.Code
end
section
namespace Go.Proofs.YtoipleipokpnaaaGreat.Code
open Go Go.Ab
variable {pure : Bool} {base bar : Nat} {H : Heap} {Q : AV → Heap → Prop} {K : AV → Heap → List Nat → Prop}
theorem W6.bare {k0 : Nat} {T : List ZZ} {out own : List Nat} {v3 v4 v6 : AV} {H0 : Heap} (g : W6 k0 T out own v3 v4 v6 H0 H) : W6 k0 T out [] v3 v4 .nils H0 H :=
  ⟨g.three, g.four, .inl ⟨rfl, rfl⟩, g.n34, (fun _ e => by cases e), (fun _ e => by cases e), g.low, g.len⟩
theorem own_len {k0 : Nat} {l : List Nat} {v : AV} (g : Own k0 1 (nats l) v H) : lenWp (some v) H K = K (.int .i64 (l.length : Nat)) H [] := by
  rcases g with ⟨e, rfl⟩ | ⟨id, ver, fz, h1, h2, h3, rfl, h4⟩
  · rw [nats_eq_nil.1 e]; rfl
  · rw [nats_length, Nat.div_one]; rfl
theorem l36b {k0 n k to i : Nat} {T : List ZZ} {out : List Nat} {v1 v3 v4 : AV} {H0 : Heap} (hT : T.length < 1000) (ho : out.length < 1000) (hn : n ≤ 9) (hok : ∀ p ∈ T, okP n p) (hb : bar ≤ k0) (hbase : base ≤ k0)
    (hi : i < T.length) (hk : k < n) (hpre : ∀ j, j < k → (ownI T j T.length).length ≠ 1) (hoi : ownI T k T.length = [i]) (hto : T[i].1 + T[i].2 - (k : Int) = (to : Int)) {R : PQ}
    (h : ∀ v3' v4' H', W6 k0 (lessT T i) (out ++ [to]) [] v3' v4' .nils H0 H' → R (.exit 2) [(1, v1), (3, v3'), (4, v4')] H') :
    ∀ (d j : Nat), j + d = k → ∀ H, W6 k0 T out [] v3 v4 .nils H0 H → Wp E base bar (.loop c36_l1) [(1, v1), (3, v3), (4, v4), (17, .int .i64 (n : Nat)), (18, .int .i64 (j : Nat))] H R := by
  intro d
  induction d with
  | zero =>
    intro j hj H g
    obtain rfl : j = k := by omega
    obtain ⟨id, ver, Z, t1, t2, t3⟩ := g.three
    rw [wp_round c36_l1.eq_1]
    simp [go_sem, hk, t2]
    rw [← t2]
    refine l36a hT hb hbase T.length 0 (by omega) .nils H (by simpa [ownI] using g) fun v6 H1 g1 => ?_
    rw [hoi] at g1
    have hl6 := fun (K : AV → Heap → List Nat → Prop) => own_len (K := K) g1.six
    obtain ⟨id1, ver1, Z1, s1, s2, s3⟩ := g1.three
    rcases g1.six with ⟨e, _⟩ | ⟨id6, ver6, fz6, u1, u2, u3, u4, u5⟩
    · simp [nats] at e
    · have hdv : (nats [i]).length / 1 = 1 := by simp [nats]
      rw [hdv] at u4
      rw [u4] at g1 hl6
      subst u4
      obtain ⟨⟨a, b⟩, hp⟩ : ∃ p, T[i] = p := ⟨_, rfl⟩
      have hokp := hok _ (List.getElem_mem hi)
      have hpt := fun Z => part_app (Z := Z) hi
      rw [hp] at hto hokp hpt
      obtain ⟨g1', g2', g3', g4', _⟩ := hokp
      simp only at g1' g2' g3' g4' hto
      have hal : aload H1 ⟨true, 2⟩ (.ptr id1 ver1 (i * 2)) = some (.agg (zc (a, b))) := by rw [aload_ptr s3, Nat.mul_comm]; exact hpt Z1
      have hal6 : aload H1 ⟨false, 1⟩ (.ptr id6 ver6 0) = some (.int .i64 (i : Nat)) := by rw [aload_ptr u5]; simp [Ab.part, nats]
      have hbH : bar ≤ H1.length := by have := g1.len; omega
      have w1 : IntKind.i64.wrap (a + b) = a + b := Go.IntWalk.i64_in _ (by omega)
      have w2 : IntKind.i64.wrap (a + b - (j : Int)) = (to : Int) := by rw [hto]; exact Go.IntWalk.i64_in _ (by omega)
      have w3 := i64_suc (show i < 1000000 by omega)
      simp [go_sem, hl6, s2, hal6, hal, hi, zc]
      simp [go_sem, zc, storeWp, astore, AV.isTup, AV.cells, setCells, hbH, aload, aop, evs, Opd.ev, fillA, chunks, w1, w2]
      rw [← s2]
      refine (g1.more (G := [.row 0 [.int .i64 a, .int .i64 b] 0 true])).app4 hb hbase ho fun v4' H2 tc g2 hl2 => ?_
      obtain ⟨id2, ver2, Z2, p1, p2, p3⟩ := g2.three
      have e12 := p2
      rw [s2] at e12
      injection e12 with e1 e2
      subst e1 e2
      rcases g2.six with ⟨e, _⟩ | ⟨id6', ver6', fz6', q1, q2, q3, q4, q5⟩
      · simp [nats] at e
      · rw [hdv] at q4
        injection q4 with e1 e2
        subst e1 e2
        have hal6' : aload H2 ⟨false, 1⟩ (.ptr id6 ver6 0) = some (.int .i64 (i : Nat)) := by rw [aload_ptr q5]; simp [Ab.part, nats]
        simp [go_sem, s2, hal6', w3]
        refine k72 (T := T) (i := i) p3 rfl hi hT (by omega) fun Z' => ?_
        simp [go_sem]
        have hll := lessT_len hi
        have h3 : idOf (AV.vec id1 ver1 0 T.length 2) = some id1 := rfl
        have hidl := (List.getElem?_eq_some_iff.1 p3).1
        refine h _ _ _ ⟨⟨id1, ver1, Z', p1, by rw [show T.length - 1 = (lessT T i).length by omega], List.getElem?_set_self hidl⟩, g2.four.mono fun j' hj' => ?_, .inl ⟨rfl, rfl⟩, fun j' hj' e => ?_, (fun _ e => by cases e), (fun _ e => by cases e), fun j' hj' => ?_, by rw [List.length_set]; exact g2.len⟩
        · have := g2.n34 j' hj'
          rw [s2, h3] at this
          rw [List.getElem?_set_ne (fun e => this (by rw [e]))]
        · have h4 : idOf (AV.vec id1 ver1 0 (T.length - 1) 2) = some id1 := rfl
          rw [h4] at e
          exact g2.n34 j' hj' (by rw [s2, h3, e])
        · rw [List.getElem?_set_ne (by omega), g2.low j' hj']
  | succ d ih =>
    intro j hj H g
    have hjk : j < k := by omega
    have hjn : j < n := by omega
    obtain ⟨id, ver, Z, t1, t2, t3⟩ := g.three
    have hw := i64_suc (show j < 1000000 by omega)
    rw [wp_round c36_l1.eq_1]
    simp [go_sem, hjn, t2]
    rw [← t2]
    refine l36a hT hb hbase T.length 0 (by omega) .nils H (by simpa [ownI] using g) fun v6 H1 g1 => ?_
    have hl6 := fun (K : AV → Heap → List Nat → Prop) => own_len (K := K) g1.six
    have hne : ¬ ((ownI T j T.length).length : Int) = 1 := by have := hpre j hjk; omega
    have hne' := hpre j hjk
    simp [go_sem, hl6, hne, hne', hw]
    exact ih (j + 1) (by omega) H1 g1.bare
end Go.Proofs.YtoipleipokpnaaaGreat.Code
end
section
namespace Go.Proofs.YtoipleipokpnaaaGreat.Code
open Go Go.Ab
variable {pure : Bool} {base bar : Nat} {H : Heap} {Q : AV → Heap → Prop} {K : AV → Heap → List Nat → Prop}
theorem l36c {k0 n p : Nat} {l : List ZZ} {q : AV} {H0 : Heap} (hn : n ≤ 9) (hb : bar ≤ k0) (hbase : base ≤ k0) (hp : p < k0) (hH0 : H0[p]? = some (.row 0 [.int .i64 (n : Nat), q] 0 true)) {R : PQ} :
    ∀ (t : Nat) (T : List ZZ) (w : Nat → Nat) (g : Nat → Bool) (out : List Nat) (v3 v4 : AV) (H : Heap), PR n l T w g t → out.length + t < 900 → W6 k0 T out [] v3 v4 .nils H0 H →
    (∀ v3' v4' H', Own k0 1 (nats (out ++ wrF n t w)) v4' H' → k0 ≤ H'.length → (∀ j, j < k0 → H'[j]? = H0[j]?) → R (.exit 0) [(1, .ptr p 0 0), (3, v3'), (4, v4'), (15, .bool false)] H') →
    Wp E base bar (.loop c36_l2) [(1, .ptr p 0 0), (3, v3), (4, v4)] H R := by
  intro t
  induction t with
  | zero =>
    intro T w g out v3 v4 H pr ho W h
    have hl := pr.len
    obtain ⟨id, ver, Z, t1, t2, t3⟩ := W.three
    have e : out ++ wrF n 0 w = out := by rw [show wrF n 0 w = [] from rfl, List.append_nil]
    have := h v3 v4 H (by rw [e]; exact W.four) W.len W.low
    rw [wp_round c36_l2.eq_1]
    rw [t2] at this ⊢
    rw [hl] at this ⊢
    simp [go_sem]
    exact this
  | succ t ih =>
    intro T w g out v3 v4 H pr ho W h
    have hl := pr.len
    obtain ⟨k, to, i, hi, hk, hto, hpre, hoi, hsum, pr', hwr⟩ := pr.step hn
    obtain ⟨id, ver, Z, t1, t2, t3⟩ := W.three
    have hT : T.length < 1000 := by omega
    have hHp : H[p]? = some (.row 0 [.int .i64 (n : Nat), q] 0 true) := by rw [W.low p hp, hH0]
    rw [wp_round c36_l2.eq_1]
    have hgt : (1 : Int) < (T.length : Int) := by omega
    have hgt' : 1 < T.length := by omega
    simp [go_sem, t2, hgt, aload, hHp]
    rw [← t2]
    refine l36b hT (by omega) hn pr.ok hb hbase hi hk hpre hoi hsum (fun v3' v4' H' W' => ?_) k 0 (by omega) H W
    simp [go_sem]
    refine ih (lessT T i) _ _ _ v3' v4' H' pr' (by rw [List.length_append, List.length_singleton]; omega) W' fun v3'' v4'' H'' g1 g2 g3 => h v3'' v4'' H'' ?_ g2 g3
    rw [hwr]
    rw [List.append_assoc] at g1
    exact g1
theorem k36 {n : Nat} {q : AV} {l : List ZZ} {w : Nat → Nat} (hq : isP q l) (ht : Tre n l) (hw : Wd n l w) (hbar : bar ≤ H.length) (h : ∀ u, isL u (wrF n (n - 2) w) → Q u H) : WpCall E pure base bar 36 [.agg [.int .i64 (n : Nat), q]] H Q := by
  rw [call36]
  have e0 : frzAll bar H [.agg [.int .i64 (n : Nat), q]] = some ([.agg [.int .i64 (n : Nat), q]], H) := by simp [frzAll, frz.frzs, frzsW, frz_agg, frz_int, hq.frz]
  rw [e0]
  have hb' := bar_if (pure := pure) hbar
  have h9 := ht.nine
  have h1 := ht.one
  have hf := ht.full
  simp [go_sem, WpFun, c36, hq.isTup, hq.cells, aload, AV.isTup, AV.cells]
  generalize (if pure = true then H.length else bar) = br at *
  refine k32 hq (by omega) fun v3 G hO => ?_
  simp [go_sem]
  have hlen1 : (H ++ [Blk.row 0 [.int .i64 (n : Nat), q] 0 true]).length = H.length + 1 := by simp
  rw [hlen1] at hO
  have hfin : ∀ (v4 : AV) (H2 : Heap), Own (H.length + 1) 1 (nats (wrF n (n - 2) w)) v4 H2 → (∀ j, j < H.length + 1 → H2[j]? = (H ++ [Blk.row 0 [.int .i64 (n : Nat), q] 0 true])[j]?) → H.length + 1 ≤ H2.length → retWp 0 H.length br [.tmp 2] Q .ret [(2, v4)] H2 := by
    intro v4 H2 g2 hlow2 hl2
    obtain ⟨H3, f1, f2, f3, f4⟩ := g2.frz (d := 5) (bar := br) (by omega) (Nat.one_dvd _) nats_plain (by omega)
    have hk := h _ (isL.out (l := wrF n (n - 2) w))
    have hu : isL (outL 1 (nats (wrF n (n - 2) w))) (wrF n (n - 2) w) := isL.out
    have htake : H3.take H.length = H := take_same (by omega) fun j hj => by
      rw [f4 j (fun e => by have := (g2.lt e).1; omega), hlow2 j (by omega), List.getElem?_append_left hj]
    simp [go_sem, f1, hu.top, htake]
    exact hk
  by_cases hn2 : n < 2
  · have hl0 : l = [] := List.length_eq_zero_iff.1 (by omega)
    subst hl0
    have hwn : wrF n (n - 2) w = [] := by rw [show n - 2 = 0 by omega]; rfl
    rw [hwn] at hfin
    have := hfin .nils (H ++ ([Blk.row 0 [.int .i64 (n : Nat), q] 0 true] ++ G)) (.inl ⟨rfl, rfl⟩) (fun j hj => by
      rw [← List.append_assoc, List.getElem?_append_left (by rw [hlen1]; exact hj)]) (by simp)
    rcases hO with (⟨_, rfl⟩ | ⟨id, ver, e, _⟩) | ⟨_, rfl⟩
    · rw [wp_round c36_l2.eq_1]
      simp [go_sem]
      simpa [go_sem] using this
    · exact absurd rfl e
    · rw [wp_round c36_l2.eq_1]
      simp [go_sem]
      simpa [go_sem] using this
  · rcases hO with (⟨e, rfl⟩ | ⟨id, ver, e, i1, i2, i3⟩) | ⟨e, rfl⟩
    · rw [e] at hf; simp at hf; omega
    · have W : W6 (H.length + 1) l [] [] v3 .nils .nils (H ++ [Blk.row 0 [.int .i64 (n : Nat), q] 0 true]) (H ++ ([Blk.row 0 [.int .i64 (n : Nat), q] 0 true] ++ G)) := by
        refine ⟨⟨id, ver, [], i1, i2, by rw [← List.append_assoc, i3, List.append_nil]⟩, .inl ⟨rfl, rfl⟩, .inl ⟨rfl, rfl⟩, (fun _ e => by cases e), (fun _ e => by cases e), (fun _ e => by cases e), fun j hj => ?_, by simp⟩
        rw [← List.append_assoc, List.getElem?_append_left (by rw [hlen1]; exact hj)]
      refine l36c (l := l) (q := q) (k0 := H.length + 1) (p := H.length) h9 (by omega) (by omega) (by omega) (by simp) (n - 2) l w _ [] v3 .nils _ (PR.start ht hw (by omega)) (by simp; omega) W fun v3' v4' H2 g1 g2 g3 => ?_
      simp [go_sem]
      have := hfin v4' H2 (by simpa using g1) g3 g2
      simpa [go_sem] using this
    · rw [e] at hf; simp at hf; omega
end Go.Proofs.YtoipleipokpnaaaGreat.Code
end
section
namespace Go.Proofs.YtoipleipokpnaaaGreat.Code
open Go Go.Ab
/-! counting -/
theorem len_of_all : ∀ {N : Nat} {l : List Nat}, l.Nodup → (∀ x, x ∈ l ↔ x < N) → l.length = N
  | 0, l, _, h => by
    cases l with
    | nil => rfl
    | cons x r => have := (h x).1 (List.mem_cons_self ..); omega
  | N + 1, l, hd, h => by
    have hm : N ∈ l := (h N).2 (by omega)
    have := len_of_all (N := N) (l := l.erase N) (hd.erase N) fun x => by
      rw [hd.mem_erase_iff, h]
      omega
    rw [List.length_erase_of_mem hm] at this
    have := List.length_pos_of_mem hm
    omega
theorem bits_of (f : Nat → Bool) : ∀ p, ∃ s, s < 2 ^ p ∧ ∀ j, j < p → s.testBit j = f j
  | 0 => ⟨0, by simp, fun j hj => by omega⟩
  | p + 1 => by
    obtain ⟨s, h1, h2⟩ := bits_of f p
    cases hf : f p with
    | false =>
      refine ⟨s, by rw [Nat.pow_succ]; omega, fun j hj => ?_⟩
      by_cases e : j = p
      · subst e; rw [hf]; exact Nat.testBit_lt_two_pow h1
      · exact h2 j (by omega)
    | true =>
      refine ⟨2 ^ p + s, by rw [Nat.pow_succ]; omega, fun j hj => ?_⟩
      by_cases e : j = p
      · subst e; rw [hf, Nat.testBit_two_pow_add_eq, Nat.testBit_lt_two_pow h1]; rfl
      · rw [Nat.testBit_two_pow_add_gt (by omega), h2 j (by omega)]
def PL (n : Nat) (a : Nat) : List ZZ := (List.range a).flatMap fun x => (List.range' (x + 1) (n - 1 - x)).map fun y : Nat => ((x : Int), (y : Int))
theorem PL_mem {n : Nat} {p : ZZ} : p ∈ PL n n ↔ ∃ x y : Nat, p = ((x : Int), (y : Int)) ∧ x < y ∧ y < n := by
  unfold PL
  simp only [List.mem_flatMap, List.mem_range, List.mem_map, List.mem_range'_1]
  constructor
  · rintro ⟨x, hx, y, ⟨h1, h2⟩, rfl⟩
    exact ⟨x, y, rfl, by omega, by omega⟩
  · rintro ⟨x, y, rfl, h1, h2⟩
    exact ⟨x, by omega, y, ⟨by omega, by omega⟩, rfl⟩
instance (p q : ZZ) : Decidable (ltZ p q) := by unfold ltZ; infer_instance
theorem PL_sorted {n : Nat} (hn : n ≤ 5) : (PL n n).Pairwise ltZ := (by decide : ∀ n, n ≤ 5 → (PL n n).Pairwise ltZ) n hn
theorem PL_len {n : Nat} (hn : n ≤ 5) : (PL n n).length ≤ 10 := (by decide : ∀ n, n ≤ 5 → (PL n n).length ≤ 10) n hn
def sbF (P : List ZZ) (s i : Nat) : List ZZ := (List.range i).filterMap fun j => if s.testBit j then P[j]? else none
theorem sbF_suc {P : List ZZ} {s i : Nat} (hi : i < P.length) : sbF P s (i + 1) = sbF P s i ++ (if s.testBit i then [P[i]] else []) := by
  unfold sbF
  rw [List.range_succ, List.filterMap_append]
  congr 1
  by_cases h : s.testBit i = true
  · simp [h, List.getElem?_eq_getElem hi]
  · simp [h]
theorem sbF_sub {P : List ZZ} {s : Nat} : ∀ {i : Nat}, i ≤ P.length → (sbF P s i).Sublist (P.take i)
  | 0, _ => by simp [sbF]
  | i + 1, h => by
    have hi : i < P.length := by omega
    rw [sbF_suc hi, List.take_add_one, List.getElem?_eq_getElem hi]
    refine List.Sublist.append (sbF_sub (by omega)) ?_
    split
    · exact List.Sublist.refl _
    · exact List.nil_sublist _
theorem sbF_mem {P : List ZZ} {s i : Nat} {p : ZZ} : p ∈ sbF P s i ↔ ∃ j, j < i ∧ s.testBit j = true ∧ P[j]? = some p := by
  unfold sbF
  simp only [List.mem_filterMap, List.mem_range]
  constructor
  · rintro ⟨j, hj, h⟩
    split at h
    · rename_i hb; exact ⟨j, hj, hb, h⟩
    · cases h
  · rintro ⟨j, hj, hb, h⟩
    exact ⟨j, hj, by rw [if_pos hb]; exact h⟩
def SB (n s : Nat) : List ZZ := sbF (PL n n) s (PL n n).length
theorem SB_sub {n s : Nat} : (SB n s).Sublist (PL n n) := by
  have := sbF_sub (P := PL n n) (s := s) (Nat.le_refl _)
  rwa [List.take_length] at this
theorem SB_sorted {n s : Nat} (hn : n ≤ 5) : (SB n s).Pairwise ltZ := (PL_sorted hn).sublist SB_sub
theorem SB_ok {n s : Nat} : ∀ p ∈ SB n s, okP n p := fun p hp => by
  obtain ⟨x, y, rfl, h1, h2⟩ := PL_mem.1 (SB_sub.subset hp)
  exact ⟨by simp, by simp, by simp only; omega, by simp only; omega, by simp only; omega⟩
theorem SB_dis {n s : Nat} (hn : n ≤ 5) : (SB n s).Pairwise fun p q => ¬ sameT p q := by
  refine (SB_sorted hn).imp_of_mem fun {p q} hp hq hlt hs => ?_
  obtain ⟨x, y, rfl, h1, h2⟩ := PL_mem.1 (SB_sub.subset hp)
  obtain ⟨x', y', rfl, h3, h4⟩ := PL_mem.1 (SB_sub.subset hq)
  unfold sameT at hs
  unfold ltZ at hlt
  simp only at hs hlt
  omega
theorem SB_tidy {n s : Nat} (hn : n ≤ 5) : tidyF (tieB (SB n s)) n = SB n s := by
  refine sort_unique tidyF_sorted (SB_sorted hn) fun p => ?_
  rw [mem_tidyF]
  constructor
  · rintro ⟨a, b, rfl, h1, h2, h3, h4⟩
    rw [tieB_iff] at h4
    rcases h4 with h4 | h4
    · exact h4
    · obtain ⟨x, y, e, h5, h6⟩ := PL_mem.1 (SB_sub.subset h4)
      injection e with e1 e2
      omega
  · intro hp
    obtain ⟨x, y, rfl, h1, h2⟩ := PL_mem.1 (SB_sub.subset hp)
    exact ⟨x, y, rfl, by omega, by omega, h1, tieB_iff.2 (.inl hp)⟩
theorem PL_inj {n i j : Nat} (hn : n ≤ 5) {p : ZZ} (hi : (PL n n)[i]? = some p) (hj : (PL n n)[j]? = some p) : i = j := by
  obtain ⟨h1, e1⟩ := List.getElem?_eq_some_iff.1 hi
  obtain ⟨h2, e2⟩ := List.getElem?_eq_some_iff.1 hj
  have hs := List.pairwise_iff_getElem.1 (PL_sorted hn)
  rcases Nat.lt_trichotomy i j with h | h | h
  · have := hs i j h1 h2 h
    rw [e1, e2] at this
    exact absurd this ltZ.irr
  · exact h
  · have := hs j i h2 h1 h
    rw [e1, e2] at this
    exact absurd this ltZ.irr
theorem SB_inj {n s s' : Nat} (hn : n ≤ 5) (h1 : s < 2 ^ (PL n n).length) (h2 : s' < 2 ^ (PL n n).length) (h : SB n s = SB n s') : s = s' := by
  have one : ∀ {s s' : Nat}, SB n s = SB n s' → ∀ j, j < (PL n n).length → s.testBit j = true → s'.testBit j = true := fun {s s'} h j hj hb => by
    have hm : (PL n n)[j] ∈ SB n s := sbF_mem.2 ⟨j, hj, hb, List.getElem?_eq_getElem hj⟩
    rw [h] at hm
    obtain ⟨i, hi, hb', e⟩ := sbF_mem.1 hm
    rw [PL_inj hn (List.getElem?_eq_getElem hj) e]
    exact hb'
  refine Nat.eq_of_testBit_eq fun j => ?_
  by_cases hj : j < (PL n n).length
  · rw [Bool.eq_iff_iff]
    exact ⟨one h j hj, one h.symm j hj⟩
  · have hp : 2 ^ (PL n n).length ≤ 2 ^ j := Nat.pow_le_pow_right (by omega) (by omega)
    rw [Nat.testBit_lt_two_pow (by omega), Nat.testBit_lt_two_pow (by omega)]
theorem SB_all {n : Nat} (hn : n ≤ 5) {f : Nat → Nat → Bool} (hin : ∀ a b, f a b = true → a < n ∧ b < n ∧ a ≠ b) : ∃ s, s < 2 ^ (PL n n).length ∧ SB n s = tidyF f n := by
  obtain ⟨s, h1, h2⟩ := bits_of (fun j => match (PL n n)[j]? with | some p => f p.1.toNat p.2.toNat | none => false) (PL n n).length
  refine ⟨s, h1, sort_unique (SB_sorted hn) tidyF_sorted fun p => ?_⟩
  rw [mem_tidyF]
  unfold SB
  rw [sbF_mem]
  constructor
  · rintro ⟨j, hj, hb, e⟩
    rw [h2 j hj, e] at hb
    obtain ⟨x, y, rfl, h3, h4⟩ := PL_mem.1 (List.mem_of_getElem? e)
    simp only [Int.toNat_natCast] at hb
    exact ⟨x, y, rfl, by omega, by omega, h3, hb⟩
  · rintro ⟨a, b, rfl, h3, h4, h5, h6⟩
    have hi := hin a b h6
    obtain ⟨j, hj, e⟩ := List.mem_iff_getElem.1 (PL_mem.2 ⟨a, b, rfl, h5, hi.2.1⟩)
    have e' : (PL n n)[j]? = some ((a : Int), (b : Int)) := by rw [List.getElem?_eq_getElem hj, e]
    refine ⟨j, hj, ?_, e'⟩
    rw [h2 j hj, e']
    simpa using h6
end Go.Proofs.YtoipleipokpnaaaGreat.Code
end
section
namespace Go.Proofs.YtoipleipokpnaaaGreat.Code
open Go Go.Ab
/-! as many trees as lists -/
theorem Tre.wd {n : Nat} {l : List ZZ} (h : Tre n l) : ∃ w, Wd n l w := by
  obtain ⟨w, k1, _⟩ := wd_sum h.nine (r := l) Wd.nil h.errL (by simp [bitsN_zero, Sm_zero])
  rw [List.nil_append] at k1
  exact ⟨w, k1⟩
open Classical in
noncomputable def mask (n : Nat) (T : List ZZ) : Nat → Nat := if h : ∃ w, Wd n T w then h.choose else fun _ => 0
theorem mask_wd {n : Nat} {T : List ZZ} (ht : Tre n T) : Wd n T (mask n T) := by
  unfold mask
  rw [dif_pos ht.wd]
  exact ht.wd.choose_spec
noncomputable def num (n : Nat) (T : List ZZ) : Nat := nV n (wrF n (n - 2) (mask n T))
theorem num_lt {n : Nat} {T : List ZZ} (ht : Tre n T) : num n T < n ^ (n - 2) := by
  obtain ⟨a1, a2⟩ := wr_ok ht (mask_wd ht)
  have := nV_lt (m := n) (L := wrF n (n - 2) (mask n T)) a2
  rw [a1] at this
  exact this
theorem num_dg {n : Nat} {T : List ZZ} (ht : Tre n T) : dgP n (n - 2) (num n T) = wrF n (n - 2) (mask n T) := by
  obtain ⟨a1, a2⟩ := wr_ok ht (mask_wd ht)
  have := dg_nV (m := n) (L := wrF n (n - 2) (mask n T)) a2
  rw [a1] at this
  exact this
theorem num_back {n : Nat} {T : List ZZ} (ht : Tre n T) : tieB (rdAll n (dgP n (n - 2) (num n T))) = tieB T := by
  rw [num_dg ht]
  exact funext fun x => funext fun y => read_write ht.nine ht.one (mask_wd ht) ht x y
theorem num_inj {n : Nat} {T T' : List ZZ} (ht : Tre n T) (ht' : Tre n T') (h : num n T = num n T') (e : tidyF (tieB T) n = T) (e' : tidyF (tieB T') n = T') : T = T' := by
  rw [← e, ← e', ← num_back ht, ← num_back ht', h]
noncomputable def KS (n s : Nat) : List Nat := (List.range s).filterMap fun j => if errT n (SB n j) = 0 then some (num n (SB n j)) else none
theorem KS_suc {n s : Nat} : KS n (s + 1) = KS n s ++ (if errT n (SB n s) = 0 then [num n (SB n s)] else []) := by
  unfold KS
  rw [List.range_succ, List.filterMap_append]
  congr 1
  by_cases h : errT n (SB n s) = 0
  · simp [h]
  · simp [h]
theorem KS_mem {n s x : Nat} : x ∈ KS n s ↔ ∃ j, j < s ∧ errT n (SB n j) = 0 ∧ num n (SB n j) = x := by
  unfold KS
  simp only [List.mem_filterMap, List.mem_range]
  constructor
  · rintro ⟨j, hj, h⟩
    split at h
    · rename_i hb
      injection h with h
      exact ⟨j, hj, hb, h⟩
    · cases h
  · rintro ⟨j, hj, hb, h⟩
    exact ⟨j, hj, by rw [if_pos hb, h]⟩
theorem KS_fresh {n s : Nat} (hn : n ≤ 5) (hs : s < 2 ^ (PL n n).length) (he : errT n (SB n s) = 0) : num n (SB n s) ∉ KS n s := fun hm => by
  obtain ⟨j, hj, hb, e⟩ := KS_mem.1 hm
  have := num_inj (tre_of hb) (tre_of he) e (SB_tidy hn) (SB_tidy hn)
  have := SB_inj hn (by omega) hs this
  omega
theorem KS_nodup {n : Nat} (hn : n ≤ 5) : ∀ {s : Nat}, s ≤ 2 ^ (PL n n).length → (KS n s).Nodup
  | 0, _ => by simp [KS]
  | s + 1, h => by
    rw [KS_suc]
    by_cases he : errT n (SB n s) = 0
    · rw [if_pos he, List.nodup_append]
      refine ⟨KS_nodup hn (by omega), by simp, fun a ha b hb => ?_⟩
      rw [List.mem_singleton] at hb
      subst hb
      exact fun e => KS_fresh hn (by omega) he (by rw [← e]; exact ha)
    · rw [if_neg he, List.append_nil]
      exact KS_nodup hn (by omega)
theorem KS_len {n : Nat} (h1 : 1 ≤ n) (hn : n ≤ 5) : (KS n (2 ^ (PL n n).length)).length = n ^ (n - 2) := by
  refine len_of_all (KS_nodup hn (Nat.le_refl _)) fun x => ⟨fun hx => ?_, fun hx => ?_⟩
  · obtain ⟨j, hj, hb, rfl⟩ := KS_mem.1 hx
    exact num_lt (tre_of hb)
  · have hv : ∀ y ∈ dgP n (n - 2) x, y < n := dgP_lt h1 hx
    have htR := rdAll_tre h1 (show n ≤ 9 by omega) (dgP_len (m := n) (k := n - 2) (x := x)) hv
    obtain ⟨s, hs, e⟩ := SB_all hn (f := tieB (rdAll n (dgP n (n - 2) x))) htR.inn
    have htT : Tre n (SB n s) := by rw [e]; exact htR.tidy (tidyF_length htR)
    have hties : tieB (SB n s) = tieB (rdAll n (dgP n (n - 2) x)) := by
      rw [e]
      exact funext fun a => funext fun b => tidyF_tie (fun a b => tieB_symm) htR.inn htR.nine a b
    refine KS_mem.2 ⟨s, hs, htT.errT, ?_⟩
    have hm := mask_wd htT
    have hmR : Wd n (rdAll n (dgP n (n - 2) x)) (mask n (SB n s)) := ⟨hm.lt, fun a b => by rw [hm.bit, hties], htR.ok⟩
    unfold num
    rw [write_read h1 (by omega) dgP_len hv hmR]
    exact (nV_dg h1 hx).1
end Go.Proofs.YtoipleipokpnaaaGreat.Code
end
section
namespace Go.Proofs.YtoipleipokpnaaaGreat.Code
open Go Go.Ab
variable {pure : Bool} {base bar : Nat} {H : Heap} {Q : AV → Heap → Prop} {K : AV → Heap → List Nat → Prop}
/-! the walk through the sets -/
theorem bit_i64 {s i : Nat} (hs : s < 2 ^ 20) (hi : i < 60) : abin .shr (.int .i64 (s : Int)) (.int .i64 (i : Int)) = some (.int .i64 ((s / 2 ^ i : Nat) : Int)) ∧
    abin .and (.int .i64 ((s / 2 ^ i : Nat) : Int)) (.int .i64 1) = some (.int .i64 ((if s.testBit i then 1 else 0 : Nat) : Int)) := by
  constructor
  · simp only [abin]
    rw [if_neg (by omega)]
    simp only [Int.toNat_natCast, show IntKind.i64.bits = 64 from rfl, show min i 64 = i by omega]
    congr 2
    rw [show (2 : Int) ^ i = ((2 ^ i : Nat) : Int) by simp, Int.fdiv_eq_ediv_of_nonneg _ (Int.natCast_nonneg _)]
    exact (Int.natCast_ediv _ _).symm
  · have hlt : s / 2 ^ i < 2 ^ 20 := Nat.lt_of_le_of_lt (Nat.div_le_self _ _) hs
    have e : (BitVec.ofInt 64 ((s / 2 ^ i : Nat) : Int) &&& BitVec.ofInt 64 (1 : Int)).toNat = (if s.testBit i then 1 else 0) := by
      rw [BitVec.toNat_and, ofInt_toNat (w := 64) (by omega), show (BitVec.ofInt 64 (1 : Int)).toNat = 1 from rfl, Nat.and_one_is_mod, Nat.testBit_eq_decide_div_mod_eq]
      have := Nat.mod_two_eq_zero_or_one (s / 2 ^ i)
      rcases this with h | h <;> simp [h]
    simp only [abin, binInt, if_true]
    rw [show IntKind.i64.bits = 64 from rfl, e]
    split <;> rfl
theorem shl_i64 {n : Nat} (h : n ≤ 10) : abin .shl (.int .i64 1) (.int .i64 (n : Int)) = some (.int .i64 ((2 ^ n : Nat) : Int)) := by
  have h2 : (2 : Nat) ^ n ≤ 2 ^ 10 := Nat.pow_le_pow_right (by decide) h
  simp only [abin]
  rw [if_neg (by omega), Int.toNat_natCast, show min n IntKind.i64.bits = n from Nat.min_eq_left (by simp [IntKind.bits]; omega)]
  rw [show (1 : Int) * 2 ^ n = ((2 ^ n : Nat) : Int) by simp]
  generalize 2 ^ n = N at *
  rw [Go.IntWalk.i64_in _ (by omega)]
structure YY (c n : Nat) (T : List ZZ) (v : AV) (H0 H : Heap) : Prop where
  own : Own (c + 1) 2 (prs T) v H
  cell : H[c]? = some (.row 0 [.int .i64 (n : Nat), v] 0 true)
  low : ∀ j, j < c → H[j]? = H0[j]?
  len : c + 1 ≤ H.length
theorem YY.more {c n : Nat} {T : List ZZ} {v : AV} {H0 G : Heap} (g : YY c n T v H0 H) : YY c n T v H0 (H ++ G) := by
  have ha : ∀ j, j < H.length → (H ++ G)[j]? = H[j]? := fun j hj => List.getElem?_append_left hj
  have := g.len
  exact ⟨g.own.mono fun j hj => ha j (g.own.lt hj).2, by rw [ha c (by omega), g.cell], fun j hj => by rw [ha j (by omega), g.low j hj], by rw [List.length_append]; omega⟩
theorem YY.frz {c n : Nat} {T : List ZZ} {v : AV} {H0 : Heap} (g : YY c n T v H0 H) (hb : bar ≤ c + 1) : ∃ u H', isP u T ∧ YY c n T v H0 H' ∧ frzAll bar H [.agg [.int .i64 (n : Nat), v]] = some ([.agg [.int .i64 (n : Nat), u]], H') ∧ (∀ d, Go.Ab.frz (d + 3) bar H v = some (u, H')) ∧ H'.length = H.length ∧ ∀ j, idOf v ≠ some j → H'[j]? = H[j]? := by
  have f0 := fun d => g.own.frz (d := d) (bar := bar) (by omega) ⟨T.length, prs_length⟩ prs_plain hb
  obtain ⟨H', e1, e2, e3, e4⟩ := f0 4
  have hall : ∀ d, Go.Ab.frz (d + 3) bar H v = some (outL 2 (prs T), H') := fun d => by
    rcases g.own with ⟨h1, rfl⟩ | ⟨id, ver, fz, h1, h2, h3, rfl, h4⟩
    · rw [← e1]; rfl
    · rw [← e1]
      have hlt := (List.getElem?_eq_some_iff.1 h4).1
      have hd : (prs T).length / 2 * 2 = (prs T).length := by rw [prs_length]; omega
      have fx := fun d => frz_vec (d := d + 2) (bar := bar) (H := H) (id := id) (ver := ver) (off := 0) (len := (prs T).length / 2) (sz := 2) (cs := prs T) (fz := fz) (ex := false) (xs := prs T)
        (H' := H.set id (.row ver (prs T) (max fz (0 + (prs T).length / 2 * 2)) false)) h4 (by omega) (by omega) (by
          rw [hd, List.drop_zero, List.take_length, plains prs_plain])
      rw [fx d, fx 4]
  refine ⟨_, H', isP.out, ⟨e2, ?_, fun j hj => ?_, by rw [e3]; exact g.len⟩, ?_, hall, e3, e4⟩
  · rw [e4 c (fun e => by have := (g.own.lt e).1; omega), g.cell]
  · rw [e4 j (fun e => by have := (g.own.lt e).1; omega), g.low j hj]
  · simp [frzAll, frz.frzs, frzsW, frz_agg, frz_int, hall]
theorem reW {f : Nat} {c : AFun} {args args' : List AV} {H' : Heap} (hc : ∀ (args : List AV) (H : Heap) (Q : AV → Heap → Prop), WpCall E pure base bar f args H Q ↔ frzWp E pure base bar c Q (frzAll bar H args)) (e1 : frzAll bar H args = some (args', H')) (e2 : frzAll bar H' args' = some (args', H'))
    (h : WpCall E pure base bar f args' H' Q) : WpCall E pure base bar f args H Q := by
  rw [hc, e2] at h
  rw [hc, e1]
  exact h
theorem ref_P {n : Nat} {u : AV} {T : List ZZ} (h : isP u T) : frzAll bar H [.agg [.int .i64 (n : Nat), u]] = some ([.agg [.int .i64 (n : Nat), u]], H) := by simp [frzAll, frz.frzs, frzsW, frz_agg, frz_int, h.frz]
structure Y0 (c n : Nat) (T : List ZZ) (v : AV) (H0 H : Heap) : Prop where
  own : O0 (c + 1) T v H
  cell : H[c]? = some (.row 0 [.int .i64 (n : Nat), v] 0 true)
  low : ∀ j, j < c → H[j]? = H0[j]?
  len : c + 1 ≤ H.length
theorem Y0.y {c n : Nat} {T : List ZZ} {v : AV} {H0 : Heap} (g : Y0 c n T v H0 H) : YY c n T v H0 H := by
  refine ⟨?_, g.cell, g.low, g.len⟩
  rcases g.own with ⟨rfl, rfl⟩ | ⟨id, ver, h1, h2, h3, h4⟩
  · exact .inl ⟨rfl, rfl⟩
  · exact .inr ⟨id, ver, 0, prs_ne h1, h2, by omega, by rw [h3, prs_length, Nat.mul_div_cancel_left _ (by omega)], h4⟩
theorem O0.slot {k : Nat} {l : List ZZ} {v : AV} (g : O0 k l v H) : v.isTup = false ∧ v.cells = [v] := by
  rcases g with ⟨_, rfl⟩ | ⟨_, _, _, _, rfl, _⟩ <;> exact ⟨rfl, rfl⟩
/-- the pairs, and how they are read -/
def PR6 (P : List ZZ) (v : AV) (H : Heap) (c : Nat) : Prop := (∀ (H : Heap) (K : AV → Heap → List Nat → Prop), lenWp (some v) H K = K (.int .i64 (P.length : Nat)) H []) ∧
  ∀ i (hi : i < P.length), ∃ p, (∀ (H : Heap) (K : AV → Heap → List Nat → Prop), ixaSWp 2 (some v) (some (.int .i64 (i : Nat))) H K = K p H []) ∧ ∀ H' : Heap, (∀ j, j < c → H'[j]? = H[j]?) → aload H' ⟨true, 2⟩ p = some (.agg (zc P[i]))
theorem PR6.of {k c : Nat} {P : List ZZ} {v : AV} (g : O0 k P v H) (hc : c = H.length) : PR6 P v H c := by
  rcases g with ⟨rfl, rfl⟩ | ⟨id, ver, h1, h2, rfl, h4⟩
  · exact ⟨fun _ _ => rfl, fun i hi => by simp at hi⟩
  · refine ⟨fun _ _ => rfl, fun i hi => ⟨.ptr id ver (i * 2), fun H K => ?_, fun H' hl => ?_⟩⟩
    · rw [ixaSWp_vec]
      simp [hi]
    · have hlt := (List.getElem?_eq_some_iff.1 h4).1
      rw [aload_ptr (by rw [hl id (by omega)]; exact h4), Nat.mul_comm]
      exact prs_part hi
theorem l6c {c n s cnt : Nat} {v3 v6 v9 : AV} {P : List ZZ} {H0 : Heap} (hP : PR6 P v6 H0 c) (hl : P.length ≤ 10) (hs : s < 2 ^ 20) (hb : bar ≤ c) (hbase : base ≤ c) {R : PQ} : ∀ (k i : Nat), i + k = P.length → ∀ (v : AV) (H : Heap), Y0 c n (sbF P s i) v H0 H →
    (∀ v' H', Y0 c n (sbF P s P.length) v' H0 H' → R (.exit 6) [(3, v3), (5, .int .i64 (n : Nat)), (6, v6), (9, v9), (10, .int .i64 (cnt : Nat)), (11, .int .i64 (s : Nat)), (12, .ptr c 0 0), (67, v6), (68, .int .i64 (P.length : Nat)), (69, .int .i64 (P.length : Nat)), (70, .bool false)] H') →
    Wp E base bar (.loop c6_l2) [(3, v3), (5, .int .i64 (n : Nat)), (6, v6), (9, v9), (10, .int .i64 (cnt : Nat)), (11, .int .i64 (s : Nat)), (12, .ptr c 0 0), (67, v6), (68, .int .i64 (P.length : Nat)), (69, .int .i64 (i : Nat))] H R := by
  intro k
  induction k with
  | zero =>
    intro i hi v H g h
    obtain rfl : i = P.length := by omega
    rw [wp_round c6_l2.eq_1]
    simp [go_sem]
    exact h v H g
  | succ k ih =>
    intro i hi v H g h
    have hlt : i < P.length := by omega
    have hnext := ih (i + 1) (by omega)
    rw [sbF_suc hlt] at hnext
    obtain ⟨p, hp1, hp2⟩ := hP.2 i hlt
    have hal := hp2 H g.low
    obtain ⟨⟨a, b⟩, hab⟩ : ∃ x, P[i] = x := ⟨_, rfl⟩
    rw [hab] at hal hnext
    have hbl := bit_i64 hs (show i < 60 by omega)
    generalize s / 2 ^ i = D at hbl
    have hw := i64_suc (show i < 1000000 by omega)
    have hgl := g.len
    have hbH : bar ≤ H.length := by omega
    have hm := (Y0.mk (g.own.more (G := [.row 0 [.int .i64 a, .int .i64 b] 0 true])) (by rw [List.getElem?_append_left (by omega)]; exact g.cell) (fun j hj => by rw [List.getElem?_append_left (by omega), g.low j hj]) (by simp; omega) : Y0 c n (sbF P s i) v H0 (H ++ [.row 0 [.int .i64 a, .int .i64 b] 0 true]))
    have hcell := hm.cell
    have hsub := (sbF_sub (P := P) (s := s) (i := i) (by omega)).length_le
    rw [List.length_take] at hsub
    rw [wp_round c6_l2.eq_1]
    cases hbit : s.testBit i with
    | false =>
      rw [hbit] at hbl hnext
      simp only [Bool.false_eq_true, if_false, List.append_nil] at hbl hnext
      simp [go_sem, hlt, hp1, hal, zc]
      simp [go_sem, zc, storeWp, astore, AV.isTup, AV.cells, setCells, hbH, aload, hbl.1, hbl.2, hw]
      exact hnext v _ hm h
    | true =>
      rw [hbit] at hbl hnext
      simp only [if_true] at hbl hnext
      simp [go_sem, hlt, hp1, hal, zc]
      simp [go_sem, zc, storeWp, astore, AV.isTup, AV.cells, setCells, hbH, aload, hbl.1, hbl.2, hw, hcell, aop, evs, Opd.ev, fillA, chunks, Ab.part]
      refine hm.own.pair (p := (a, b)) (by simp; omega) (by omega) (by omega) (by omega) fun v' H' tc g' hl' hlow' => ?_
      have hc' : H'[c]? = some (.row 0 [.int .i64 (n : Nat), v] 0 true) := by rw [hlow' c (by omega), hcell]
      have hsl := g'.slot
      have hcl := (List.getElem?_eq_some_iff.1 hc').1
      simp [go_sem, storeWp, astore, hc', hsl.1, hsl.2, setCells, hb, hbase, hw]
      refine hnext v' _ ⟨?_, List.getElem?_set_self hcl, fun j hj => ?_, by rw [List.length_set]; omega⟩ h
      · rcases g' with ⟨e, _⟩ | ⟨id, ver, h1, h2, h3, h4⟩
        · simp at e
        · exact .inr ⟨id, ver, h1, h2, h3, by rw [List.getElem?_set_ne (by omega)]; exact h4⟩
      · rw [List.getElem?_set_ne (by omega), hlow' j (by omega), hm.low j hj]
end Go.Proofs.YtoipleipokpnaaaGreat.Code
end
section
namespace Go.Proofs.YtoipleipokpnaaaGreat.Code
open Go Go.Ab
structure J6 (n s idm : Nat) (v6 : AV) (tws : List AV) (H : Heap) : Prop where
  pairs : O0 0 (PL n n) v6 H
  map : H[idm]? = some (.map (mks (KS n s)))
  tw : H[0]? = some (.row 0 tws 0 true)
theorem J6.keep {n s s' idm : Nat} {v6 : AV} {tws : List AV} {H H' : Heap} (g : J6 n s idm v6 tws H) (hk : KS n s' = KS n s) (h : ∀ j, j < H.length → H'[j]? = H[j]?) : J6 n s' idm v6 tws H' := by
  have hm := (List.getElem?_eq_some_iff.1 g.map).1
  have ht := (List.getElem?_eq_some_iff.1 g.tw).1
  refine ⟨?_, by rw [h _ hm, g.map, hk], by rw [h _ ht, g.tw]⟩
  rcases g.pairs with e | ⟨id, ver, h1, h2, h3, h4⟩
  · exact .inl e
  · exact .inr ⟨id, ver, h1, h2, h3, by rw [h id (List.getElem?_eq_some_iff.1 h4).1, h4]⟩
theorem J6.next {n s idm : Nat} {v6 : AV} {tws : List AV} {H H' : Heap} (g : J6 n s idm v6 tws H) (h : ∀ j, j < H.length → j ≠ idm → H'[j]? = H[j]?) (hm : H'[idm]? = some (.map (mks (KS n (s + 1))))) : J6 n (s + 1) idm v6 tws H' := by
  have ht := (List.getElem?_eq_some_iff.1 g.tw).1
  refine ⟨?_, hm, by rw [h _ ht (fun e => by have := g.map; rw [← e, g.tw] at this; cases this), g.tw]⟩
  rcases g.pairs with e | ⟨id, ver, h1, h2, h3, h4⟩
  · exact .inl e
  · exact .inr ⟨id, ver, h1, h2, h3, by rw [h id (List.getElem?_eq_some_iff.1 h4).1 (fun e => by have := g.map; rw [← e, h4] at this; cases this), h4]⟩
theorem YY.set {c n id : Nat} {T : List ZZ} {v : AV} {H0 H : Heap} {b : Blk} (g : YY c n T v H0 H) (hid : id < c) : YY c n T v (H0.set id b) (H.set id b) := by
  refine ⟨g.own.mono fun j hj => by rw [List.getElem?_set_ne (by have := (g.own.lt hj).1; omega)], by rw [List.getElem?_set_ne (by omega), g.cell], fun j hj => ?_, by rw [List.length_set]; exact g.len⟩
  have hl := g.len
  have hc := g.low j hj
  rw [List.getElem?_set, List.getElem?_set]
  split
  · rename_i e
    subst e
    have h1 : id < H.length := by omega
    have h2 : id < H0.length := by
      rw [List.getElem?_eq_getElem h1] at hc
      exact (List.getElem?_eq_some_iff.1 hc.symm).1
    rw [if_pos h1, if_pos h2]
  · exact hc
theorem rdE_good {n : Nat} {L : List Nat} (h1 : 1 ≤ n) (hn : n ≤ 9) (hlen : L.length = n - 2) (hv : ∀ x ∈ L, x < n) : rdE n (natsZ L) = 0 := by
  unfold rdE
  have e1 : (natsZ L).length = n - 2 := by simp [natsZ, hlen]
  rw [if_neg (by simp; omega), if_neg (by rw [e1]; simp; omega), if_neg]
  simp only [Bool.not_eq_true, List.any_eq_false]
  intro x hx
  unfold natsZ at hx
  obtain ⟨y, hy, rfl⟩ := List.mem_map.1 hx
  have := hv y hy
  unfold outR
  simp
  omega
theorem nthE_good {n x : Nat} (h1 : 1 ≤ n) (hn : n ≤ 9) (hx : x < n ^ (n - 2)) : nthE n x = 0 := by
  unfold nthE cntE cntV
  have hr : 1 ≤ (n : Int) ∧ (n : Int) ≤ 9 := ⟨by omega, by omega⟩
  rw [if_pos hr, if_pos hr, if_neg (by simp), if_pos]
  rw [Int.toNat_natCast]
  constructor
  · omega
  · have : ((x : Nat) : Int) < ((n ^ (n - 2) : Nat) : Int) := by exact_mod_cast hx
    omega
theorem addS_fresh {ks : List Nat} {x : Nat} (h : x ∉ ks) : addS ks x = ks ++ [x] := by
  unfold addS
  rw [if_neg (by simpa using h)]
theorem l6d {n idm : Nat} {v6 : AV} {tws : List AV} (h1 : 1 ≤ n) (hn : n ≤ 5) {R : PQ} : ∀ (k s : Nat), s + k = 2 ^ (PL n n).length → ∀ H, J6 n s idm v6 tws H →
    (∀ H', J6 n (2 ^ (PL n n).length) idm v6 tws H' → R (.exit 4) [(3, .ptr 0 0 0), (5, .int .i64 (n : Nat)), (6, v6), (9, .mp idm), (10, .int .i64 ((KS n (2 ^ (PL n n).length)).length : Nat)), (11, .int .i64 (2 ^ (PL n n).length : Nat)), (62, .bool false)] H') →
    Wp E 0 0 (.loop c6_l3) [(3, .ptr 0 0 0), (5, .int .i64 (n : Nat)), (6, v6), (9, .mp idm), (10, .int .i64 ((KS n s).length : Nat)), (11, .int .i64 (s : Nat))] H R := by
  intro k
  have hP10 := PL_len hn
  have hpw : 2 ^ (PL n n).length ≤ 1024 := Nat.pow_le_pow_right (by decide) hP10
  have hshl := shl_i64 hP10
  obtain ⟨N, hN⟩ : ∃ N, 2 ^ (PL n n).length = N := ⟨_, rfl⟩
  have h9 : n ≤ 9 := by omega
  rw [hN] at hpw hshl ⊢
  induction k with
  | zero =>
    intro s hs H g h
    obtain rfl : s = N := by omega
    have hpl := (PR6.of g.pairs rfl).1
    rw [wp_round c6_l3.eq_1]
    simp [go_sem, hpl, hshl]
    exact h H g
  | succ k ih =>
    intro s hs H g h
    have hlt : s < N := by omega
    have hP := PR6.of g.pairs rfl
    have hpl := hP.1
    have hnext := ih (s + 1) (by omega)
    have hw := i64_suc (show s < 1000000 by omega)
    rw [wp_round c6_l3.eq_1]
    simp [go_sem, hpl, hshl, hlt, storeWp, astore, AV.isTup, AV.cells, setCells]
    have hy0 : Y0 H.length n (sbF (PL n n) s 0) .nils H (H ++ [.row 0 [.int .i64 (n : Nat), .nils] 0 true]) :=
      ⟨.inl ⟨by simp [sbF], rfl⟩, by simp, fun j hj => List.getElem?_append_left hj, by simp⟩
    refine l6c hP hP10 (show s < 2 ^ 20 by omega) (Nat.zero_le _) (Nat.zero_le _) (PL n n).length 0 (by omega) .nils _ hy0 fun v H1 y0 => ?_
    have hsb : sbF (PL n n) s (PL n n).length = SB n s := rfl
    rw [hsb] at y0
    have yy := y0.y
    have hok := SB_ok (n := n) (s := s)
    have hdis := SB_dis (s := s) hn
    have htidy := SB_tidy (s := s) hn
    have hfresh := KS_fresh (s := s) hn (by omega)
    have hslen : (SB n s).length ≤ 10 := Nat.le_trans SB_sub.length_le hP10
    have hks := KS_suc (n := n) (s := s)
    obtain ⟨T, hT⟩ : ∃ T, SB n s = T := ⟨_, rfl⟩
    rw [hT] at yy hok hdis htidy hfresh hslen hks
    simp [go_sem, aload, yy.cell, Ab.part]
    obtain ⟨u1, H2, p1, yy2, f1, _, _⟩ := yy.frz (bar := 0) (Nat.zero_le _)
    refine reW (fun _ _ _ => call27) f1 (ref_P p1) (k27 p1 (by omega) (Nat.zero_le _) ?_)
    simp [go_sem, aload, yy2.cell, Ab.part]
    obtain ⟨u2, H3, p2, yy3, f2, _, _⟩ := yy2.frz (bar := 0) (Nat.zero_le _)
    refine reW (fun _ _ _ => call35) f2 (ref_P p2) (k35 p2 (by omega) h1 h9 hok hdis (Nat.zero_le _) ?_)
    by_cases he : errT n T = 0
    · have ht := tre_of he
      have hm := mask_wd ht
      obtain ⟨wl, wv⟩ := wr_ok ht hm
      rw [if_pos he] at hks
      have hfr := hfresh he
      have hnl := num_lt ht
      have hwc : IntKind.i64.wrap ((((KS n s).length : Nat) : Int) + 1) = (((KS n (s + 1)).length : Nat) : Int) := by
        have : (KS n s).length ≤ s := by
          unfold KS
          exact Nat.le_trans (List.length_filterMap_le _ _) (by simp)
        rw [hks, List.length_append, List.length_singleton, Go.IntWalk.i64_in _ (by omega)]; omega
      simp [go_sem, he, aload, yy3.cell, Ab.part, hwc]
      obtain ⟨u3, H4, p3, yy4, f3, _, _⟩ := yy3.frz (bar := 0) (Nat.zero_le _)
      refine reW (fun _ _ _ => call23) f3 (ref_P p3) (k23 p3 (by omega) (Nat.zero_le _) (fun h0 => absurd he h0) fun m w u16 em _ _ _ hw' hu16 => ?_)
      obtain rfl : n = m := by omega
      obtain rfl := wd_unique hm hw'
      simp [go_sem, aload, yy4.cell, Ab.part]
      obtain ⟨u4, H5, p4, yy5, f4, _, _⟩ := yy4.frz (bar := 0) (Nat.zero_le _)
      refine reW (fun _ _ _ => call11) f4 (ref_P p4) (k11 p4 ht hm (Nat.zero_le _) ?_)
      rw [show nV n (wrF n (n - 2) (mask n T)) = num n T from rfl]
      simp [go_sem, aload, yy5.cell, Ab.part]
      obtain ⟨u5, H6, p5, yy6, f5, _, _⟩ := yy5.frz (bar := 0) (Nat.zero_le _)
      refine reW (fun _ _ _ => call36) f5 (ref_P p5) (k36 p5 ht hm (Nat.zero_le _) fun u36 hu36 => ?_)
      simp [go_sem]
      refine k20 hu16 hu36 (by omega) ?_
      have hidm : idm < H.length := (List.getElem?_eq_some_iff.1 g.map).1
      have hmap6 : H6[idm]? = some (.map (mks (KS n s))) := by rw [yy6.low idm hidm, g.map]
      have hcf : (KS n s).contains (num n T) = false := Bool.eq_false_iff.2 fun hh => hfr (by simpa using hh)
      simp [go_sem, show ¬ ((num n T : Nat) : Int) < 0 by omega]
      refine mlook_wp (x := num n T) rfl rfl hmap6 ?_
      rw [hcf]
      simp [go_sem]
      refine mupd_wp (x := num n T) rfl rfl rfl (Nat.zero_le _) hmap6 ?_
      rw [addS_fresh hfr, ← hks]
      have yy7 := yy6.set (b := .map (mks (KS n (s + 1)))) hidm
      have hmap7 : (H6.set idm (.map (mks (KS n (s + 1)))))[idm]? = some (.map (mks (KS n (s + 1)))) := List.getElem?_set_self (List.getElem?_eq_some_iff.1 hmap6).1
      generalize H6.set idm (.map (mks (KS n (s + 1)))) = H7 at *
      have hback : tidyF (tieB (rdAll n (wrF n (n - 2) (mask n T)))) n = T := by
        rw [show tieB (rdAll n (wrF n (n - 2) (mask n T))) = tieB T from funext fun x => funext fun y => read_write h9 h1 hm ht x y]
        exact htidy
      simp [go_sem]
      refine k25 (Code.isL.z hu16) (by simp [natsZ]; omega) (Nat.zero_le _) (fun h0 => absurd (rdE_good h1 h9 wl wv) h0) (fun m L' u20 em _ eL hu20 => ?_)
      obtain rfl : n = m := by omega
      obtain rfl := natsZ_inj eL
      rw [hback] at hu20
      obtain ⟨q20, hq20, rfl⟩ := hu20
      simp [go_sem, hq20.isTup, hq20.cells, storeWp, astore, AV.isTup, AV.cells, setCells]
      refine k13 (Nat.zero_le _) (fun h0 => absurd (nthE_good h1 h9 hnl) h0) (fun m y u21 em ey _ hu21 => ?_)
      obtain rfl : n = m := by omega
      obtain rfl : num n T = y := by omega
      rw [num_dg ht, hback] at hu21
      obtain ⟨q21, hq21, rfl⟩ := hu21
      have yy8 := yy7.more (G := [.row 0 [.int .i64 (n : Nat), q20] 0 true])
      have yy9 := yy8.more (G := [.row 0 [.int .i64 (n : Nat), q21] 0 true])
      rw [List.append_assoc] at yy9
      simp [go_sem, hq21.isTup, hq21.cells, storeWp, astore, AV.isTup, AV.cells, setCells, aload, Ab.part]
      have yc := yy9.cell
      simp only [List.cons_append, List.nil_append] at yc yy9
      simp [go_sem, yc]
      obtain ⟨u9, H10, p9, yy10, _, f9, l10, k10⟩ := yy9.frz (bar := 0) (Nat.zero_le _)
      have hvid : ∀ j, idOf v = some j → j < H7.length := fun j hj => (yy7.own.lt hj).2
      have b20 : H10[H7.length]? = some (.row 0 [.int .i64 (n : Nat), q20] 0 true) := by
        rw [k10 _ (fun e => by have := hvid _ e; omega)]; simp
      have b21 : H10[H7.length + 1]? = some (.row 0 [.int .i64 (n : Nat), q21] 0 true) := by
        rw [k10 _ (fun e => by have := hvid _ e; omega)]; simp
      have g1 : ∀ H, frzAll 0 H [q20, u9] = some ([q20, u9], H) := fun H => by simp [frzAll, frz.frzs, frzsW, hq20.frz, p9.frz]
      have f9' : ∀ q, isP q T → frzAll 0 (H7 ++ [.row 0 [.int .i64 (n : Nat), q20] 0 true, .row 0 [.int .i64 (n : Nat), q21] 0 true]) [q, v] = some ([q, u9], H10) := fun q hq => by
        simp only [frzAll, frz.frzs, frzsW, hq.frz, f9 5]
      refine reW (fun _ _ _ => call33) (f9' q20 hq20) (g1 H10) (k33 hq20 p9 (by omega) ?_)
      simp [go_sem, aload, yy10.cell, b21]
      obtain ⟨u11, H12, p11, yy12, _, f11, l12, k12⟩ := yy10.frz (bar := 0) (Nat.zero_le _)
      have f11' : frzAll 0 H10 [q21, v] = some ([q21, u11], H12) := by simp only [frzAll, frz.frzs, frzsW, hq21.frz, f11 5]
      have g2 : frzAll 0 H12 [q21, u11] = some ([q21, u11], H12) := by simp [frzAll, frz.frzs, frzsW, hq21.frz, p11.frz]
      refine reW (fun _ _ _ => call33) f11' g2 (k33 hq21 p11 (by omega) ?_)
      simp [go_sem, hw]
      have hJ : J6 n (s + 1) idm v6 tws H12 := g.next (fun j hj hne => by rw [yy12.low j hj, List.getElem?_set_ne (fun e => hne e.symm)]) (by rw [yy12.low idm hidm, List.getElem?_set_self hidm])
      simpa using hnext H12 hJ h
    · rw [if_neg he, List.append_nil] at hks
      simp [go_sem, he, hw]
      have := hnext H3 (g.keep hks yy3.low) h
      rw [hks] at this
      exact this
end Go.Proofs.YtoipleipokpnaaaGreat.Code
end
section
namespace Go.Proofs.YtoipleipokpnaaaGreat.Code
open Go Go.Ab
def rwP (a b : Nat) : List ZZ := (List.range' (a + 1) (b - (a + 1))).map fun y : Nat => ((a : Int), (y : Int))
theorem rwP_suc {a b : Nat} (h : a + 1 ≤ b) : rwP a (b + 1) = rwP a b ++ [((a : Int), (b : Int))] := by
  unfold rwP
  rw [show b + 1 - (a + 1) = (b - (a + 1)) + 1 by omega, List.range'_concat, List.map_append]
  simp
  omega
theorem PL_suc {n a : Nat} : PL n (a + 1) = PL n a ++ rwP a n := by
  unfold PL rwP
  rw [List.range_succ, List.flatMap_append]
  simp [show n - 1 - a = n - (a + 1) by omega]
theorem rwP_len {a b : Nat} : (rwP a b).length ≤ b := by unfold rwP; simp
theorem PL_le {n : Nat} : ∀ {a : Nat}, (PL n a).length ≤ a * n
  | 0 => by simp [PL]
  | a + 1 => by
    rw [PL_suc, List.length_append, Nat.add_mul, Nat.one_mul]
    have := PL_le (n := n) (a := a)
    have := rwP_len (a := a) (b := n)
    omega
theorem l6a {n a : Nat} {tws : List AV} {v3 : AV} (hn : n ≤ 5) (ha : a < n) {R : PQ} : ∀ (k b : Nat), b + k = n → a + 1 ≤ b → ∀ v H, O0 1 (PL n a ++ rwP a b) v H → H[0]? = some (.row 0 tws 0 true) →
    (∀ v' H', O0 1 (PL n (a + 1)) v' H' → H'[0]? = some (.row 0 tws 0 true) → R (.exit 2) [(3, v3), (5, .int .i64 (n : Nat)), (6, v'), (39, .int .i64 (n : Nat)), (40, .int .i64 (a : Nat)), (7, .int .i64 (a : Nat)), (8, .int .i64 (n : Nat)), (47, .bool false)] H') →
    Wp E 0 0 (.loop c6_l0) [(3, v3), (5, .int .i64 (n : Nat)), (6, v), (39, .int .i64 (n : Nat)), (40, .int .i64 (a : Nat)), (7, .int .i64 (a : Nat)), (8, .int .i64 (b : Nat))] H R := by
  intro k
  induction k with
  | zero =>
    intro b hb hab v H g ht h
    obtain rfl : b = n := by omega
    rw [← PL_suc] at g
    rw [wp_round c6_l0.eq_1]
    simp [go_sem]
    exact h v H g ht
  | succ k ih =>
    intro b hb hab v H g ht h
    have hlt : b < n := by omega
    have hw := i64_suc (show b < 1000000 by omega)
    have hnext := ih (b + 1) (by omega) (by omega)
    rw [rwP_suc hab, ← List.append_assoc] at hnext
    have h0 := (List.getElem?_eq_some_iff.1 ht).1
    have l1 := PL_le (n := n) (a := a)
    have l2 := rwP_len (a := a) (b := b)
    have l3 : a * n ≤ 5 * 5 := Nat.mul_le_mul (by omega) hn
    rw [wp_round c6_l0.eq_1]
    simp [go_sem, hlt, aop, evs, Opd.ev, fillA, chunks, AV.cells, setCells]
    refine g.pair (p := ((a : Int), (b : Int))) (by omega) (by omega) (by omega) (by rw [List.length_append]; omega) fun v' H' tc g' hl' hlow' => ?_
    simp [go_sem, hw]
    exact hnext v' H' g' (by rw [hlow' 0 (by omega), ht]) h
theorem l6b {n : Nat} {tws : List AV} {v3 : AV} (hn : n ≤ 5) {R : PQ} : ∀ (k a : Nat), a + k = n → ∀ v H, O0 1 (PL n a) v H → H[0]? = some (.row 0 tws 0 true) →
    (∀ v' H', O0 1 (PL n n) v' H' → H'[0]? = some (.row 0 tws 0 true) → R (.exit 0) [(3, v3), (5, .int .i64 (n : Nat)), (6, v'), (39, .int .i64 (n : Nat)), (40, .int .i64 (n : Nat)), (41, .bool false)] H') →
    Wp E 0 0 (.loop c6_l1) [(3, v3), (5, .int .i64 (n : Nat)), (6, v), (39, .int .i64 (n : Nat)), (40, .int .i64 (a : Nat))] H R := by
  intro k
  induction k with
  | zero =>
    intro a ha v H g ht h
    obtain rfl : a = n := by omega
    rw [wp_round c6_l1.eq_1]
    simp [go_sem]
    exact h v H g ht
  | succ k ih =>
    intro a ha v H g ht h
    have hlt : a < n := by omega
    have hw := i64_suc (show a < 1000000 by omega)
    have hin := fun (R : PQ) => l6a (n := n) (a := a) (tws := tws) (v3 := v3) hn hlt (R := R) (n - (a + 1)) (a + 1) (by omega) (by omega) v H (by simpa [rwP] using g) ht
    rw [wp_round c6_l1.eq_1]
    simp [go_sem, hlt, hw]
    refine hin _ fun v' H' g' ht' => ?_
    simp [go_sem, hw]
    exact ih (a + 1) (by omega) v' H' g' ht' h
theorem l6e {n cnt : Nat} {v3 v22 v23 : AV} {H : Heap} (h1 : 1 ≤ n) (hn : n ≤ 5) {R : PQ} 
    (h : ∀ v b, R (.exit 8) [(3, v3), (5, .int .i64 (n : Nat)), (10, .int .i64 (cnt : Nat)), (22, v22), (23, v23), (24, .int .i64 (n ^ (n - 2) : Nat)), (183, .int .i64 ((n : Int) - 2)), (184, v), (185, b)] H) : ∀ (k i : Nat), i + k = n - 2 → 
    Wp E 0 0 (.loop c6_l4) [(3, v3), (5, .int .i64 (n : Nat)), (10, .int .i64 (cnt : Nat)), (22, v22), (23, v23), (24, .int .i64 (n ^ i : Nat)), (183, .int .i64 ((n : Int) - 2)), (184, .int .i64 (i : Nat))] H R := by
  intro k
  induction k with
  | zero =>
    intro i hi
    obtain rfl : i = n - 2 := by omega
    have hc : ¬ ((n - 2 : Nat) : Int) < (n : Int) - 2 := by omega
    rw [wp_round c6_l4.eq_1]
    generalize n ^ (n - 2) = N at *
    generalize n - 2 = m at *
    simp [go_sem, hc]
    exact h _ _
  | succ k ih =>
    intro i hi
    have hlt : (i : Int) < (n : Int) - 2 := by omega
    have hw := i64_suc (show i < 1000000 by omega)
    have hnext := ih (i + 1) (by omega)
    rw [Nat.pow_succ] at hnext
    have hp : n ^ i ≤ 5 ^ 5 := Nat.le_trans (Nat.pow_le_pow_left hn i) (Nat.pow_le_pow_right (by decide) (by omega))
    generalize n ^ i = M at *
    have hmul : M * n ≤ 5 ^ 5 * 5 := Nat.mul_le_mul hp hn
    have hwm : IntKind.i64.wrap ((M : Int) * (n : Int)) = ((M * n : Nat) : Int) := by
      rw [← Int.natCast_mul]
      generalize M * n = X at *
      exact Go.IntWalk.i64_in _ (by omega)
    rw [wp_round c6_l4.eq_1]
    generalize M * n = X at *
    simp [go_sem, hlt, hwm, hw]
    exact hnext
end Go.Proofs.YtoipleipokpnaaaGreat.Code
end
section
namespace Go.Proofs.YtoipleipokpnaaaGreat.Code
open Go Go.Ab
set_option maxHeartbeats 2000000 in
set_option maxRecDepth 20000 in
/-- law 6: BranchCayley -/
theorem cayley_true {f : Nat → Nat} {a : Nat} (ha : a < 256) (hf : ∀ i, f i < 256) : ∃ f' H', acall E f' 6 [.int .u8 (a : Nat), .agg (tw f)] [] = some (.bool true, H') := by
  have key : WpCall E false 0 0 6 [.int .u8 (a : Nat), .agg (tw f)] [] (fun v _ => v = .bool true) := by
    rw [call6]
    have e0 : frzAll 0 [] [.int .u8 (a : Nat), .agg (tw f)] = some ([.int .u8 (a : Nat), .agg (tw f)], []) := by
      simp [frzAll, frz.frzs, frzsW, frz_agg, frz_int, plains (d := 5) tw_plain]
    rw [e0]
    obtain ⟨n, hN⟩ : ∃ n, n = 1 + a % 5 := ⟨_, rfl⟩
    have hn : n ≤ 5 := by omega
    have h1 : 1 ≤ n := by omega
    have h9 : n ≤ 9 := by omega
    have wa : IntKind.i64.wrap ((a : Nat) : Int) = ((a : Nat) : Int) := Go.IntWalk.i64_in _ (by omega)
    have r1 : abin .rem (.int .i64 ((a : Nat) : Int)) (.int .i64 5) = some (.int .i64 ((a % 5 : Nat) : Int)) := rem_n (x := a) (m := 5) (by omega)
    have r2 : IntKind.i64.wrap (1 + ((a % 5 : Nat) : Int)) = ((n : Nat) : Int) := by rw [Go.IntWalk.i64_in _ (by omega)]; omega
    generalize a % 5 = a5 at *
    simp [go_sem, WpFun, c6, aload, AV.isTup, AV.cells, wa, r1, r2]
    refine l6b (tws := tw f) hn n 0 (by omega) .nils _ (.inl ⟨by simp [PL], rfl⟩) (by simp) fun v6 H1 g1 ht1 => ?_
    simp [go_sem, aop]
    have J0 : J6 n 0 H1.length v6 (tw f) (H1 ++ [.map []]) := by
      have ht0 := (List.getElem?_eq_some_iff.1 ht1).1
      refine ⟨?_, by simp [mks, KS], by rw [List.getElem?_append_left ht0, ht1]⟩
      rcases g1 with e | ⟨id, ver, q1, q2, q3, q4⟩
      · exact .inl e
      · exact .inr ⟨id, ver, q1, Nat.zero_le _, q3, by rw [List.getElem?_append_left (List.getElem?_eq_some_iff.1 q4).1, q4]⟩
    refine l6d (tws := tw f) h1 hn (2 ^ (PL n n).length) 0 (by omega) _ J0 fun H2 J2 => ?_
    rw [KS_len h1 hn]
    have hcV : cntV (n : Int) = n ^ (n - 2) := by unfold cntV; rw [if_pos ⟨by omega, by omega⟩, Int.toNat_natCast]
    have hcE : cntE (n : Int) = 0 := by unfold cntE; rw [if_pos ⟨by omega, by omega⟩]
    have hsub2 : IntKind.i64.wrap ((n : Int) - 2) = (n : Int) - 2 := Go.IntWalk.i64_in _ (by omega)
    generalize 2 ^ (PL n n).length = NN at *
    have hle := fun (v3 v22 v23 : AV) (cnt : Nat) (H : Heap) (R : PQ) hR => l6e (v3 := v3) (v22 := v22) (v23 := v23) (cnt := cnt) (H := H) h1 hn (R := R) hR (n - 2) 0 (by omega)
    have hnth : nthE (n : Int) ((n ^ (n - 2) : Nat) : Int) = 1 := by
      unfold nthE
      rw [if_neg (by rw [hcE]; simp), if_neg (by rw [hcV]; omega)]
    obtain ⟨C, hC⟩ : ∃ C, n ^ (n - 2) = C := ⟨_, rfl⟩
    rw [hC] at hcV hle hnth ⊢
    simp [go_sem]
    refine k9 ?_
    rw [hcV, hcE]
    simp [go_sem, hsub2]
    refine hle _ _ _ _ _ _ fun v b => ?_
    simp [go_sem]
    refine k13 (Nat.zero_le _) (fun _ => ?_) (fun m y u em ey e0 _ => absurd e0 (by rw [hnth]; decide))
    rw [hnth]
    have hC2 : ∀ G : Heap, (H2 ++ G)[0]? = some (.row 0 (tw f) 0 true) := fun G => by rw [List.getElem?_append_left (List.getElem?_eq_some_iff.1 J2.tw).1, J2.tw]
    simp [go_sem, storeWp, astore, AV.isTup, AV.cells, setCells]
    have hal : ∀ G, aload (H2 ++ G) ⟨true, 18⟩ (.ptr 0 0 0) = some (.agg (tw f)) := fun G => by
      rw [aload_ptr (hC2 G)]
      simp [Ab.part, tw_len, List.take_of_length_le]
    simp [go_sem, hal]
    obtain ⟨m, hm⟩ : ∃ m, m = f 0 % 9 + 1 := ⟨_, rfl⟩
    have m9 : m ≤ 9 := by omega
    have m1 : 1 ≤ m := by omega
    have ht := tre_of (errT_tw (f := f) m1 m9)
    refine k29 (m := 9) hf (by omega) (by omega) hm (Nat.zero_le _) fun u hu => ?_
    generalize twT f m = l at *
    obtain ⟨q, hq, rfl⟩ := hu
    have hl := ht.full
    have hw := mask_wd ht
    obtain ⟨wl, wv⟩ := wr_ok ht hw
    have hback : tidyF (tieB (rdAll m (wrF m (m - 2) (mask m l)))) m = tidyF (tieB l) m := by
      rw [show tieB (rdAll m (wrF m (m - 2) (mask m l))) = tieB l from funext fun x => funext fun y => read_write m9 m1 hw ht x y]
    have htl := tidyF_length ht
    simp [go_sem, hq.isTup, hq.cells, storeWp, astore, AV.isTup, AV.cells, setCells]
    simp [go_sem, aload, Ab.part]
    refine k23 hq (by omega) (Nat.zero_le _) (fun h0 => absurd ht.errT h0) fun m' w' u28 em _ _ _ hw' hu28 => ?_
    obtain rfl : m = m' := by omega
    obtain rfl := wd_unique hw hw'
    simp [go_sem, aload, Ab.part]
    refine k11 hq ht hw (Nat.zero_le _) ?_
    rw [show nV m (wrF m (m - 2) (mask m l)) = num m l from rfl]
    simp [go_sem, aload, Ab.part]
    refine k36 hq ht hw (Nat.zero_le _) fun u36 hu36 => ?_
    simp [go_sem]
    refine k20 hu28 hu36 (by omega) ?_
    simp [go_sem, aload, Ab.part]
    refine k25 (Code.isL.z hu28) (by simp [natsZ]; omega) (Nat.zero_le _) (fun h0 => absurd (rdE_good m1 m9 wl wv) h0) (fun m' L' u30 em _ eL hu30 => ?_)
    obtain rfl : m = m' := by omega
    obtain rfl := natsZ_inj eL
    rw [hback] at hu30
    obtain ⟨q30, hq30, rfl⟩ := hu30
    simp [go_sem, hq30.isTup, hq30.cells, storeWp, astore, AV.isTup, AV.cells, setCells]
    simp [go_sem, aload, Ab.part]
    refine k13 (Nat.zero_le _) (fun h0 => absurd (nthE_good m1 m9 (num_lt ht)) h0) (fun m' y u31 em ey _ hu31 => ?_)
    obtain rfl : m = m' := by omega
    obtain rfl : num m l = y := by omega
    rw [num_dg ht, hback] at hu31
    obtain ⟨q31, hq31, rfl⟩ := hu31
    simp [go_sem, hq31.isTup, hq31.cells, storeWp, astore, AV.isTup, AV.cells, setCells]
    simp [go_sem, aload, Ab.part]
    refine k21 hq (by omega) (Nat.zero_le _) (fun h0 => absurd ht.errT h0) (fun m' u32 em _ hu32 => ?_)
    obtain rfl : m = m' := by omega
    obtain ⟨q32, hq32, rfl⟩ := hu32
    simp [go_sem, hq32.isTup, hq32.cells, storeWp, astore, AV.isTup, AV.cells, setCells]
    simp [go_sem, aload, Ab.part]
    refine k34 hq (by omega) (Nat.zero_le _) fun u34 S hu34 hS hsS => ?_
    obtain rfl := tidied_eq ht hS hsS
    simp [go_sem, aload, Ab.part]
    refine k33 hq30 hu34 (by omega) ?_
    simp [go_sem, aload, Ab.part]
    refine k33 hq31 hu34 (by omega) ?_
    simp [go_sem, aload, Ab.part]
    refine k33 hq32 hu34 (by omega) ?_
    simp [go_sem, call8]
  obtain ⟨f, v, H', h1, rfl⟩ := key
  exact ⟨f, H', h1⟩
end Go.Proofs.YtoipleipokpnaaaGreat.Code
end
