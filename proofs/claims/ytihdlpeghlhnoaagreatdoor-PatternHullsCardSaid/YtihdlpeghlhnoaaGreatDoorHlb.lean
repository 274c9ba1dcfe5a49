/-
  Contracts of functions: Hull, Sheared, and the reference's; the law about them.
-/
import Derived.Test.YtihdlpeghlhnoaaGreatDoorHla
import Derived.Test.YtihdlpeghlhnoaaGreatDoorKit
set_option linter.all false
section
section
namespace Go.Proofs.YtihdlpeghlhnoaaGreatDoor.Code
open Go Go.Ab
open Go.Proofs.Pt hiding ZZ
variable {pure : Bool} {base bar : Nat} {H : Heap} {Q : AV → Heap → Prop} {K : AV → Heap → List Nat → Prop}
attribute [local go_sem] AV.isTup AV.cells
theorem OwnS.weak {k k' : Nat} {l : List ZZ} {v : AV} (g : OwnS k l v H) (h : k' ≤ k) : OwnS k' l v H := by
  rcases g with a | ⟨id, ver, cs, h0, hk, r⟩
  · exact .inl a
  · exact .inr ⟨id, ver, cs, h0, by omega, r⟩
theorem OwnS.frz {k d : Nat} {l : List ZZ} {v : AV} (g : OwnS k l v H) (hl : l ≠ []) (hb : bar ≤ k) : ∃ H', Go.Ab.frz (d + 3) bar H v = some (.lst 2 false (prA l), H') ∧ H'.length = H.length ∧ (∀ j, j < k → H'[j]? = H[j]?) := by
  rcases g with ⟨e, _⟩ | ⟨id, ver, cs, h0, hk, rfl, hg, q1, q2⟩
  · exact absurd e hl
  · refine ⟨H.set id (.row ver cs (max 0 (0 + l.length * 2)) false), ?_, by simp, fun j hj => List.getElem?_set_ne (by omega)⟩
    have hc : 0 + l.length * 2 ≤ cs.length := by omega
    have hcs : (cs.drop 0).take (l.length * 2) = prs l := by rw [List.drop_zero, Nat.mul_comm]; exact q2
    rw [show d + 3 = (d + 2) + 1 from rfl, Go.Ab.frz]
    simp only [hg]
    rw [if_pos ⟨trivial, hc, by omega⟩, hcs, plains (d := d) (prs_plain (l := l))]
    simp only [chunks_two]
theorem asrc_own {k : Nat} {l : List ZZ} {v : AV} (g : OwnS k l v H) : asrc H 2 v = some (prs l) := by
  rcases g with ⟨rfl, rfl⟩ | ⟨id, ver, cs, h0, hk, rfl, hg, q1, q2⟩
  · rfl
  · simp [asrc, hg]
    refine ⟨by omega, ?_⟩
    rw [Nat.mul_comm l.length 2]; exact q2
theorem setCells_many : ∀ (vs : List AV) {cs : List AV} {o : Nat}, o + vs.length ≤ cs.length → (setCells cs o vs).take (o + vs.length) = cs.take o ++ vs
  | [], cs, o, _ => by simp [setCells]
  | a :: r, cs, o, h => by
    simp only [List.length_cons] at h
    rw [setCells, show o + (a :: r).length = (o + 1) + r.length by simp; omega, setCells_many r (by rw [List.length_set]; omega)]
    rw [List.take_add_one, List.getElem?_set_self (by omega)]
    rw [List.take_set_of_le (Nat.le_refl _)]
    simp
theorem OwnS.app {k : Nat} {l m : List ZZ} {v y : AV} (g : OwnS k l v H) (hl : l ≠ []) (hm : m ≠ []) (hs : asrc H 2 y = some (prs m)) (hb : bar ≤ k) (hbase : base ≤ k) (hlen : l.length + m.length < 100000)
    (h : ∀ v' H' tc, OwnS k (l ++ m) v' H' → H.length = H'.length → (∀ j, j < k → H'[j]? = H[j]?) → K v' H' tc) : appWp base bar 2 16 (some v) (some y) H K := by
  have hz : frzAll bar H (prs m) = some (prs m, H) := by
    have := plains (d := 6) (bar := bar) (H := H) (prs_plain (l := m))
    simpa [frzAll, frz.frzs] using this
  have hne : (prs m).isEmpty = false := by cases m with
    | nil => exact absurd rfl hm
    | cons a r => rfl
  have hnv : AV.noVec.noVecs (prs m) = true := noVecs_prs
  rcases g with ⟨e, _⟩ | ⟨id, ver, cs, h0, hki, rfl, hg, h1, h2⟩
  · exact absurd e hl
  · have hid := (List.getElem?_eq_some_iff.1 hg).1
    have hpl := prs_length (l := m)
    have hsame : ∀ b : Blk, ∀ j, j < k → (H.set id b)[j]? = H[j]? := fun b j hj => List.getElem?_set_ne (by omega)
    have c0 : ¬ cs.length < l.length * 2 := by omega
    have c1 : ¬ 140737488355328 < (l.length + m.length) * 16 := by omega
    have hdv : (prs m).length / 2 = m.length := by rw [hpl]; omega
    have hdd : 2 ∣ (prs m).length := by rw [hpl]; exact Nat.dvd_mul_right ..
    by_cases hcap : (l.length + m.length) * 2 ≤ cs.length
    · have h2' : (setCells cs (l.length * 2) (prs m)).take (2 * (l ++ m).length) = prs (l ++ m) := by
        rw [show 2 * (l ++ m).length = l.length * 2 + (prs m).length by simp [hpl]; omega, setCells_many _ (by omega), Nat.mul_comm l.length 2, h2, prs_append]
      have := h (.vec id ver 0 (l.length + m.length) 2) (H.set id (.row ver (setCells cs (l.length * 2) (prs m)) 0 false)) [id]
        (.inr ⟨id, ver, _, by simp [hl], hki, by simp, List.getElem?_set_self hid, by rw [setCells_length]; simp; omega, h2'⟩) (by simp) (hsame _)
      simp [appWp, hs, hz, aappend, hnv, hg, c0, c1, hcap, hne, hdv, hdd, show bar ≤ id by omega, show base ≤ id by omega]
      exact this
    · have h2' : (cs.take (l.length * 2) ++ prs m).take (2 * (l ++ m).length) = prs (l ++ m) := by
        rw [Nat.mul_comm l.length 2, h2, List.take_of_length_le (by simp [prs_length]; omega), prs_append]
      have := h (.vec id (ver + 1) 0 (l.length + m.length) 2) (H.set id (.row (ver + 1) (cs.take (l.length * 2) ++ prs m) 0 false)) [id]
        (.inr ⟨id, ver + 1, _, by simp [hl], hki, by simp, List.getElem?_set_self hid, by simp [hpl]; omega, h2'⟩) (by simp) (hsame _)
      simp [appWp, hs, hz, aappend, hnv, hg, c0, c1, hcap, hne, hdv, hdd, show bar ≤ id by omega, show base ≤ id by omega]
      exact this
end Go.Proofs.YtihdlpeghlhnoaaGreatDoor.Code
end

section
namespace Go.Proofs.YtihdlpeghlhnoaaGreatDoor.Code
open Go Go.Ab
open Go.Proofs.Pt hiding ZZ
variable {pure : Bool} {base bar : Nat} {H : Heap} {Q : AV → Heap → Prop} {K : AV → Heap → List Nat → Prop}
attribute [local go_sem] AV.isTup AV.cells
/-- sorted points, by their numbers -/
def kx : ZZ := (13, 1)
theorem srt_asc {l S : List ZZ} (hl : Laid l) (hS : S.Perm l) (hs : srt S) : Asc kx S := by
  have hn : S.Nodup := hS.nodup_iff.2 hl.nd
  have hall : ∀ p ∈ S, inG p = true := fun p hp => hl.inG p (hS.mem_iff.1 hp)
  refine List.Pairwise.imp_of_mem (fun {a b} ha hb h => ?_) (List.Pairwise.and hs hn)
  have h1 := hall a ha
  have h2 := hall b hb
  obtain ⟨h3, h4⟩ := h
  simp only [inG, Bool.and_eq_true, decide_eq_true_eq] at h1 h2
  have h5 : ¬ (a.1 = b.1 ∧ a.2 = b.2) := fun e => h4 (Prod.ext e.1 e.2)
  unfold ltZ at h3
  simp only [kap, kx]
  omega
theorem chain_ge {l S : List ZZ} (hl : Laid l) (hS : S.Perm l) (hs : srt S) : 2 ≤ (chainF S).length ∧ 2 ≤ (chainF S.reverse).length := by
  have ha := srt_asc hl hS hs
  have hlen : S.length = l.length := hS.length_eq
  have hlo := hl.lo
  rcases S with _ | ⟨p, r⟩
  · simp at hlen; omega
  · have hr : r ≠ [] := fun e => by rw [e] at hlen; simp at hlen; omega
    obtain ⟨m, hm⟩ : ∃ m, (p :: r).getLast? = some m := by
      cases h : (p :: r).getLast? with
      | none => simp at h
      | some m => exact ⟨m, rfl⟩
    refine ⟨(chain_two ha hr hm).1, ?_⟩
    obtain ⟨ys, hys⟩ := List.getLast?_eq_some_iff.1 hm
    have hrv : (p :: r).reverse = m :: ys.reverse := by rw [hys]; simp
    have ha2 := ha.rev
    rw [hrv] at ha2 ⊢
    have hys0 : ys.reverse ≠ [] := by
      intro e
      have e' : ys = [] := by simpa using e
      subst e'
      simp at hys
      exact hr hys.2
    exact (chain_two ha2 hys0 (by rw [← hrv]; simp : (m :: ys.reverse).getLast? = some p)).1
theorem chainG_len : ∀ {l st : List ZZ}, (chainG st l).length ≤ st.length + l.length
  | [], st => by simp [chainG]
  | p :: l, st => by
    have := chainG_len (l := l) (st := p :: popS st p)
    have h2 := popS_len (p := p) (st := st)
    simp [chainG] at this ⊢; omega
theorem OwnS.vec {k : Nat} {l : List ZZ} {v : AV} (g : OwnS k l v H) (hl : l ≠ []) : ∃ id ver, v = .vec id ver 0 l.length 2 := by
  rcases g with ⟨e, _⟩ | ⟨id, ver, cs, h0, hki, rfl, hg, h1, h2⟩
  · exact absurd e hl
  · exact ⟨id, ver, rfl⟩
theorem hullF_eq {S : List ZZ} : hullF S = (chainF S).dropLast ++ (chainF S.reverse).dropLast := rfl
def hullV (S : List ZZ) : AV := if (hullF S).length < 3 then .tup [.nils, .int .i64 5] else .tup [.lst 2 false (prA (hullF S)), .int .i64 0]
theorem k43 {ex : Bool} {l : List ZZ} (hb : bar ≤ H.length) (hl : l.length < 1000) (h1 : laidF l ≠ 0 → Q (.tup [.nils, .int .i64 (laidF l)]) H)
    (h2 : laidF l = 0 → ∀ S : List ZZ, S.Perm l → srt S → Q (hullV S) H) : WpCall E false base bar 43 [.lst 2 ex (prA l)] H Q := by
  rw [call43]
  simp [go_sem, WpFun, c43]
  refine k74 hb hl ?_
  by_cases h0 : laidF l = 0
  · have hL := laidF_ok h0
    have hlo := hL.lo
    have hhi := hL.hi
    have hne : l ≠ [] := fun e => by rw [e] at hlo; simp at hlo
    simp [go_sem, h0]
    refine k94 (v := .lst 2 ex (prA l)) rfl rfl ?_
    simp [go_sem]
    refine k93 (ex := ex) (l := l) hne (by omega) (by simp; omega) (by simp) fun S hS hsS => ?_
    simp [go_sem]
    obtain ⟨cb, ca⟩ := chain_ge hL hS hsS
    have hSl : S.length = l.length := hS.length_eq
    have cbl : (chainF S).length ≤ 8 := by have := chainG_len (l := S) (st := []); unfold chainF; simp at this ⊢; omega
    have cal : (chainF S.reverse).length ≤ 8 := by have := chainG_len (l := S.reverse) (st := []); unfold chainF; simp at this ⊢; omega
    have hgp : ∀ p ∈ S, GP p := fun p hp => inG_gp (hL.inG p (hS.mem_iff.1 hp))
    have hh := h2 h0 S hS hsS
    unfold hullV hullF at hh
    obtain ⟨B, b, eB⟩ : ∃ B b, chainF S = B ++ [b] := by
      rcases List.eq_nil_or_concat (chainF S) with e | ⟨A', y, e⟩
      · rw [e] at cb; simp at cb
      · exact ⟨A', y, by rw [e, List.concat_eq_append]⟩
    obtain ⟨A, a, eA⟩ : ∃ A a, chainF S.reverse = A ++ [a] := by
      rcases List.eq_nil_or_concat (chainF S.reverse) with e | ⟨A', y, e⟩
      · rw [e] at ca; simp at ca
      · exact ⟨A', y, by rw [e, List.concat_eq_append]⟩
    rw [eB, eA] at hh
    rw [eB] at cb cbl
    rw [eA] at ca cal
    simp only [List.dropLast_concat, List.length_append, List.length_singleton] at hh cb ca cbl cal
    have hB : B ≠ [] := fun e => by rw [e] at cb; simp at cb
    have hA : A ≠ [] := fun e => by rw [e] at ca; simp at ca
    have hk0 : H.length + 2 = (H ++ [Blk.row 0 [AV.lst 2 ex (prA l)] 0 true, Blk.row 0 (prs S) 0 false]).length := by simp
    have hblk : (H ++ [Blk.row 0 [AV.lst 2 ex (prA l)] 0 true, Blk.row 0 (prs S) 0 false])[H.length + 1]? = some (.row 0 (prs S) 0 false) := by
      rw [List.getElem?_append_right (by omega)]; simp
    have hpre : ∀ j, j < H.length → (H ++ [Blk.row 0 [AV.lst 2 ex (prA l)] 0 true, Blk.row 0 (prs S) 0 false])[j]? = H[j]? := fun j hj => List.getElem?_append_left hj
    generalize (H ++ [Blk.row 0 [AV.lst 2 ex (prA l)] 0 true, Blk.row 0 (prs S) 0 false]) = H1 at *
    refine k96 (L := S) hblk hSl (by omega) hgp (by omega) fun v1 H2 g1 hl2 hs2 => ?_
    obtain ⟨s1, s2⟩ := g1.slot
    simp [go_sem, s1, s2]
    have hblk2 : H2[H.length + 1]? = some (.row 0 (prs S) 0 false) := by rw [hs2 _ (by omega)]; exact hblk
    refine k58 (L := S) hblk2 hSl (by omega) (by omega) (by omega) ?_
    simp [go_sem, s1, s2]
    have hid2 : H.length + 1 < H2.length := by omega
    have hblk3 : (H2.set (H.length + 1) (.row 0 (prs S.reverse) 0 false))[H.length + 1]? = some (.row 0 (prs S.reverse) 0 false) := List.getElem?_set_self hid2
    have g1' : OwnS H1.length (chainF S) v1 (H2.set (H.length + 1) (.row 0 (prs S.reverse) 0 false)) := g1.mono fun j hj => List.getElem?_set_ne (by have := (g1.lt hj).1; omega)
    have hl3 : (H2.set (H.length + 1) (.row 0 (prs S.reverse) 0 false)).length = H2.length := by simp
    have hs3 : ∀ j, j < H.length → (H2.set (H.length + 1) (.row 0 (prs S.reverse) 0 false))[j]? = H[j]? := fun j hj => by
      rw [List.getElem?_set_ne (by omega), hs2 j (by omega), hpre j hj]
    generalize (H2.set (H.length + 1) (.row 0 (prs S.reverse) 0 false)) = H3 at *
    refine k96 (L := S.reverse) hblk3 (by rw [List.length_reverse]; exact hSl) (by omega) (fun p hp => hgp p (by simpa using hp)) (by omega) fun v2 H4 g2 hl4 hs4 => ?_
    have g1'' : OwnS H1.length (chainF S) v1 H4 := g1'.mono fun j hj => hs4 j (g1'.lt hj).2
    rw [eB] at g1''
    rw [eA] at g2
    obtain ⟨id1, ver1, rfl⟩ := g1''.vec (by simp)
    obtain ⟨id2, ver2, rfl⟩ := g2.vec (by simp)
    simp only [List.length_append, List.length_singleton] at g1'' g2 ⊢
    obtain ⟨f1, f2⟩ := g1''.slice hB
    obtain ⟨f3, f4⟩ := g2.slice hA
    have w1 : IntKind.i64.wrap (B.length : Int) = (B.length : Int) := i64_bd ⟨by omega, by omega⟩
    have w2 : IntKind.i64.wrap (A.length : Int) = (A.length : Int) := i64_bd ⟨by omega, by omega⟩
    simp [go_sem, w1, w2, aop, Opd.evo, f1, f3]
    have hH4 : ∀ j, j < H.length → H4[j]? = H[j]? := fun j hj => by rw [hs4 j (by omega), hs3 j hj]
    have hlenE : (B ++ A).length = B.length + A.length := List.length_append
    refine OwnS.app (k := H.length) (l := B) (m := A) (f2.weak (by omega)) hB hA (asrc_own f4) hb (Nat.le_refl _) (by omega) fun v8 H5 tc g8 hl5 hs5 => ?_
    obtain ⟨r1, r2⟩ := g8.slot
    have hln := g8.len
    simp [go_sem, r1, r2, hln]
    have htk : ∀ G : Heap, (∀ j, j < H.length → G[j]? = H5[j]?) → H5.length ≤ G.length → G.take H.length = H := fun G hG hGl => by
      refine List.ext_getElem? fun j => ?_
      rw [List.getElem?_take]
      split
      · rename_i hj
        rw [hG j hj, hs5 j hj, hH4 j hj]
      · rename_i hj
        rw [List.getElem?_eq_none (by omega)]
    have hBl : 1 ≤ B.length := by omega
    by_cases h3 : B.length + A.length < 3
    · rw [if_pos (by omega)] at hh
      rw [if_pos (by omega)]
      rw [htk H5 (fun _ _ => rfl) (Nat.le_refl _)]
      exact hh
    · rw [if_neg (by omega)] at hh
      rw [if_neg (by omega)]
      obtain ⟨H6, q1, q2, q3⟩ := g8.frz (d := 5) (bar := bar) (by simp [hB]) hb
      have q1' : Go.Ab.frz 8 bar H5 v8 = some (.lst 2 false (prA (B ++ A)), H6) := q1
      rw [q1']
      have htop : AV.top.tops [AV.lst 2 false (prA (B ++ A)), AV.int .i64 0] = 0 := by
        rw [tops_cons, tops_cons, tops_nil]
        have : (AV.lst 2 false (prA (B ++ A))).top = 0 := isP.lst.top
        rw [this]; rfl
      simp only [leave0_some, htop]
      rw [if_pos (Nat.zero_le _), htk H6 (fun j hj => q3 j hj) (by omega)]
      exact hh
  · simp [go_sem, h0]
    exact h1 h0
end Go.Proofs.YtihdlpeghlhnoaaGreatDoor.Code
end

section
namespace Go.Proofs.YtihdlpeghlhnoaaGreatDoor.Code
open Go Go.Ab
open Go.Proofs.Pt hiding ZZ
variable {pure : Bool} {base bar : Nat} {H : Heap} {Q : AV → Heap → Prop} {K : AV → Heap → List Nat → Prop}
attribute [local go_sem] aload astore storeWp Ab.part AV.isTup AV.cells setCells
/-! the reference -/
theorem k85 {n a b : Int} : WpCall E pure base bar 85 [.int .i64 n, .int .i64 a, .int .i64 b] H Q ↔ Q (.bool (inI n a b)) H := by
  rw [call85]
  simp [go_sem, WpFun, c85]
  unfold inI
  by_cases h : a ≤ n <;> simp [h]
theorem k85s (n a b : Int) : ∀ (pure : Bool) (base bar : Nat) (H : Heap) (Q : AV → Heap → Prop), WpCall E pure base bar 85 [.int .i64 n, .int .i64 a, .int .i64 b] H Q ↔ Q (.bool (inI n a b)) H := fun _ _ _ _ _ => k85
theorem k97 {a b p : ZZ} (ha : GP a) (hb : GP b) (hp : GP p) : WpCall E pure base bar 97 [ptA a, ptA b, ptA p] H Q ↔ Q (.int .i64 (leftP a b p)) H := by
  rw [call97]
  obtain ⟨⟨p1, p2⟩, p3, p4⟩ := ha
  obtain ⟨⟨q1, q2⟩, q3, q4⟩ := hb
  obtain ⟨⟨r1, r2⟩, r3, r4⟩ := hp
  have m1 := Bd.mul (a := 100) (b := 100) (x := b.1 - a.1) (y := p.2 - a.2) ⟨by omega, by omega⟩ ⟨by omega, by omega⟩
  have m2 := Bd.mul (a := 100) (b := 100) (x := b.2 - a.2) (y := p.1 - a.1) ⟨by omega, by omega⟩ ⟨by omega, by omega⟩
  unfold Bd at m1 m2
  have e1 : IntKind.i64.wrap (b.1 - a.1) = b.1 - a.1 := i64_bd ⟨by omega, by omega⟩
  have e2 : IntKind.i64.wrap (p.2 - a.2) = p.2 - a.2 := i64_bd ⟨by omega, by omega⟩
  have e3 : IntKind.i64.wrap (b.2 - a.2) = b.2 - a.2 := i64_bd ⟨by omega, by omega⟩
  have e4 : IntKind.i64.wrap (p.1 - a.1) = p.1 - a.1 := i64_bd ⟨by omega, by omega⟩
  have e5 : IntKind.i64.wrap ((b.1 - a.1) * (p.2 - a.2)) = (b.1 - a.1) * (p.2 - a.2) := i64_bd ⟨by omega, by omega⟩
  have e6 : IntKind.i64.wrap ((b.2 - a.2) * (p.1 - a.1)) = (b.2 - a.2) * (p.1 - a.1) := i64_bd ⟨by omega, by omega⟩
  have e7 : IntKind.i64.wrap ((b.1 - a.1) * (p.2 - a.2) - (b.2 - a.2) * (p.1 - a.1)) = (b.1 - a.1) * (p.2 - a.2) - (b.2 - a.2) * (p.1 - a.1) := i64_bd ⟨by omega, by omega⟩
  simp [go_sem, WpFun, c97, ptA, zc, leftP, e1, e2, e3, e4, e5, e6, e7]
theorem k97s {a b p : ZZ} (ha : GP a) (hb : GP b) (hp : GP p) : ∀ (pure : Bool) (base bar : Nat) (H : Heap) (Q : AV → Heap → Prop), WpCall E pure base bar 97 [.agg [.int .i64 a.1, .int .i64 a.2], .agg [.int .i64 b.1, .int .i64 b.2], .agg [.int .i64 p.1, .int .i64 p.2]] H Q ↔ Q (.int .i64 (leftP a b p)) H := fun _ _ _ _ _ => k97 ha hb hp
theorem min_if {x y : Int} : (if y < x then y else x) = min x y := by split <;> omega
theorem max_if {x y : Int} : (if x < y then y else x) = max x y := by split <;> omega
theorem mm_min {x y : Int} : (if y < x then y else x) = min x y := min_if
set_option maxRecDepth 20000 in
theorem k79 {p a b : ZZ} (hp : GP p) (ha : GP a) (hb : GP b) : WpCall E pure base bar 79 [ptA p, ptA a, ptA b] H Q ↔ Q (.bool (onP p a b)) H := by
  rw [call79]
  have x1 := k97s ha hb hp
  simp [go_sem, WpFun, c79, ptA, zc, x1]
  unfold onP
  by_cases h : leftP a b p = 0
  · simp [go_sem, h, aop, evs, Opd.ev, k85s, min_if, max_if]
    cases inI p.1 (min a.1 b.1) (max a.1 b.1) <;> simp
  · simp [go_sem, h]
theorem k79s {p a b : ZZ} (hp : GP p) (ha : GP a) (hb : GP b) : ∀ (pure : Bool) (base bar : Nat) (H : Heap) (Q : AV → Heap → Prop), WpCall E pure base bar 79 [.agg [.int .i64 p.1, .int .i64 p.2], .agg [.int .i64 a.1, .int .i64 a.2], .agg [.int .i64 b.1, .int .i64 b.2]] H Q ↔ Q (.bool (onP p a b)) H := fun _ _ _ _ _ => k79 hp ha hb
theorem k66 {n : Int} : WpCall E pure base bar 66 [.int .i64 n] H Q ↔ Q (.int .i64 (signI n)) H := by
  rw [call66]
  unfold signI
  simp [go_sem, WpFun, c66]
  by_cases h1 : 0 < n
  · simp [h1]
  · by_cases h2 : n < 0 <;> simp [h1, h2]
theorem k66s (n : Int) : ∀ (pure : Bool) (base bar : Nat) (H : Heap) (Q : AV → Heap → Prop), WpCall E pure base bar 66 [.int .i64 n] H Q ↔ Q (.int .i64 (signI n)) H := fun _ _ _ _ _ => k66
theorem sign_bd (n : Int) : signI n = 1 ∨ signI n = -1 ∨ signI n = 0 := by unfold signI; split <;> (try split) <;> simp
theorem sign_mul (x y : Int) : IntKind.i64.wrap (signI x * signI y) = signI x * signI y := by
  rcases sign_bd x with h | h | h <;> rcases sign_bd y with h' | h' | h' <;> rw [h, h'] <;> rfl
set_option maxRecDepth 20000 in
theorem k80 {a b c d : ZZ} (ha : GP a) (hb : GP b) (hc : GP c) (hd : GP d) : WpCall E pure base bar 80 [ptA a, ptA b, ptA c, ptA d] H Q ↔ Q (.bool (meetR a b c d)) H := by
  rw [call80]
  have x1 := k79s ha hc hd
  have x2 := k79s hb hc hd
  have x3 := k79s hc ha hb
  have x4 := k79s hd ha hb
  have y1 := k97s ha hb hc
  have y2 := k97s ha hb hd
  have y3 := k97s hc hd ha
  have y4 := k97s hc hd hb
  simp [go_sem, WpFun, c80, ptA, zc, x1]
  unfold meetR
  generalize onP a c d = b1 at *
  generalize onP b c d = b2 at *
  generalize onP c a b = b3 at *
  generalize onP d a b = b4 at *
  cases b1 <;> simp [go_sem, x2]
  cases b2 <;> simp [go_sem, x3]
  cases b3 <;> simp [go_sem, x4]
  cases b4 <;> simp [go_sem, y1, y2, k66s, sign_mul, AV.noVec.noVecs, AV.noVec]
  by_cases q1 : signI (leftP a b c) * signI (leftP a b d) < 0
  · simp [go_sem, q1, y3, y4, k66s, sign_mul, AV.noVec.noVecs, AV.noVec]
  · simp [go_sem, q1]
theorem k80s {a b c d : ZZ} (ha : GP a) (hb : GP b) (hc : GP c) (hd : GP d) : ∀ (pure : Bool) (base bar : Nat) (H : Heap) (Q : AV → Heap → Prop), WpCall E pure base bar 80 [.agg [.int .i64 a.1, .int .i64 a.2], .agg [.int .i64 b.1, .int .i64 b.2], .agg [.int .i64 c.1, .int .i64 c.2], .agg [.int .i64 d.1, .int .i64 d.2]] H Q ↔ Q (.bool (meetR a b c d)) H := fun _ _ _ _ _ => k80 ha hb hc hd
theorem k72 {p : ZZ} : WpCall E pure base bar 72 [ptA p] H Q ↔ Q (.bool (inG p)) H := by
  rw [call72]
  simp [go_sem, WpFun, c72, ptA, zc, k85s]
  unfold inG inI
  by_cases h : (decide (0 ≤ p.1) && decide (p.1 ≤ 12)) = true
  · simp [go_sem, h, k85s, inI]
  · simp only [Bool.not_eq_true] at h
    simp [go_sem, h]
theorem k72s (p : ZZ) : ∀ (pure : Bool) (base bar : Nat) (H : Heap) (Q : AV → Heap → Prop), WpCall E pure base bar 72 [.agg [.int .i64 p.1, .int .i64 p.2]] H Q ↔ Q (.bool (inG p)) H := fun _ _ _ _ _ => k72
end Go.Proofs.YtihdlpeghlhnoaaGreatDoor.Code
end

section
namespace Go.Proofs.YtihdlpeghlhnoaaGreatDoor.Code
open Go Go.Ab
open Go.Proofs.Pt hiding ZZ
variable {pure : Bool} {base bar : Nat} {H : Heap} {Q : AV → Heap → Prop} {K : AV → Heap → List Nat → Prop}
attribute [local go_sem] aload astore storeWp Ab.part AV.isTup AV.cells setCells
theorem prA_getE {l : List ZZ} {i : Nat} (h : i < (prA l).length) : (prA l)[i] = .agg [.int .i64 (l[i]'(by simpa [prA] using h)).1, .int .i64 (l[i]'(by simpa [prA] using h)).2] := by simp [prA, zc]
theorem l78a {R : PQ} {ex : Bool} {l : List ZZ} (hl : l.length < 1000) {i : Nat} (hi : i < l.length) : ∀ (d k : Nat), k + d = i → (∀ x ∈ l.take k, x ≠ l[i]) →
    (l[i] ∈ l.take i → R .ret [(2, .int .i64 6)] H) →
    (l[i] ∉ l.take i → R (.exit 2) [(0, .lst 2 ex (prA l)), (3, .int .i64 (i : Int)), (4, .int .i64 (i : Int)), (25, .bool false)] H) →
    Wp E base bar (.loop c78_l0) [(0, .lst 2 ex (prA l)), (3, .int .i64 (i : Int)), (4, .int .i64 (k : Int))] H R := by
  intro d
  induction d with
  | zero =>
    intro k hk hn h1 h2
    obtain rfl : k = i := by omega
    rw [wp_round c78_l0.eq_1]
    simp [go_sem]
    exact h2 fun hm => hn _ hm rfl
  | succ d ih =>
    intro k hk hn h1 h2
    have hki : k < i := by omega
    have hkl : k < l.length := by omega
    have e1 := i64s (i := k) (by omega)
    rw [wp_round c78_l0.eq_1]
    by_cases he : l[k] = l[i]
    · have hm : l[i] ∈ l.take i := by
        rw [← he]
        exact List.mem_take_iff_getElem.2 ⟨k, by omega, rfl⟩
      simp [go_sem, hki, prA_get hkl, prA_get hi, eqWp_pt, he]
      exact h1 hm
    · simp [go_sem, hki, prA_get hkl, prA_get hi, eqWp_pt, he, e1]
      refine ih (k + 1) (by omega) (fun x hx => ?_) h1 h2
      rw [List.take_add_one, List.getElem?_eq_getElem hkl] at hx
      rcases List.mem_append.1 hx with hx | hx
      · exact hn x hx
      · simp only [Option.toList_some, List.mem_singleton] at hx
        subst hx; exact he
theorem l78b {R : PQ} {ex : Bool} {l : List ZZ} (hl : l.length < 1000) : ∀ (d i : Nat), i + d = l.length →
    (laidG (l.take i) (l.drop i) ≠ 0 → R .ret [(2, .int .i64 (laidG (l.take i) (l.drop i)))] H) →
    (laidG (l.take i) (l.drop i) = 0 → R (.exit 0) [(0, .lst 2 ex (prA l)), (3, .int .i64 (l.length : Int)), (14, .bool false)] H) →
    Wp E base bar (.loop c78_l1) [(0, .lst 2 ex (prA l)), (3, .int .i64 (i : Int))] H R := by
  intro d
  induction d with
  | zero =>
    intro i hi h1 h2
    obtain rfl : i = l.length := by omega
    rw [wp_round c78_l1.eq_1]
    simp [go_sem, prA_len]
    exact h2 (by simp [laidG])
  | succ d ih =>
    intro i hi h1 h2
    have hil : i < l.length := by omega
    have e1 := i64s (i := i) (by omega)
    have hd : l.drop i = l[i] :: l.drop (i + 1) := List.drop_eq_getElem_cons hil
    have ht : l.take i ++ [l[i]] = l.take (i + 1) := by rw [List.take_add_one, List.getElem?_eq_getElem hil]; rfl
    rw [hd] at h1 h2
    simp only [laidG, ht] at h1 h2
    rw [wp_round c78_l1.eq_1]
    by_cases hg : inG l[i] = true
    · simp only [hg, if_true] at h1 h2
      simp [go_sem, hil, prA_len, prA_getE, k72s, hg]
      refine l78a (ex := ex) hl hil i 0 (by omega) (by simp) (fun hm => ?_) (fun hm => ?_)
      · rw [if_pos hm] at h1
        simp [go_sem]
        exact h1 (by decide)
      · rw [if_neg hm] at h1 h2
        simp [go_sem, e1]
        exact ih (i + 1) (by omega) h1 h2
    · have h1' := h1 (by simp [hg])
      simp only [hg, if_false, Bool.false_eq_true] at h1'
      simp [go_sem, hil, prA_len, prA_getE, k72s, hg]
      exact h1'
theorem k78 {ex : Bool} {l : List ZZ} (hl : l.length < 1000) (h : Q (.int .i64 (laidF l)) H) : WpCall E pure base bar 78 [.lst 2 ex (prA l)] H Q := by
  rw [call78]
  simp [go_sem, WpFun, c78, prA_len]
  unfold laidF at h
  by_cases h3 : l.length < 3
  · rw [if_pos h3] at h
    rw [if_pos (by omega)]; exact h
  · rw [if_neg h3] at h
    rw [if_neg (by omega)]
    by_cases h8 : 8 < l.length
    · rw [if_pos h8] at h
      rw [if_pos (by omega)]; exact h
    · rw [if_neg h8] at h
      rw [if_neg (by omega)]
      refine l78b (ex := ex) (l := l) hl l.length 0 (by omega) (fun _ => ?_) (fun h0 => ?_)
      · simp [go_sem]
        exact h
      · simp [go_sem]
        simp at h0
        rw [h0] at h; exact h
theorem k78n (h : Q (.int .i64 4) H) : WpCall E pure base bar 78 [.nils] H Q := by
  rw [call78]
  simp [go_sem, WpFun, c78]
  exact h
end Go.Proofs.YtihdlpeghlhnoaaGreatDoor.Code
end

section
namespace Go.Proofs.YtihdlpeghlhnoaaGreatDoor.Code
open Go Go.Ab
open Go.Proofs.Pt hiding ZZ
variable {pure : Bool} {base bar : Nat} {H : Heap} {Q : AV → Heap → Prop} {K : AV → Heap → List Nat → Prop}
attribute [local go_sem] aload astore storeWp Ab.part AV.isTup AV.cells setCells
def ptB (p : ZZ) : Blk := .row 0 [.int .i64 p.1, .int .i64 p.2] 0 true
theorem l28a {R : PQ} {ex : Bool} {l : List ZZ} (H : Heap) (hl : Laid l) (hb : bar ≤ H.length) {i : Nat} (hil : i < l.length) {c : Blk} : ∀ (d k : Nat), k + d = max (i + 2) l.length → i + 2 ≤ k →
    ((List.range' k d).any (refFar l i) = true → ∀ G, R .ret [(2, .int .i64 5)] (H ++ G)) →
    ((List.range' k d).any (refFar l i) = false → ∀ x G, R (.exit 2) [(0, .lst 2 ex (prA l)), (4, .int .i64 (l.length : Int)), (5, .int .i64 (i : Int)), (6, .ptr H.length 0 0), (7, .ptr (H.length + 1) 0 0), (9, x), (54, .bool false)] (H ++ G)) →
    Wp E H.length bar (.loop c28_l0) [(0, .lst 2 ex (prA l)), (4, .int .i64 (l.length : Int)), (5, .int .i64 (i : Int)), (6, .ptr H.length 0 0), (7, .ptr (H.length + 1) 0 0), (9, .int .i64 (k : Int))] (H ++ [ptB (atP l i), ptB (atP l (i + 1)), c]) R := by
  intro d
  induction d with
  | zero =>
    intro k hk _ h1 h2
    rw [wp_round c28_l0.eq_1]
    have hki : ¬ ((k : Int) < (l.length : Int)) := by omega
    simp [go_sem, hki]
    exact h2 (by simp) _ _
  | succ d ih =>
    intro k hk hik h1 h2
    have h3 := hl.lo; have h8 := hl.hi
    have hkl : k < l.length := by omega
    have hki : (k : Int) < (l.length : Int) := by omega
    have e1 := i64s (i := k) (by omega)
    have z := fun k => Nat.le_trans hb (Nat.le_add_right H.length k)
    obtain ⟨k', hk'⟩ : ∃ k', k' = (k + 1) % l.length := ⟨_, rfl⟩
    have hk'l : k' < l.length := by rw [hk']; exact Nat.mod_lt _ (by omega)
    have r2 : abin BinOp.rem (.int .i64 ((k + 1 : Nat) : Int)) (.int .i64 (l.length : Int)) = some (.int .i64 (k' : Int)) := by rw [rem_nat (by omega), hk']
    simp only [Int.natCast_add, Int.cast_ofNat_Int] at r2 e1
    have ec : atP l k = l[k] := by unfold atP; rw [Nat.mod_eq_of_lt hkl, List.getD_eq_getElem?_getD, List.getElem?_eq_getElem hkl]; rfl
    have ed : atP l (k + 1) = l[k'] := by unfold atP; rw [← hk', List.getD_eq_getElem?_getD, List.getElem?_eq_getElem hk'l]; rfl
    have y1 := k80s (hl.gp i) (hl.gp (i + 1)) (hl.gp k) (hl.gp (k + 1))
    rw [ec, ed] at y1
    rw [List.range'_succ, List.any_cons] at h1 h2
    have hf : refFar l i k = (decide (k' ≠ i) && meetR (atP l i) (atP l (i + 1)) l[k] l[k']) := by unfold refFar; rw [← hk', ec, ed]
    rw [hf] at h1 h2
    unfold ptB at ih ⊢
    have ihk := ih (k + 1) (by omega) (by omega)
    rw [wp_round c28_l0.eq_1]
    by_cases hi' : k' = i
    · have hn : ¬ ((k' : Int) ≠ (i : Int)) := by omega
      simp only [hi', ne_eq, not_true, decide_false, Bool.false_and, Bool.false_or] at h1 h2
      simp [go_sem, hki, hb, z, e1, r2, hi']
      exact ihk h1 h2
    · have hn : ((k' : Int) == (i : Int)) = false := by simp; omega
      simp only [ne_eq, hi', not_false_iff, decide_true, Bool.true_and] at h1 h2
      generalize meetR (atP l i) (atP l (i + 1)) l[k] l[k'] = t at *
      simp [go_sem, hki, hb, z, e1, r2, hn, prA_get hkl, prA_get hk'l, y1, AV.noVec.noVecs, AV.noVec]
      cases t
      · simp [go_sem, hki, hb, z, e1]
        exact ihk (by simpa using h1) (by simpa using h2)
      · simp [go_sem]
        exact h1 rfl _
theorem refAt_def {l : List ZZ} {i : Nat} : refAt l i = (refBack l i || (List.range' (i + 2) (l.length - (i + 2))).any (refFar l i)) := rfl
theorem l28b {R : PQ} {ex : Bool} {l : List ZZ} (H : Heap) (hl : Laid l) (hb : bar ≤ H.length) : ∀ (d i : Nat), i + d = l.length →
    (((List.range' i d).any (refAt l)) = true → ∀ G, R .ret [(2, .int .i64 5)] (H ++ G)) →
    (((List.range' i d).any (refAt l)) = false → R (.exit 0) [(0, .lst 2 ex (prA l)), (4, .int .i64 (l.length : Int)), (5, .int .i64 (l.length : Int)), (19, .bool false)] H) →
    Wp E base bar (.loop c28_l1) [(0, .lst 2 ex (prA l)), (4, .int .i64 (l.length : Int)), (5, .int .i64 (i : Int))] H R := by
  intro d
  induction d with
  | zero =>
    intro i hi h1 h2
    obtain rfl : i = l.length := by omega
    rw [wp_round c28_l1.eq_1]
    simp [go_sem]
    exact h2 (by simp)
  | succ d ih =>
    intro i hi h1 h2
    have h3 := hl.lo; have h8 := hl.hi
    have hil : i < l.length := by omega
    have e1 := i64s (i := i) (by omega)
    have e2 : IntKind.i64.wrap ((i : Int) + 2) = ((i + 2 : Nat) : Int) := by rw [i64_bd ⟨by omega, by omega⟩]; omega
    have z := fun k => Nat.le_trans hb (Nat.le_add_right H.length k)
    obtain ⟨i', hi'⟩ : ∃ i', i' = (i + 1) % l.length := ⟨_, rfl⟩
    obtain ⟨j', hj'⟩ : ∃ j', j' = (i + 2) % l.length := ⟨_, rfl⟩
    have hi'l : i' < l.length := by rw [hi']; exact Nat.mod_lt _ (by omega)
    have hj'l : j' < l.length := by rw [hj']; exact Nat.mod_lt _ (by omega)
    have r1 : abin BinOp.rem (.int .i64 ((i + 1 : Nat) : Int)) (.int .i64 (l.length : Int)) = some (.int .i64 (i' : Int)) := by rw [rem_nat (by omega), hi']
    have r2 : abin BinOp.rem (.int .i64 ((i + 2 : Nat) : Int)) (.int .i64 (l.length : Int)) = some (.int .i64 (j' : Int)) := by rw [rem_nat (by omega), hj']
    have ea : atP l i = l[i] := by unfold atP; rw [Nat.mod_eq_of_lt hil, List.getD_eq_getElem?_getD, List.getElem?_eq_getElem hil]; rfl
    have eb : atP l (i + 1) = l[i'] := by unfold atP; rw [← hi', List.getD_eq_getElem?_getD, List.getElem?_eq_getElem hi'l]; rfl
    have ec : atP l (i + 2) = l[j'] := by unfold atP; rw [← hj', List.getD_eq_getElem?_getD, List.getElem?_eq_getElem hj'l]; rfl
    have y1 := k79s (hl.gp i) (hl.gp (i + 1)) (hl.gp (i + 2))
    have y2 := k79s (hl.gp (i + 2)) (hl.gp i) (hl.gp (i + 1))
    have hin := fun R => l28a (R := R) (ex := ex) (bar := bar) H hl hb hil (c := ptB (atP l (i + 2))) (max (i + 2) l.length - (i + 2)) (i + 2) (by omega) (Nat.le_refl _)
    have hbk : refBack l i = (onP (atP l i) (atP l (i + 1)) (atP l (i + 2)) || onP (atP l (i + 2)) (atP l i) (atP l (i + 1))) := rfl
    rw [List.range'_succ, List.any_cons, refAt_def, hbk] at h1 h2
    have hmx : max (i + 2) l.length - (i + 2) = l.length - (i + 2) := by omega
    rw [hmx] at hin
    unfold ptB at hin
    rw [ea, eb, ec] at y1 y2 hin h1 h2
    simp only [Int.natCast_add, Int.cast_ofNat_Int] at r1 r2 e1 e2 hin
    rw [wp_round c28_l1.eq_1]
    simp [go_sem, hil]
    rw [wp_twin]
    simp [go_sem, wptwin_cons, wptwin_nil, twinNext, hb, z, AV.top, tops_cons, tops_nil, Nat.ble, prA_get hil, prA_get hi'l, prA_get hj'l, e1, e2, r1, r2]
    generalize onP l[i] l[i'] l[j'] = t1 at *
    generalize onP l[j'] l[i] l[i'] = t2 at *
    generalize ((List.range' (i + 2) (l.length - (i + 2))).any (refFar l i)) = t3 at *
    simp [go_sem, y1, y2, e2]
    refine ⟨by rw [tops_prA]; exact Nat.zero_le _, ?_⟩
    cases t1
    · cases t2
      · simp only [Bool.false_or, Bool.false_eq_true, if_false] at h1 h2 ⊢
        refine hin _ (fun h3 G => ?_) (fun h3 x G => ?_)
        · simp [go_sem]
          exact h1 (by rw [h3]; rfl) _
        · rw [h3, Bool.false_or] at h1 h2
          simp [go_sem, e1, tops_prA]
          exact ih (i + 1) (by omega) h1 h2
      · simp only [Bool.false_eq_true, if_false, if_true]
        exact h1 (by simp) _
    · simp only [if_true]
      exact h1 (by simp) _
theorem k28 {ex : Bool} {l : List ZZ} (hb : bar ≤ H.length) (hl : l.length < 1000) (h : Q (.int .i64 (checkF l)) H) : WpCall E pure base bar 28 [.lst 2 ex (prA l)] H Q := by
  rw [call28]
  have hz : (if pure = true then H.length else bar) ≤ H.length := barUp (pure := pure) hb 0
  simp [go_sem, WpFun, c28]
  unfold checkF at h
  refine k78 hl ?_
  by_cases h0 : laidF l = 0
  · have hL := laidF_ok h0
    rw [if_pos h0, ← refBad_eq hL.lo] at h
    simp [go_sem, h0, prA_len]
    refine l28b (ex := ex) H hL hz l.length 0 (by omega) (fun hs G => ?_) (fun hs => ?_)
    · have hs' : refBad l = true := hs
      rw [if_pos hs'] at h
      simp [go_sem]; exact h
    · have hs' : refBad l = false := hs
      rw [hs'] at h
      simp [go_sem]; exact h
  · rw [if_neg h0] at h
    simp [go_sem, h0]
    exact h
theorem k28n (h : Q (.int .i64 4) H) : WpCall E pure base bar 28 [.nils] H Q := by
  rw [call28]
  simp [go_sem, WpFun, c28]
  refine k78n ?_
  simp [go_sem]
  exact h
end Go.Proofs.YtihdlpeghlhnoaaGreatDoor.Code
end

section
namespace Go.Proofs.YtihdlpeghlhnoaaGreatDoor.Code
open Go Go.Ab
open Go.Proofs.Pt hiding ZZ
variable {pure : Bool} {base bar : Nat} {H : Heap} {Q : AV → Heap → Prop} {K : AV → Heap → List Nat → Prop}
attribute [local go_sem] AV.isTup AV.cells
/-- a point sheared -/
def shp (by' : Int) (up : Bool) (p : ZZ) : ZZ := if up then (p.1, p.2 + by' * p.1) else (p.1 + by' * p.2, p.2)
theorem prs_at : ∀ {L : List ZZ} {i : Nat} (hi : i < L.length), (prs L)[i * 2]? = some (.int .i64 L[i].1) ∧ (prs L)[i * 2 + 1]? = some (.int .i64 L[i].2) := by
  intro L i hi
  have h := prs_drop (L := L) (i := i)
  rw [List.drop_eq_getElem_cons hi] at h
  have h' : (prs L).drop (2 * i) = .int .i64 L[i].1 :: .int .i64 L[i].2 :: prs (L.drop (i + 1)) := h
  constructor
  · have := congrArg (·[0]?) h'
    simp only [List.getElem?_drop, List.getElem?_cons_zero] at this
    rw [Nat.mul_comm i 2]; exact this
  · have := congrArg (·[1]?) h'
    simp only [List.getElem?_drop, List.getElem?_cons_succ, List.getElem?_cons_zero] at this
    rw [Nat.mul_comm i 2]; exact this
theorem prs_put0 {L : List ZZ} {i : Nat} {x : Int} (hi : i < L.length) : (prs L).set (i * 2) (.int .i64 x) = prs (L.set i (x, L[i].2)) := by
  rw [← prs_set hi, Nat.mul_comm i 2]
  simp only [zc, setCells]
  obtain ⟨_, h1⟩ := prs_at hi
  apply List.ext_getElem?
  intro j
  by_cases hj : j = 2 * i + 1
  · subst hj
    rw [List.getElem?_set_ne (by omega), List.getElem?_set_self (by rw [List.length_set, prs_length]; omega)]
    rw [show 2 * i + 1 = i * 2 + 1 by omega]; exact h1
  · rw [List.getElem?_set_ne (fun e => hj e.symm)]
theorem prs_put1 {L : List ZZ} {i : Nat} {y : Int} (hi : i < L.length) : (prs L).set (i * 2 + 1) (.int .i64 y) = prs (L.set i (L[i].1, y)) := by
  rw [← prs_set hi, Nat.mul_comm i 2]
  simp only [zc, setCells]
  obtain ⟨h1, _⟩ := prs_at hi
  congr 1
  symm
  apply List.ext_getElem?
  intro j
  by_cases hj : j = 2 * i
  · subst hj
    rw [List.getElem?_set_self (by rw [prs_length]; omega), show 2 * i = i * 2 by omega]; exact h1.symm
  · rw [List.getElem?_set_ne (fun e => hj e.symm)]
theorem min_ok {p : ZZ} : (decide (0 ≤ min p.1 p.2) && decide (min p.1 p.2 ≤ 12)) = true ∧ ¬ (12 < max p.1 p.2) ↔ inG p = true := by
  unfold inG
  simp only [Bool.and_eq_true, decide_eq_true_eq]
  omega
theorem l41 {R : PQ} {id n : Nat} {by' : Int} {up : Bool} {H0 : Heap} (hby : -3 ≤ by' ∧ by' ≤ 3) (hid : id < H0.length) (hb : bar ≤ id) (hbase : base ≤ id) (hn : n < 100) : ∀ (d i : Nat), i + d = n → ∀ (L : List ZZ), L.length = n → (∀ p ∈ L.drop i, inG p = true) →
    ((∃ p ∈ L.drop i, inG (shp by' up p) = false) → ∀ G, (∀ j, j ≠ id → G[j]? = H0[j]?) → H0.length = G.length → R .ret [(6, .nils), (7, .int .i64 13)] G) →
    ((∀ p ∈ L.drop i, inG (shp by' up p) = true) → ∀ x, R (.exit 1) [(1, .int .i64 by'), (2, .bool up), (9, .vec id 0 0 n 2), (25, .int .i64 (n : Int)), (26, .int .i64 (n : Int)), (27, x)] (H0.set id (.row 0 (prs (L.take i ++ (L.drop i).map (shp by' up))) 0 false))) →
    Wp E base bar (.loop c41_l0) [(1, .int .i64 by'), (2, .bool up), (9, .vec id 0 0 n 2), (25, .int .i64 (n : Int)), (26, .int .i64 (i : Int))] (H0.set id (.row 0 (prs L) 0 false)) R := by
  intro d
  induction d with
  | zero =>
    intro i hi L hL _ h1 h2
    obtain rfl : i = n := by omega
    rw [wp_round c41_l0.eq_1]
    simp [go_sem]
    have := h2 (by rw [List.drop_of_length_le (by omega)]; simp) (.bool false)
    rw [List.drop_of_length_le (by omega), List.take_of_length_le (by omega)] at this
    simpa using this
  | succ d ih =>
    intro i hi L hL hg h1 h2
    have hin : i < n := by omega
    have hiL : i < L.length := by omega
    have e1 := i64s (i := i) (by omega)
    have hd : L.drop i = L[i] :: L.drop (i + 1) := List.drop_eq_getElem_cons hiL
    have hmem : L[i] ∈ L[i] :: L.drop (i + 1) := List.mem_cons_self ..
    rw [← hd] at hmem
    have hgi := hg L[i] hmem
    obtain ⟨p, hp⟩ : ∃ p, p = L[i] := ⟨_, rfl⟩
    rw [← hp] at hgi
    have hgp := inG_gp hgi
    unfold GP at hgp
    have hblk : (H0.set id (.row 0 (prs L) 0 false))[id]? = some (.row 0 (prs L) 0 false) := List.getElem?_set_self hid
    obtain ⟨a1, a2⟩ := prs_at hiL
    rw [← hp] at a1 a2
    have A1 : aload (H0.set id (.row 0 (prs L) 0 false)) ⟨false, 1⟩ (.ptr id 0 (i * 2)) = some (.int .i64 p.1) := by rw [aload_ptr hblk]; exact a1
    have A2 : aload (H0.set id (.row 0 (prs L) 0 false)) ⟨false, 1⟩ (.ptr id 0 (i * 2 + 1)) = some (.int .i64 p.2) := by rw [aload_ptr hblk]; exact a2
    have m1 := Bd.mul (a := 3) (b := 100) (x := by') (y := p.1) ⟨by omega, by omega⟩ ⟨by omega, by omega⟩
    have m2 := Bd.mul (a := 3) (b := 100) (x := by') (y := p.2) ⟨by omega, by omega⟩ ⟨by omega, by omega⟩
    unfold Bd at m1 m2
    have w1 : IntKind.i64.wrap (by' * p.1) = by' * p.1 := i64_bd ⟨by omega, by omega⟩
    have w2 : IntKind.i64.wrap (by' * p.2) = by' * p.2 := i64_bd ⟨by omega, by omega⟩
    have w3 : IntKind.i64.wrap (p.2 + by' * p.1) = p.2 + by' * p.1 := i64_bd ⟨by omega, by omega⟩
    have w4 : IntKind.i64.wrap (p.1 + by' * p.2) = p.1 + by' * p.2 := i64_bd ⟨by omega, by omega⟩
    have hlen2 : (H0.set id (.row 0 (prs L) 0 false)).length = H0.length := by simp
    have hset2 : ∀ b c : Blk, (H0.set id b).set id c = H0.set id c := fun b c => by rw [List.set_set]
    have hpl := prs_length (l := L)
    have hsc : ∀ (cs : List AV) (o : Nat) (x : AV), setCells cs o [x] = cs.set o x := fun _ _ _ => rfl
    obtain ⟨q, hq⟩ : ∃ q, q = shp by' up p := ⟨_, rfl⟩
    have hd' : (L.set i q).drop (i + 1) = L.drop (i + 1) := by rw [List.drop_set_of_lt (by omega)]
    have ht' : (L.set i q).take (i + 1) = L.take i ++ [q] := by
      rw [List.take_add_one, List.getElem?_set_self (by omega), List.take_set_of_le (Nat.le_refl _)]; rfl
    have ihq := ih (i + 1) (by omega) (L.set i q) (by rw [List.length_set]; exact hL)
    rw [hd', ht'] at ihq
    rw [hd, ← hp] at h1 h2 hg
    have hiL' : i < (L.set i q).length := by rw [List.length_set]; exact hiL
    obtain ⟨b1, b2⟩ := prs_at hiL'
    rw [List.getElem_set_self] at b1 b2
    have hblk' : (H0.set id (.row 0 (prs (L.set i q)) 0 false))[id]? = some (.row 0 (prs (L.set i q)) 0 false) := List.getElem?_set_self hid
    have B1 : aload (H0.set id (.row 0 (prs (L.set i q)) 0 false)) ⟨false, 1⟩ (.ptr id 0 (i * 2)) = some (.int .i64 q.1) := by rw [aload_ptr hblk']; exact b1
    have B2 : aload (H0.set id (.row 0 (prs (L.set i q)) 0 false)) ⟨false, 1⟩ (.ptr id 0 (i * 2 + 1)) = some (.int .i64 q.2) := by rw [aload_ptr hblk']; exact b2
    have go2 : inG q = false → R .ret [(6, .nils), (7, .int .i64 13)] (H0.set id (.row 0 (prs (L.set i q)) 0 false)) := fun hf => h1 ⟨p, by simp, by rw [← hq]; exact hf⟩ _ (fun j hj => List.getElem?_set_ne (fun e => hj e.symm)) (by simp)
    have go1 : inG q = true → Wp E base bar (.loop c41_l0) [(1, .int .i64 by'), (2, .bool up), (9, .vec id 0 0 n 2), (25, .int .i64 (n : Int)), (26, .int .i64 ((i + 1 : Nat) : Int))] (H0.set id (.row 0 (prs (L.set i q)) 0 false)) R := fun ht => by
      refine ihq (fun x hx => hg x (by simp [hx])) (fun ⟨x, hx, hx2⟩ G hG hGl => h1 ⟨x, by simp [hx], hx2⟩ G hG hGl) (fun hall x => ?_)
      have := h2 (fun y hy => by
        rcases List.mem_cons.1 hy with rfl | hy
        · rw [← hq]; exact ht
        · exact hall y hy) x
      rw [List.map_cons, ← hq] at this
      rw [List.append_assoc, List.singleton_append]; exact this
    rw [wp_round c41_l0.eq_1]
    cases up
    case' false =>
      have hput : (prs L).set (i * 2) (.int .i64 (p.1 + by' * p.2)) = prs (L.set i q) := by rw [prs_put0 hiL, ← hp, hq]; rfl
      simp [go_sem, hin, A1, A2, w2, w4]
      rw [storeWp_ptr (size := 1) hblk rfl rfl (by omega) (by omega) hb (.inl hbase), hset2]
      simp only [AV.cells, hsc, hput]
    case' true =>
      have hput : (prs L).set (i * 2 + 1) (.int .i64 (p.2 + by' * p.1)) = prs (L.set i q) := by rw [prs_put1 hiL, ← hp, hq]; rfl
      simp [go_sem, hin, A1, A2, w1, w3]
      rw [storeWp_ptr (size := 1) hblk rfl rfl (by omega) (by omega) hb (.inl hbase), hset2]
      simp only [AV.cells, hsc, hput]
    all_goals
      simp [go_sem, B1, B2, aop, evs, Opd.ev, min_if, max_if, k70s, AV.noVec.noVecs, AV.noVec]
      rw [e1]
      by_cases hgq : inG q = true
      · have hm := min_ok.2 hgq
        simp only [Bool.and_eq_true, decide_eq_true_eq] at hm
        rw [if_pos hm.1, if_neg hm.2]
        exact go1 hgq
      · have hm : ¬ ((0 ≤ min q.1 q.2 ∧ min q.1 q.2 ≤ 12) ∧ ¬ 12 < max q.1 q.2) := fun e => hgq (min_ok.1 (by simpa using e))
        have hf := go2 (by simpa using hgq)
        by_cases c1 : 0 ≤ min q.1 q.2 ∧ min q.1 q.2 ≤ 12
        · rw [if_pos c1]
          by_cases c2 : 12 < max q.1 q.2
          · rw [if_pos c2]; exact hf
          · exact absurd ⟨c1, c2⟩ hm
        · rw [if_neg c1]; exact hf
/-- what shearing gives -/
def shearV (l : List ZZ) (by' : Int) (up : Bool) : AV := if checkF l ≠ 0 then .tup [.nils, .int .i64 (checkF l)] else if (decide (-3 ≤ by') && decide (by' ≤ 3)) = false then .tup [.nils, .int .i64 1] else
  if (l.map (shp by' up)).all inG = true then .tup [.lst 2 false (prA (l.map (shp by' up))), .int .i64 0] else .tup [.nils, .int .i64 13]
theorem check_laid {l : List ZZ} (h : checkF l = 0) : Laid l := by
  unfold checkF at h
  by_cases h0 : laidF l = 0
  · exact laidF_ok h0
  · rw [if_neg h0] at h; exact absurd h h0
theorem k41 {ex : Bool} {l : List ZZ} {by' : Int} {up : Bool} (hb : bar ≤ H.length) (hl : l.length < 1000) (h : Q (shearV l by' up) H) : WpCall E false base bar 41 [.lst 2 ex (prA l), .int .i64 by', .bool up] H Q := by
  rw [call41]
  simp [go_sem, WpFun, c41]
  refine k27 hb hl ?_
  unfold shearV at h
  by_cases h0 : checkF l = 0
  · rw [if_neg (by simpa using h0)] at h
    have hL := check_laid h0
    have hlo := hL.lo
    have hhi := hL.hi
    have hne : l ≠ [] := fun e => by rw [e] at hlo; simp at hlo
    have k70g := fun (pure : Bool) (base bar : Nat) (H : Heap) (Q : AV → Heap → Prop) => k70 (pure := pure) (base := base) (bar := bar) (H := H) (Q := Q) (n := by') (a := -3) (b := 3)
    simp [go_sem, h0, k70g]
    by_cases hby : (decide (-3 ≤ by') && decide (by' ≤ 3)) = true
    · rw [if_neg (by rw [hby]; decide)] at h
      simp only [Bool.and_eq_true, decide_eq_true_eq] at hby
      rw [if_neg (by omega)]
      refine k51 hne (by omega) hb ?_
      simp [go_sem]
      have hid : H.length < (H ++ [Blk.row 0 (prs l) 0 false]).length := by simp
      have hs0 : (H ++ [Blk.row 0 (prs l) 0 false]).set H.length (.row 0 (prs l) 0 false) = H ++ [Blk.row 0 (prs l) 0 false] := set_same (by simp)
      have hq := fun R => l41 (R := R) (id := H.length) (n := l.length) (by' := by') (up := up) (base := H.length) (bar := bar) (H0 := H ++ [Blk.row 0 (prs l) 0 false]) hby hid hb (Nat.le_refl _) (by omega) l.length 0 (by omega) l rfl (by simpa using hL.inG)
      rw [hs0] at hq
      refine hq _ (fun ⟨p, hp, hpf⟩ G hG hGl => ?_) (fun hall x => ?_)
      · have hno : (l.map (shp by' up)).all inG ≠ true := fun e => by
          have := List.all_eq_true.1 e (shp by' up p) (List.mem_map.2 ⟨p, by simpa using hp, rfl⟩)
          rw [hpf] at this; cases this
        rw [if_neg hno] at h
        have htk : G.take H.length = H := by
          refine List.ext_getElem? fun j => ?_
          rw [List.getElem?_take]
          split
          · rename_i hj
            rw [hG j (by omega), List.getElem?_append_left hj]
          · rename_i hj
            rw [List.getElem?_eq_none (by omega)]
        simp [go_sem, htk]
        exact h
      · have hyes : (l.map (shp by' up)).all inG = true := by
          rw [List.all_eq_true]
          intro y hy
          obtain ⟨p, hp, rfl⟩ := List.mem_map.1 hy
          exact hall p (by simpa using hp)
        rw [if_pos hyes] at h
        simp [go_sem]
        have hm : (l.map (shp by' up)).length = l.length := List.length_map ..
        have hmne : l.map (shp by' up) ≠ [] := fun e => by have := congrArg List.length e; rw [hm, List.length_nil] at this; omega
        have g : OwnS H.length (l.map (shp by' up)) (.vec H.length 0 0 l.length 2) (H ++ [.row 0 (prs (l.map (shp by' up))) 0 false]) :=
          .inr ⟨H.length, 0, prs (l.map (shp by' up)), hmne, Nat.le_refl _, by rw [hm], by simp, by rw [prs_length]; omega, by rw [List.take_of_length_le (by rw [prs_length]; omega)]⟩
        obtain ⟨H6, q1, q2, q3⟩ := g.frz (d := 5) (bar := bar) hmne hb
        have q1' : Go.Ab.frz 8 bar (H ++ [.row 0 (prs (l.map (shp by' up))) 0 false]) (.vec H.length 0 0 l.length 2) = some (.lst 2 false (prA (l.map (shp by' up))), H6) := q1
        rw [q1']
        have htop : AV.top.tops [AV.lst 2 false (prA (l.map (shp by' up))), AV.int .i64 0] = 0 := by
          rw [tops_cons, tops_cons, tops_nil]
          have : (AV.lst 2 false (prA (l.map (shp by' up)))).top = 0 := isP.lst.top
          rw [this]; rfl
        simp only [leave0_some, htop]
        have htk : H6.take H.length = H := by
          refine List.ext_getElem? fun j => ?_
          rw [List.getElem?_take]
          split
          · rename_i hj
            rw [q3 j hj, List.getElem?_append_left hj]
          · rename_i hj
            rw [List.getElem?_eq_none (by omega)]
        rw [if_pos (Nat.zero_le _), htk]
        exact h
    · have hf : (decide (-3 ≤ by') && decide (by' ≤ 3)) = false := by simpa using hby
      rw [if_pos hf] at h
      simp only [Bool.and_eq_true, decide_eq_true_eq] at hby
      rw [if_pos (by omega)]
      exact h
  · rw [if_pos (by simpa using h0)] at h
    simp [go_sem, h0]
    exact h
theorem k41n {by' : Int} {up : Bool} (h : Q (.tup [.nils, .int .i64 4]) H) : WpCall E false base bar 41 [.nils, .int .i64 by', .bool up] H Q := by
  rw [call41]
  simp [go_sem, WpFun, c41]
  refine k27n ?_
  simp [go_sem]
  exact h
end Go.Proofs.YtihdlpeghlhnoaaGreatDoor.Code
end

section
namespace Go.Proofs.YtihdlpeghlhnoaaGreatDoor.Code
open Go Go.Ab
open Go.Proofs.Pt hiding ZZ
variable {pure : Bool} {base bar : Nat} {H : Heap} {Q : AV → Heap → Prop} {K : AV → Heap → List Nat → Prop}
attribute [local go_sem] aload astore storeWp Ab.part AV.isTup AV.cells setCells
theorem l42 {R : PQ} {ex : Bool} {l : List ZZ} {by' : Int} {up : Bool} (H0 : Heap) (hby : -3 ≤ by' ∧ by' ≤ 3) (hl : l.length ≤ 8) (hg : ∀ p ∈ l, inG p = true) (hb : bar ≤ H0.length) : ∀ (d i : Nat), i + d = l.length → ∀ (v : AV) (H : Heap), Ab.Own H0.length 2 (prs ((l.take i).map (shp by' up))) v H → H0.length ≤ H.length → (∀ j, j < H0.length → H[j]? = H0[j]?) →
    ((∀ p ∈ l.drop i, inG (shp by' up p) = true) → ∀ v' H', Ab.Own H0.length 2 (prs (l.map (shp by' up))) v' H' → H0.length ≤ H'.length → (∀ j, j < H0.length → H'[j]? = H0[j]?) → R (.exit 0) [(0, .lst 2 ex (prA l)), (1, .int .i64 by'), (2, .bool up), (8, .int .i64 0), (9, v'), (10, .int .i64 (l.length : Int)), (28, .bool false)] H') →
    ((∃ p ∈ l.drop i, inG (shp by' up p) = false) → ∀ v' H' x, v'.isTup = false → v'.cells = [v'] → H0.length ≤ H'.length → (∀ j, j < H0.length → H'[j]? = H0[j]?) → R (.exit 0) [(0, .lst 2 ex (prA l)), (1, .int .i64 by'), (2, .bool up), (8, .int .i64 13), (9, v'), (10, .int .i64 x), (28, .bool false)] H') →
    Wp E H0.length bar (.loop c42_l0) [(0, .lst 2 ex (prA l)), (1, .int .i64 by'), (2, .bool up), (8, .int .i64 0), (9, v), (10, .int .i64 (i : Int))] H R := by
  intro d
  induction d with
  | zero =>
    intro i hi v H g hH hs h1 _
    obtain rfl : i = l.length := by omega
    obtain ⟨s1, s2⟩ := g.slot
    rw [List.take_length] at g
    rw [wp_round c42_l0.eq_1]
    simp [go_sem, prA_len, s2]
    exact h1 (by simp) v H g hH hs
  | succ d ih =>
    intro i hi v H g hH hs h1 h2
    have hil : i < l.length := by omega
    obtain ⟨s1, s2⟩ := g.slot
    have e1 := i64s (i := i) (by omega)
    have hd : l.drop i = l[i] :: l.drop (i + 1) := List.drop_eq_getElem_cons hil
    have ht : l.take (i + 1) = l.take i ++ [l[i]] := by rw [List.take_add_one, List.getElem?_eq_getElem hil]; rfl
    have hgi := hg l[i] (List.getElem_mem hil)
    rw [hd] at h1 h2
    have ihh := ih (i + 1) (by omega)
    rw [ht] at ihh
    obtain ⟨p, hp⟩ : ∃ p, p = l[i] := ⟨_, rfl⟩
    have hget := prA_get hil
    have hgetE : ∀ h, (prA l)[i]'h = .agg [.int .i64 p.1, .int .i64 p.2] := fun h => by rw [prA_getE, hp]
    rw [← hp] at hgi hget h1 h2 ihh
    have hgp := inG_gp hgi
    unfold GP at hgp
    have m1 := Bd.mul (a := 3) (b := 100) (x := by') (y := p.1) ⟨by omega, by omega⟩ ⟨by omega, by omega⟩
    have m2 := Bd.mul (a := 3) (b := 100) (x := by') (y := p.2) ⟨by omega, by omega⟩ ⟨by omega, by omega⟩
    unfold Bd at m1 m2
    have w1 : IntKind.i64.wrap (by' * p.1) = by' * p.1 := i64_bd ⟨by omega, by omega⟩
    have w2 : IntKind.i64.wrap (by' * p.2) = by' * p.2 := i64_bd ⟨by omega, by omega⟩
    have w3 : IntKind.i64.wrap (p.2 + by' * p.1) = p.2 + by' * p.1 := i64_bd ⟨by omega, by omega⟩
    have w4 : IntKind.i64.wrap (p.1 + by' * p.2) = p.1 + by' * p.2 := i64_bd ⟨by omega, by omega⟩
    have z : bar ≤ H.length := by omega
    have z' := fun k => Nat.le_trans z (Nat.le_add_right H.length k)
    obtain ⟨q, hq⟩ : ∃ q, q = shp by' up p := ⟨_, rfl⟩
    have g1 : Ab.Own H0.length 2 (prs ((l.take i).map (shp by' up))) v (H ++ [ptB q]) := g.mono fun j hj => List.getElem?_append_left (g.lt hj).2
    have hlt : (l.take i).length = i := by rw [List.length_take]; omega
    have fin : ∀ (K : AV → Heap → List Nat → Prop), (∀ v' H' tc, Ab.Own H0.length 2 (prs ((l.take i ++ [p]).map (shp by' up))) v' H' → H0.length ≤ H'.length → (∀ j, j < H0.length → H'[j]? = H0[j]?) → K v' H' tc) → appWp H0.length bar 2 16 (some v) (some (.lst 2 true [.agg [.int .i64 q.1, .int .i64 q.2]])) (H ++ [ptB q]) K := fun K hK => by
      refine Own.pair (k := H0.length) (p := q) g1 (by simp; omega) hb (Nat.le_refl _) (by simp; omega) fun v' H' tc g2 kp => hK v' H' tc ?_ ?_ fun j hj => ?_
      · rw [List.map_append, List.map_singleton, ← hq]; exact g2
      · have := kp.len; simp at this; omega
      · rw [kp.same j (by simp; omega) (fun e => by have := (g1.lt e).1; omega), List.getElem?_append_left (by omega), hs j hj]
    unfold ptB at fin
    rw [wp_round c42_l0.eq_1]
    cases up
    case' false =>
      have c1 : [AV.int .i64 (p.1 + by' * p.2), AV.int .i64 p.2] = [AV.int .i64 q.1, AV.int .i64 q.2] := by rw [hq]; rfl
      simp [go_sem, hil, prA_len, hgetE, z, z', s1, s2, w2, w4]
      rw [c1]
    case' true =>
      have c1 : [AV.int .i64 p.1, AV.int .i64 (p.2 + by' * p.1)] = [AV.int .i64 q.1, AV.int .i64 q.2] := by rw [hq]; rfl
      simp [go_sem, hil, prA_len, hgetE, z, z', s1, s2, w1, w3]
      rw [c1]
    all_goals
      by_cases hgq : inG q = true
      · simp [go_sem, k72s, hgq, aop, fillA, chunks, AV.noVec.noVecs, AV.noVec]
        refine fin _ fun v' H' tc g2 hl2 hs2 => ?_
        obtain ⟨t1, t2⟩ := g2.slot
        simp [go_sem, e1, t1, t2]
        refine ihh v' H' g2 hl2 hs2 (fun hall => h1 fun x hx => ?_) (fun ⟨x, hx, hx2⟩ => h2 ⟨x, by simp [hx], hx2⟩)
        rcases List.mem_cons.1 hx with rfl | hx
        · rw [← hq]; exact hgq
        · exact hall x hx
      · have hgf : inG q = false := by simpa using hgq
        simp [go_sem, k72s, hgf, aop, fillA, chunks, AV.noVec.noVecs, AV.noVec]
        refine fin _ fun v' H' tc g2 hl2 hs2 => ?_
        obtain ⟨t1, t2⟩ := g2.slot
        have hfin := h2 ⟨p, by simp, by rw [← hq]; exact hgf⟩ v' H' ((i + 1 : Nat) : Int) t1 t2 hl2 hs2
        simp [go_sem, e1, t1, t2]
        rw [wp_round c42_l0.eq_1]
        by_cases hil1 : ((i : Int) + 1) < (l.length : Int)
        · simp [go_sem, hil1, prA_len, t1, t2]
          exact hfin
        · simp [go_sem, hil1, prA_len, t1, t2]
          exact hfin
theorem k42 {ex : Bool} {l : List ZZ} {by' : Int} {up : Bool} (hb : bar ≤ H.length) (hl : l.length < 1000) (h : Q (shearV l by' up) H) : WpCall E false base bar 42 [.lst 2 ex (prA l), .int .i64 by', .bool up] H Q := by
  rw [call42]
  simp [go_sem, WpFun, c42]
  refine k28 hb hl ?_
  unfold shearV at h
  have k85g := fun (pure : Bool) (base bar : Nat) (H : Heap) (Q : AV → Heap → Prop) => k85s by' (-3) 3 pure base bar H Q
  have hz : ∀ (e : Int), e ≠ 0 → ∀ (v : AV), Wp E H.length bar (.loop c42_l0) [(0, .lst 2 ex (prA l)), (1, .int .i64 by'), (2, .bool up), (8, .int .i64 e), (9, .nils), (10, .int .i64 0)] H (fun x fr G => x = .exit 0 ∧ fr = [(0, .lst 2 ex (prA l)), (1, .int .i64 by'), (2, .bool up), (8, .int .i64 e), (9, .nils), (10, .int .i64 0), (28, .bool false)] ∧ G = H) := fun e he _ => by
    rw [wp_round c42_l0.eq_1]
    by_cases h0 : 0 < l.length
    · simp [go_sem, h0, prA_len, he]
    · simp [go_sem, h0, prA_len, he]
  by_cases h0 : checkF l = 0
  · rw [if_neg (by simpa using h0)] at h
    have hL := check_laid h0
    have hlo := hL.lo
    have hhi := hL.hi
    have hne : l ≠ [] := fun e => by rw [e] at hlo; simp at hlo
    by_cases hby : (decide (-3 ≤ by') && decide (by' ≤ 3)) = true
    · rw [if_neg (by rw [hby]; decide)] at h
      have hin : inI by' (-3) 3 = true := hby
      simp only [Bool.and_eq_true, decide_eq_true_eq] at hby
      simp [go_sem, h0, k85g, hin]
      refine l42 (ex := ex) (l := l) (up := up) H hby hhi hL.inG hb l.length 0 (by omega) .nils H .nil (Nat.le_refl _) (fun _ _ => rfl) (fun hall v' H' g h1 h2 => ?_) (fun hbad v' H' x t1 t2 h1 h2 => ?_)
      · have hyes : (l.map (shp by' up)).all inG = true := by
          rw [List.all_eq_true]
          intro y hy
          obtain ⟨p, hp, rfl⟩ := List.mem_map.1 hy
          exact hall p (by simpa using hp)
        rw [if_pos hyes] at h
        obtain ⟨t1, t2⟩ := g.slot
        simp [go_sem, t1, t2]
        obtain ⟨H6, q1, q2, q3, q4⟩ := g.frz (d := 5) (bar := bar) (by decide) (by rw [prs_length]; exact Nat.dvd_mul_right ..) (fun c hc => prs_plain c hc) hb
        have hmne : l.map (shp by' up) ≠ [] := fun e => by have := congrArg List.length e; rw [List.length_map, List.length_nil] at this; omega
        have q1' : Go.Ab.frz 8 bar H' v' = some (.lst 2 false (prA (l.map (shp by' up))), H6) := by rw [outL_prs, if_neg hmne] at q1; exact q1
        rw [q1']
        have htop : AV.top.tops [AV.lst 2 false (prA (l.map (shp by' up))), AV.int .i64 0] = 0 := by
          rw [tops_cons, tops_cons, tops_nil]
          have : (AV.lst 2 false (prA (l.map (shp by' up)))).top = 0 := isP.lst.top
          rw [this]; rfl
        simp only [leave0_some, htop]
        have htk : H6.take H.length = H := by
          refine List.ext_getElem? fun j => ?_
          rw [List.getElem?_take]
          split
          · rename_i hj
            rw [q4 j (fun e => by have := (g.lt e).1; omega), h2 j hj]
          · rename_i hj
            rw [List.getElem?_eq_none (by omega)]
        rw [if_pos (Nat.zero_le _), htk]
        exact h
      · obtain ⟨p, hp, hpf⟩ := hbad
        have hno : (l.map (shp by' up)).all inG ≠ true := fun e => by
          have := List.all_eq_true.1 e (shp by' up p) (List.mem_map.2 ⟨p, by simpa using hp, rfl⟩)
          rw [hpf] at this; cases this
        rw [if_neg hno] at h
        have htk : H'.take H.length = H := by
          refine List.ext_getElem? fun j => ?_
          rw [List.getElem?_take]
          split
          · rename_i hj
            rw [h2 j hj]
          · rename_i hj
            rw [List.getElem?_eq_none (by omega)]
        simp [go_sem, htk, t1, t2]
        exact h
    · have hf : (decide (-3 ≤ by') && decide (by' ≤ 3)) = false := by simpa using hby
      have hin : inI by' (-3) 3 = false := hf
      rw [if_pos hf] at h
      simp [go_sem, h0, k85g, hin]
      refine (hz 1 (by decide) .nils).mono fun x fr G ⟨e1, e2, e3⟩ => ?_
      subst e1 e2 e3
      simp [go_sem]
      exact h
  · rw [if_pos (by simpa using h0)] at h
    simp [go_sem, h0]
    refine (hz (checkF l) h0 .nils).mono fun x fr G ⟨e1, e2, e3⟩ => ?_
    subst e1 e2 e3
    simp [go_sem, h0]
    exact h
theorem k42n {by' : Int} {up : Bool} (h : Q (.tup [.nils, .int .i64 4]) H) : WpCall E false base bar 42 [.nils, .int .i64 by', .bool up] H Q := by
  rw [call42]
  simp [go_sem, WpFun, c42]
  refine k28n ?_
  simp [go_sem]
  rw [wp_round c42_l0.eq_1]
  simp [go_sem]
  exact h
end Go.Proofs.YtihdlpeghlhnoaaGreatDoor.Code
end

section
namespace Go.Proofs.YtihdlpeghlhnoaaGreatDoor.Code
open Go Go.Ab
open Go.Proofs.Pt hiding ZZ
variable {pure : Bool} {base bar : Nat} {H : Heap} {Q : AV → Heap → Prop} {K : AV → Heap → List Nat → Prop}
attribute [local go_sem] aload astore storeWp Ab.part AV.isTup AV.cells setCells
set_option maxRecDepth 20000 in
theorem l44a {R : PQ} {ex : Bool} {l : List ZZ} {v fp : AV} {now : ZZ} (X : Heap) (hl : l.length < 1000) (hgp : ∀ p ∈ l, GP p) (hnow : GP now) (hb : bar ≤ X.length) (hbase : base ≤ X.length) : ∀ (d i : Nat), i + d = l.length → ∀ (nx : ZZ), GP nx →
    R (.exit 4) [(0, .lst 2 ex (prA l)), (6, fp), (8, v), (9, .ptr X.length 0 0), (10, .ptr (X.length + 1) 0 0), (11, .int .i64 (l.length : Int)), (86, .bool false)] (X ++ [ptB now, ptB ((l.drop i).foldl (Pt.lookF now) nx)]) →
    Wp E base bar (.loop c44_l1) [(0, .lst 2 ex (prA l)), (6, fp), (8, v), (9, .ptr X.length 0 0), (10, .ptr (X.length + 1) 0 0), (11, .int .i64 (i : Int))] (X ++ [ptB now, ptB nx]) R := by
  intro d
  induction d with
  | zero =>
    intro i hi nx hnx h
    obtain rfl : i = l.length := by omega
    rw [wp_round c44_l1.eq_1]
    simp [go_sem, prA_len]
    rw [List.drop_length] at h
    exact h
  | succ d ih =>
    intro i hi nx hnx h
    have hil : i < l.length := by omega
    have e1 := i64s (i := i) (by omega)
    have hd : l.drop i = l[i] :: l.drop (i + 1) := List.drop_eq_getElem_cons hil
    have hgi := hgp l[i] (List.getElem_mem hil)
    rw [hd, List.foldl_cons] at h
    have ihh := ih (i + 1) (by omega)
    obtain ⟨q, hq⟩ : ∃ q, q = l[i] := ⟨_, rfl⟩
    have hgetE : ∀ h, (prA l)[i]'h = .agg [.int .i64 q.1, .int .i64 q.2] := fun h => by rw [prA_getE, hq]
    rw [← hq] at hgi h
    have z := fun k => Nat.le_trans hb (Nat.le_add_right X.length k)
    have zb := fun k => Nat.le_trans hbase (Nat.le_add_right X.length k)
    have x1 := k97s hnow hnx hgi
    have x2 := k79s hnx hnow hgi
    unfold ptB at ih ihh h ⊢
    rw [wp_round c44_l1.eq_1]
    by_cases c0 : q = now
    · have hk : Pt.lookF now nx q = nx := by unfold Pt.lookF; rw [if_pos c0]
      rw [hk] at h
      simp [go_sem, hil, prA_len, hgetE, eqWp_pt, c0, e1]
      exact ihh nx hnx h
    · by_cases c1 : nx = now
      · have hk : Pt.lookF now nx q = q := by unfold Pt.lookF; rw [if_neg c0, if_pos (.inl c1)]
        rw [hk] at h
        simp [go_sem, hil, prA_len, hgetE, eqWp_pt, c0, c1, z, zb, e1]
        exact ihh q hgi h
      · by_cases c2 : leftP now nx q < 0
        · have hk : Pt.lookF now nx q = q := by unfold Pt.lookF; rw [if_neg c0, if_pos (.inr (.inl c2))]
          rw [hk] at h
          simp [go_sem, hil, prA_len, hgetE, eqWp_pt, c0, c1, z, zb, e1, x1, c2, AV.noVec.noVecs, AV.noVec]
          exact ihh q hgi h
        · by_cases c3 : leftP now nx q = 0
          · by_cases c4 : onP nx now q = true
            · have hk : Pt.lookF now nx q = q := by unfold Pt.lookF; rw [if_neg c0, if_pos (.inr (.inr ⟨c3, c4⟩))]
              rw [hk] at h
              simp [go_sem, hil, prA_len, hgetE, eqWp_pt, c0, c1, z, zb, e1, x1, x2, c3, c4, AV.noVec.noVecs, AV.noVec]
              exact ihh q hgi h
            · have hk : Pt.lookF now nx q = nx := by
                unfold Pt.lookF
                rw [if_neg c0, if_neg (by rintro (e | e | ⟨_, e⟩); exact c1 e; exact c2 e; exact c4 e)]
              rw [hk] at h
              simp only [Bool.not_eq_true] at c4
              simp [go_sem, hil, prA_len, hgetE, eqWp_pt, c0, c1, z, zb, e1, x1, x2, c3, c4, AV.noVec.noVecs, AV.noVec]
              exact ihh nx hnx h
          · have hk : Pt.lookF now nx q = nx := by
              unfold Pt.lookF
              rw [if_neg c0, if_neg (by rintro (e | e | ⟨e, _⟩); exact c1 e; exact c2 e; exact c3 e)]
            rw [hk] at h
            simp [go_sem, hil, prA_len, hgetE, eqWp_pt, c0, c1, z, zb, e1, x1, c2, c3, AV.noVec.noVecs, AV.noVec]
            exact ihh nx hnx h
end Go.Proofs.YtihdlpeghlhnoaaGreatDoor.Code
end

section
namespace Go.Proofs.YtihdlpeghlhnoaaGreatDoor.Code
open Go Go.Ab
open Go.Proofs.Pt hiding ZZ
variable {pure : Bool} {base bar : Nat} {H : Heap} {Q : AV → Heap → Prop} {K : AV → Heap → List Nat → Prop}
attribute [local go_sem] astore storeWp AV.isTup AV.cells setCells
theorem Own.vecP {k : Nat} {l : List ZZ} {v : AV} (g : Ab.Own k 2 (prs l) v H) (hl : l ≠ []) : ∃ id ver fz, k ≤ id ∧ v = .vec id ver 0 l.length 2 ∧ H[id]? = some (.row ver (prs l) fz false) := by
  rcases g with ⟨e, _⟩ | ⟨id, ver, fz, h0, hk, hf, rfl, hg⟩
  · exact absurd (prs_eq_nil.1 e) hl
  · exact ⟨id, ver, fz, hk, by rw [prs_length, Nat.mul_div_cancel_left _ (by decide)], hg⟩
/-- one corner more -/
theorem l44b {R : PQ} {ex : Bool} {l : List ZZ} {p now : ZZ} {fid m : Nat} {v w : AV} {X : Heap} (hl : l.length < 1000) (hgp : ∀ q ∈ l, GP q) (hnow : GP now) (hnx : GP (nextF l now)) (hb : bar ≤ X.length) (hbase : base ≤ X.length) (hm : m < 1000) (hfid : X[fid]? = some (ptB p))
    (s1 : v.isTup = false) (s2 : v.cells = [v]) (hln : ∀ (H : Heap) (K : AV → Heap → List Nat → Prop), lenWp (some v) H K = K (.int .i64 ((m + 1 : Nat) : Int)) H [])
    (hix : ∀ K : AV → Heap → List Nat → Prop, ixaSWp 2 (some v) (some (.int .i64 (m : Int))) X K = K w X []) (hw1 : w.isTup = false) (hw2 : w.cells = [w]) (hA : aload X ⟨true, 2⟩ w = some (.agg [.int .i64 now.1, .int .i64 now.2]))
    (h1 : nextF l now = p → R .ret [(2, v), (3, .int .i64 0)] (X ++ [ptB now, ptB (nextF l now)]))
    (h2 : nextF l now ≠ p → ∀ K : AV → Heap → List Nat → Prop, (∀ v' X' tc, v'.isTup = false → v'.cells = [v'] → Wp E base bar (.loop c44_l2) [(0, .lst 2 ex (prA l)), (6, .ptr fid 0 0), (8, v')] X' R → K v' X' tc) →
      appWp base bar 2 16 (some v) (some (.lst 2 true [.agg [.int .i64 (nextF l now).1, .int .i64 (nextF l now).2]])) (X ++ [ptB now, ptB (nextF l now)]) K) :
    Wp E base bar (.loop c44_l2) [(0, .lst 2 ex (prA l)), (6, .ptr fid 0 0), (8, v)] X R := by
  have w1 : IntKind.i64.wrap (((m + 1 : Nat) : Int) - 1) = (m : Int) := by rw [i64_bd ⟨by omega, by omega⟩]; omega
  have z' := fun k => Nat.le_trans hb (Nat.le_add_right X.length k)
  have zb := fun k => Nat.le_trans hbase (Nat.le_add_right X.length k)
  have hin := fun R => l44a (R := R) (base := base) (bar := bar) (ex := ex) (v := v) (fp := .ptr fid 0 0) (now := now) X hl hgp hnow hb hbase l.length 0 (by omega) now hnow
  simp only [List.drop_zero] at hin
  have hfold : l.foldl (Pt.lookF now) now = nextF l now := rfl
  rw [hfold] at hin
  have hfl : fid < X.length := (List.getElem?_eq_some_iff.1 hfid).1
  have hF : ∀ Y : Heap, aload (X ++ Y) ⟨true, 2⟩ (.ptr fid 0 0) = some (.agg [.int .i64 p.1, .int .i64 p.2]) := fun Y => by
    rw [aload_ptr (by rw [List.getElem?_append_left hfl]; exact hfid)]; rfl
  have hNx : ∀ (q : ZZ), aload (X ++ [ptB now, ptB q]) ⟨true, 2⟩ (.ptr (X.length + 1) 0 0) = some (.agg [.int .i64 q.1, .int .i64 q.2]) := fun q => by
    rw [aload_ptr (cs := [.int .i64 q.1, .int .i64 q.2]) (fz := 0) (ex := true) (by rw [List.getElem?_append_right (by omega)]; simp [ptB])]; rfl
  have hN0 : ∀ (b : Blk), aload (X ++ [ptB now, b]) ⟨true, 2⟩ (.ptr X.length 0 0) = some (.agg [.int .i64 now.1, .int .i64 now.2]) := fun b => by
    rw [aload_ptr (cs := [.int .i64 now.1, .int .i64 now.2]) (fz := 0) (ex := true) (by rw [List.getElem?_append_right (by omega)]; simp [ptB])]; rfl
  have hN1 : aload (X ++ [ptB now]) ⟨true, 2⟩ (.ptr X.length 0 0) = some (.agg [.int .i64 now.1, .int .i64 now.2]) := by
    rw [aload_ptr (cs := [.int .i64 now.1, .int .i64 now.2]) (fz := 0) (ex := true) (by rw [List.getElem?_append_right (by omega)]; simp [ptB])]; rfl
  generalize nextF l now = nx at *
  generalize hM : m + 1 = M at *
  unfold ptB at *
  rw [wp_round c44_l2.eq_1]
  simp [go_sem, s1, s2, hln, w1, hix, hw1, hw2, hA, hb, z', hN0, hN1]
  refine hin _ ?_
  simp [go_sem, hNx, hF, eqWp_pt]
  by_cases hc : nx = p
  · have := h1 hc
    rw [if_pos hc]
    exact this
  · rw [if_neg hc]
    simp [go_sem, s1, s2, hNx, aop, fillA, chunks, AV.noVec.noVecs, AV.noVec]
    refine h2 hc _ fun v' X' tc t1 t2 hw => ?_
    simp [go_sem, t1, t2]
    exact hw
theorem l44c {R : PQ} {ex : Bool} {l Hl : List ZZ} {p : ZZ} {fid k0 : Nat} {X0 : Heap} (hf0 : X0[fid]? = some (ptB p)) (hl : l.length < 1000) (hgp : ∀ q ∈ l, GP q) (hHm : ∀ q ∈ Hl, GP q) (hp : GP p) (hHn : Hl.length < 900)
    (hnext : ∀ i, i < Hl.length → nextF l (Hl.getD i (0, 0)) = if i + 1 < Hl.length then Hl.getD (i + 1) (0, 0) else p) (hfirst : ∀ i, 0 < i → i < Hl.length → Hl.getD i (0, 0) ≠ p) (hb : bar ≤ k0) (hbase : base ≤ k0) (hfid : fid < k0)
    (h : ∀ v X, Ab.Own k0 2 (prs Hl) v X → k0 ≤ X.length → (∀ j, j < k0 → X[j]? = X0[j]?) → R .ret [(2, v), (3, .int .i64 0)] X) :
    ∀ (d s : Nat), s + 1 + d = Hl.length → ∀ (v : AV) (X : Heap), Ab.Own k0 2 (prs (Hl.take (s + 1))) v X → k0 ≤ X.length → (∀ j, j < k0 → X[j]? = X0[j]?) →
    Wp E base bar (.loop c44_l2) [(0, .lst 2 ex (prA l)), (6, .ptr fid 0 0), (8, v)] X R := by
  intro d
  have step : ∀ (s : Nat), s < Hl.length → ∀ (v : AV) (X : Heap), Ab.Own k0 2 (prs (Hl.take (s + 1))) v X → k0 ≤ X.length → (∀ j, j < k0 → X[j]? = X0[j]?) →
      (s + 1 < Hl.length → ∀ (v' : AV) (X' : Heap), Ab.Own k0 2 (prs (Hl.take (s + 1 + 1))) v' X' → k0 ≤ X'.length → (∀ j, j < k0 → X'[j]? = X0[j]?) → Wp E base bar (.loop c44_l2) [(0, .lst 2 ex (prA l)), (6, .ptr fid 0 0), (8, v')] X' R) →
      Wp E base bar (.loop c44_l2) [(0, .lst 2 ex (prA l)), (6, .ptr fid 0 0), (8, v)] X R := fun s hs v X g hX hpre hgo => by
    have hf : X[fid]? = some (ptB p) := by rw [hpre fid hfid]; exact hf0
    obtain ⟨s1, s2⟩ := g.slot
    have g0 := g
    have htl : (Hl.take (s + 1)).length = s + 1 := by rw [List.length_take]; omega
    obtain ⟨id, ver, fz, hki, hv, hg⟩ := Own.vecP g (fun e => by rw [e] at htl; simp at htl)
    rw [htl] at hv
    have hnm : Hl.getD s (0, 0) ∈ Hl := getD_mem hs
    have hpart := prs_part (L := Hl.take (s + 1)) (i := s) (by omega)
    have hget : (Hl.take (s + 1))[s]'(by omega) = Hl.getD s (0, 0) := by
      rw [List.getElem_take, List.getD_eq_getElem?_getD, List.getElem?_eq_getElem (by omega)]; rfl
    rw [hget] at hpart
    have hn := hnext s hs
    have hnx : GP (nextF l (Hl.getD s (0, 0))) := by
      rw [hn]; split
      · rename_i h'; exact hHm _ (getD_mem h')
      · exact hp
    refine l44b (m := s) (now := Hl.getD s (0, 0)) (w := .ptr id ver (s * 2)) hl hgp (hHm _ hnm) hnx (by omega) (by omega) (by omega) hf s1 s2 (fun H K => by subst hv; simp [go_sem]) (fun K => by subst hv; simp [go_sem]) rfl rfl (by rw [aload_ptr hg, Nat.mul_comm]; exact hpart) (fun he => ?_) (fun hne K hK => ?_)
    · rw [hn] at he
      split at he
      · rename_i h'; exact absurd he (hfirst (s + 1) (by omega) h')
      · rename_i h'
        have hst : s + 1 = Hl.length := by omega
        rw [hst, List.take_length] at g0
        exact h v _ (g0.mono fun j hj => List.getElem?_append_left (g0.lt hj).2) (by simp; omega) (fun j hj => by rw [List.getElem?_append_left (by omega), hpre j hj])
    · rw [hn] at hne ⊢
      by_cases h' : s + 1 < Hl.length
      · rw [if_pos h'] at hne ⊢
        have g1 : Ab.Own k0 2 (prs (Hl.take (s + 1))) v (X ++ [ptB (Hl.getD s (0, 0)), ptB (Hl.getD (s + 1) (0, 0))]) := g0.mono fun j hj => List.getElem?_append_left (g0.lt hj).2
        refine Own.pair (k := k0) (p := Hl.getD (s + 1) (0, 0)) g1 (by simp; omega) hb hbase (by rw [htl]; omega) fun v' X' tc g2 kp => ?_
        have ht2 : Hl.take (s + 1) ++ [Hl.getD (s + 1) (0, 0)] = Hl.take (s + 1 + 1) := by
          rw [List.take_add_one (i := s + 1), List.getD_eq_getElem?_getD, List.getElem?_eq_getElem h']; rfl
        rw [ht2] at g2
        obtain ⟨t1, t2⟩ := g2.slot
        have hfl : fid < X.length := (List.getElem?_eq_some_iff.1 hf).1
        refine hK v' X' tc t1 t2 (hgo h' v' X' g2 (by have := kp.len; simp at this; omega) fun j hj => ?_)
        rw [kp.same j (by simp; omega) (fun e => by have := (g1.lt e).1; omega), List.getElem?_append_left (by omega), hpre j hj]
      · rw [if_neg h'] at hne; exact absurd rfl hne
  induction d with
  | zero => exact fun s hs v X g hX hf => step s (by omega) v X g hX hf (fun h' => absurd h' (by omega))
  | succ d ih => exact fun s hs v X g hX hf => step s (by omega) v X g hX hf (fun h' v' X' g' hX' hf' => ih (s + 1) (by omega) v' X' g' hX' hf')
end Go.Proofs.YtihdlpeghlhnoaaGreatDoor.Code
end

section
namespace Go.Proofs.YtihdlpeghlhnoaaGreatDoor.Code
open Go Go.Ab
open Go.Proofs.Pt hiding ZZ
variable {pure : Bool} {base bar : Nat} {H : Heap} {Q : AV → Heap → Prop} {K : AV → Heap → List Nat → Prop}
attribute [local go_sem] aload astore storeWp Ab.part AV.isTup AV.cells setCells
def firstF (m q : ZZ) : ZZ := if q.1 < m.1 ∨ (q.1 = m.1 ∧ q.2 < m.2) then q else m
set_option maxRecDepth 20000 in
theorem l44f {R : PQ} {ex : Bool} {l : List ZZ} (X : Heap) (hl : l.length < 1000) (hl2 : 2 ≤ l.length) (hgp : ∀ p ∈ l, GP p) (hb : bar ≤ X.length) (hbase : base ≤ X.length) : ∀ (d i : Nat), i + d = l.length → ∀ (fl : Bool) (m : ZZ),
    R (.exit 0) [(0, .lst 2 ex (prA l)), (5, .bool (fl && (l.drop i).all fun q => decide (leftP l[0] l[1] q = 0))), (6, .ptr X.length 0 0), (7, .int .i64 (l.length : Int)), (23, .bool false)] (X ++ [ptB ((l.drop i).foldl firstF m)]) →
    Wp E base bar (.loop c44_l0) [(0, .lst 2 ex (prA l)), (5, .bool fl), (6, .ptr X.length 0 0), (7, .int .i64 (i : Int))] (X ++ [ptB m]) R := by
  intro d
  induction d with
  | zero =>
    intro i hi fl m h
    obtain rfl : i = l.length := by omega
    rw [wp_round c44_l0.eq_1]
    simp [go_sem, prA_len]
    rw [List.drop_length] at h
    simpa using h
  | succ d ih =>
    intro i hi fl m h
    have hil : i < l.length := by omega
    have e1 := i64s (i := i) (by omega)
    have hd : l.drop i = l[i] :: l.drop (i + 1) := List.drop_eq_getElem_cons hil
    have x1 := k97s (hgp l[0] (List.getElem_mem _)) (hgp l[1] (List.getElem_mem _)) (hgp l[i] (List.getElem_mem hil))
    rw [hd, List.foldl_cons, List.all_cons] at h
    have ihh := ih (i + 1) (by omega)
    have g0 : ∀ h, (prA l)[0]'h = .agg [.int .i64 l[0].1, .int .i64 l[0].2] := fun h => prA_getE h
    have g1 : ∀ h, (prA l)[1]'h = .agg [.int .i64 l[1].1, .int .i64 l[1].2] := fun h => prA_getE h
    have gi : ∀ h, (prA l)[i]'h = .agg [.int .i64 l[i].1, .int .i64 l[i].2] := fun h => prA_getE h
    have p0 : 0 < l.length := by omega
    have p1 : 1 < l.length := by omega
    generalize l[0] = a0 at *
    generalize l[1] = a1 at *
    generalize l[i] = q at *
    unfold ptB at ihh h ⊢
    have z := fun k => Nat.le_trans hb (Nat.le_add_right X.length k)
    have zb := fun k => Nat.le_trans hbase (Nat.le_add_right X.length k)
    rw [wp_round c44_l0.eq_1]
    have tail : ∀ (fl2 : Bool), fl2 = (fl && decide (leftP a0 a1 q = 0)) → R (.exit 0) [(0, .lst 2 ex (prA l)), (5, .bool (fl2 && (l.drop (i + 1)).all fun q => decide (leftP a0 a1 q = 0))), (6, .ptr X.length 0 0), (7, .int .i64 (l.length : Int)), (23, .bool false)] (X ++ [.row 0 [.int .i64 ((l.drop (i + 1)).foldl firstF (firstF m q)).1, .int .i64 ((l.drop (i + 1)).foldl firstF (firstF m q)).2] 0 true]) := fun fl2 e => by
      rw [e, Bool.and_assoc]; exact h
    have fin : ∀ (fl2 : Bool), fl2 = (fl && decide (leftP a0 a1 q = 0)) →
        (if m.1 ≤ q.1 then (if q.1 = m.1 then (if q.2 < m.2 then Wp E base bar (.loop c44_l0) [(0, .lst 2 ex (prA l)), (5, .bool fl2), (6, .ptr X.length 0 0), (7, .int .i64 ((i : Int) + 1))] (X ++ [.row 0 [.int .i64 q.1, .int .i64 q.2] 0 true]) R
          else Wp E base bar (.loop c44_l0) [(0, .lst 2 ex (prA l)), (5, .bool fl2), (6, .ptr X.length 0 0), (7, .int .i64 ((i : Int) + 1))] (X ++ [.row 0 [.int .i64 m.1, .int .i64 m.2] 0 true]) R)
          else Wp E base bar (.loop c44_l0) [(0, .lst 2 ex (prA l)), (5, .bool fl2), (6, .ptr X.length 0 0), (7, .int .i64 ((i : Int) + 1))] (X ++ [.row 0 [.int .i64 m.1, .int .i64 m.2] 0 true]) R)
        else Wp E base bar (.loop c44_l0) [(0, .lst 2 ex (prA l)), (5, .bool fl2), (6, .ptr X.length 0 0), (7, .int .i64 ((i : Int) + 1))] (X ++ [.row 0 [.int .i64 q.1, .int .i64 q.2] 0 true]) R) := fun fl2 e => by
      have hA := fun (hq : firstF m q = q) => ihh fl2 q (by have := tail fl2 e; rw [hq] at this; exact this)
      have hB := fun (hq : firstF m q = m) => ihh fl2 m (by have := tail fl2 e; rw [hq] at this; exact this)
      by_cases c1 : m.1 ≤ q.1
      · rw [if_pos c1]
        by_cases c2 : q.1 = m.1
        · rw [if_pos c2]
          by_cases c3 : q.2 < m.2
          · rw [if_pos c3]
            exact hA (by unfold firstF; rw [if_pos (.inr ⟨c2, c3⟩)])
          · rw [if_neg c3]
            exact hB (by unfold firstF; rw [if_neg (by omega)])
        · rw [if_neg c2]
          exact hB (by unfold firstF; rw [if_neg (by omega)])
      · rw [if_neg c1]
        exact hA (by unfold firstF; rw [if_pos (.inl (by omega))])
    cases fl
    · simp [go_sem, hil, prA_len, g0, g1, gi, p0, p1, hb, e1]
      exact fin false rfl
    · simp [go_sem, hil, prA_len, g0, g1, gi, p0, p1, x1, AV.noVec.noVecs, AV.noVec, hb, e1]
      exact fin _ rfl
theorem firstF_le {m q : ZZ} : ¬ ltZ m (firstF m q) ∧ ¬ ltZ q (firstF m q) := by
  unfold firstF
  split
  · rename_i h; unfold ltZ; omega
  · rename_i h; unfold ltZ; omega
theorem fold_first : ∀ (l : List ZZ) (m : ZZ), (l.foldl firstF m = m ∨ l.foldl firstF m ∈ l) ∧ ¬ ltZ m (l.foldl firstF m) ∧ ∀ q ∈ l, ¬ ltZ q (l.foldl firstF m)
  | [], m => ⟨.inl rfl, ltZ.irr, fun _ h => by cases h⟩
  | q :: l, m => by
    rw [List.foldl_cons]
    obtain ⟨h1, h2, h3⟩ := fold_first l (firstF m q)
    obtain ⟨k1, k2⟩ := firstF_le (m := m) (q := q)
    refine ⟨?_, fun h => ?_, fun x hx => ?_⟩
    · rcases h1 with h1 | h1
      · rw [h1]; unfold firstF; split
        · exact .inr (by simp)
        · exact .inl rfl
      · exact .inr (by simp [h1])
    · exact ltZ.le h2 k1 h
    · rcases List.mem_cons.1 hx with rfl | hx
      · exact fun h => ltZ.le h2 k2 h
      · exact h3 x hx
end Go.Proofs.YtihdlpeghlhnoaaGreatDoor.Code
end

section
namespace Go.Proofs.YtihdlpeghlhnoaaGreatDoor.Code
open Go Go.Ab
open Go.Proofs.Pt hiding ZZ
variable {pure : Bool} {base bar : Nat} {H : Heap} {Q : AV → Heap → Prop} {K : AV → Heap → List Nat → Prop}
attribute [local go_sem] aload astore storeWp Ab.part AV.isTup AV.cells setCells
theorem first_head {l r : List ZZ} {p m : ZZ} (hn : (p :: r).Nodup) (hs : srt (p :: r)) (hm : m ∈ p :: r) (hmin : ∀ q ∈ p :: r, ¬ ltZ q m) : m = p := by
  rcases List.mem_cons.1 hm with rfl | hm
  · rfl
  · have h1 := (List.pairwise_cons.1 hs).1 m hm
    have h2 := hmin p (by simp)
    have h3 : p ≠ m := (List.pairwise_cons.1 hn).1 m hm
    have h4 : ¬ (p.1 = m.1 ∧ p.2 = m.2) := fun e => h3 (Prod.ext e.1 e.2)
    unfold ltZ at h1 h2
    omega
theorem app_exact {p q : ZZ} : appWp base bar 2 16 (some (.lst 2 true [.agg [.int .i64 p.1, .int .i64 p.2]])) (some (.lst 2 true [.agg [.int .i64 q.1, .int .i64 q.2]])) H K = K (.vec H.length 0 0 2 2) (H ++ [.row 0 (prs [p, q]) 0 false]) [] := by
  have hz : frzAll bar H [AV.int .i64 q.1, AV.int .i64 q.2] = some ([AV.int .i64 q.1, AV.int .i64 q.2], H) := rfl
  have hv : AV.noVec.noVecs [AV.int .i64 q.1, AV.int .i64 q.2] = true := rfl
  have hp : prs [p, q] = [AV.int .i64 p.1, AV.int .i64 p.2, AV.int .i64 q.1, AV.int .i64 q.2] := rfl
  rw [hp]
  simp [appWp, asrc_lst, AV.cells, hz, aappend, hv]
theorem k44 {ex : Bool} {l S : List ZZ} (hb : bar ≤ H.length) (hl : l.length < 1000) (h1 : laidF l ≠ 0 → Q (.tup [.nils, .int .i64 (laidF l)]) H) (hS : laidF l = 0 → S.Perm l) (hs : laidF l = 0 → srt S)
    (h2 : laidF l = 0 → Q (hullV S) H) : WpCall E false base bar 44 [.lst 2 ex (prA l)] H Q := by
  rw [call44]
  simp [go_sem, WpFun, c44]
  refine k78 hl ?_
  by_cases h0 : laidF l = 0
  · have hL := laidF_ok h0
    have hS := hS h0
    have hs := hs h0
    have hlo := hL.lo
    have hhi := hL.hi
    have hh := h2 h0
    have hgp : ∀ q ∈ l, GP q := fun q hq => inG_gp (hL.inG q hq)
    have p0 : 0 < l.length := by omega
    have g0 : ∀ h, (prA l)[0]'h = .agg [.int .i64 l[0].1, .int .i64 l[0].2] := fun h => prA_getE h
    simp [go_sem, h0, p0, prA_len, g0, hb]
    have hfl := fun R => l44f (R := R) (base := H.length) (bar := bar) (ex := ex) (l := l) H hl (by omega) hgp hb (Nat.le_refl _) l.length 0 (by omega) true l[0]
    unfold ptB at hfl
    refine hfl _ ?_
    simp only [List.drop_zero, Bool.true_and]
    obtain ⟨k1, k2, k3⟩ := fold_first l l[0]
    obtain ⟨m, hm⟩ : ∃ m, m = l.foldl firstF l[0] := ⟨_, rfl⟩
    rw [← hm] at k1 k2 k3 ⊢
    have hml : m ∈ l := by
      rcases k1 with e | e
      · rw [e]; exact List.getElem_mem _
      · exact e
    rcases S with _ | ⟨p, r⟩
    · have := hS.length_eq; simp at this; omega
    have hnS : (p :: r).Nodup := hS.nodup_iff.2 hL.nd
    have hmp : m = p := first_head (l := l) hnS hs (hS.mem_iff.2 hml) (fun q hq => k3 q (hS.mem_iff.1 hq))
    have ha := srt_asc hL hS hs
    have hr : r ≠ [] := fun e => by have := hS.length_eq; rw [e] at this; simp at this; omega
    have hne01 : l[0] ≠ l[1] := (List.pairwise_iff_getElem.1 hL.nd) 0 1 _ _ (by omega)
    have hfi := flat_iff ha hr (L := l) (fun x => (hS.mem_iff).symm) (List.getElem_mem (h := p0)) (List.getElem_mem (h := (by omega : 1 < l.length))) hne01
    have hflat : (l.all fun q => decide (leftP l[0] l[1] q = 0)) = decide ((hullF (p :: r)).length < 3) := by
      rw [Bool.eq_iff_iff, decide_eq_true_eq, ← hfi, List.all_eq_true]
      simp only [decide_eq_true_eq]
    rw [hflat, hmp]
    unfold hullV at hh
    by_cases h3 : (hullF (p :: r)).length < 3
    · rw [if_pos h3] at hh
      simp [go_sem, h3]
      exact hh
    · rw [if_neg h3] at hh
      simp [go_sem, h3, aop, fillA, chunks, AV.noVec.noVecs, AV.noVec]
      obtain ⟨Hl, hHl⟩ : ∃ Hl, Hl = hullF (p :: r) := ⟨_, rfl⟩
      have hnext := fun i (hi : i < Hl.length) => by
        have := hull_next ha (L := l) (fun x => (hS.mem_iff).symm) (i := i) (by rw [← hHl]; exact hi)
        rw [← hHl] at this; exact this
      obtain ⟨f1, f2, f3⟩ := hull_first ha hr
      rw [← hHl] at f1 f2 f3 h3 hh
      have hp0 : Hl.getD 0 (0, 0) = p := head_getD f1
      have hpl : p ∈ l := hS.mem_iff.1 (by simp)
      have hmem : ∀ i, i < Hl.length → Hl.getD i (0, 0) ∈ l := fun i hi => by
        by_cases hi0 : i = 0
        · subst hi0; rw [hp0]; exact hpl
        · have hst := hull_round ha (i - 1) (by rw [← hHl]; simp; omega)
          have := hst.1
          rw [← hHl, show i - 1 + 1 = i by omega, List.getD_eq_getElem?_getD, List.getElem?_append_left hi, ← List.getD_eq_getElem?_getD] at this
          exact hS.mem_iff.1 this
      have hHm : ∀ q ∈ Hl, GP q := fun q hq => by
        obtain ⟨i, hi, rfl⟩ := List.getElem_of_mem hq
        have := hmem i hi
        rw [List.getD_eq_getElem?_getD, List.getElem?_eq_getElem hi] at this
        exact hgp _ this
      have hgpp : GP p := hgp p hpl
      have hHn : Hl.length < 900 := by
        have c1 := chainG_len (l := p :: r) (st := [])
        have c2 := chainG_len (l := (p :: r).reverse) (st := [])
        have hSl := hS.length_eq
        rw [hHl]
        unfold hullF chainF
        simp at c1 c2 hSl ⊢
        omega
      have hX0 : (H ++ [ptB p])[H.length]? = some (ptB p) := by simp
      have n0 := hnext 0 (by omega)
      rw [hp0, if_pos (by omega)] at n0
      have hfin := fun (R : PQ) h => l44c (R := R) (ex := ex) (l := l) (Hl := Hl) (p := p) (fid := H.length) (k0 := H.length + 1) (base := H.length) (bar := bar) hX0 hl hgp hHm hgpp hHn hnext f3 (by omega) (by omega) (by omega) h (Hl.length - 2) 1 (by omega)
      have hB : Blk.row 0 [AV.int .i64 p.1, AV.int .i64 p.2] 0 true = ptB p := rfl
      rw [hB]
      refine l44b (ex := ex) (l := l) (p := p) (now := p) (fid := H.length) (m := 0) (w := .fp (.agg [.int .i64 p.1, .int .i64 p.2])) hl hgp hgpp (by rw [n0]; exact hgp _ (hmem 1 (by omega))) (by simp; omega) (by simp) (by omega) hX0 rfl rfl (fun H K => by simp [go_sem]) (fun K => by simp [go_sem]) rfl rfl (by simp [aload]) (fun he => ?_) (fun hne K hK => ?_)
      · rw [n0] at he
        exact absurd he (f3 1 (by omega) (by omega))
      · rw [n0]
        obtain ⟨q, hq⟩ : ∃ q, q = Hl.getD 1 (0, 0) := ⟨_, rfl⟩
        rw [← hq]
        rw [app_exact]
        refine hK _ _ _ rfl rfl ?_
        have ht2 : Hl.take 2 = [p, q] := by
          have l0 : Hl[0]? = some p := by rw [← hp0, List.getD_eq_getElem?_getD, List.getElem?_eq_getElem (by omega)]; rfl
          have l1 : Hl[1]? = some q := by rw [hq, List.getD_eq_getElem?_getD, List.getElem?_eq_getElem (by omega)]; rfl
          rw [List.take_add_one (i := 1), List.take_add_one (i := 0), List.take_zero, l0, l1]; rfl
        refine hfin _ (fun v X g hX hpre => ?_) _ _ ?_ ?_ ?_
        · obtain ⟨t1, t2⟩ := g.slot
          simp [go_sem, t1, t2]
          obtain ⟨H6, q1, q2, q3, q4⟩ := g.frz (d := 5) (bar := bar) (by decide) (by rw [prs_length]; exact Nat.dvd_mul_right ..) (fun c hc => prs_plain c hc) (by omega)
          have hmne : Hl ≠ [] := fun e => by rw [e] at f2; simp at f2
          have q1' : Go.Ab.frz 8 bar X v = some (.lst 2 false (prA Hl), H6) := by rw [outL_prs, if_neg hmne] at q1; exact q1
          rw [q1']
          have htop : AV.top.tops [AV.lst 2 false (prA Hl), AV.int .i64 0] = 0 := by
            rw [tops_cons, tops_cons, tops_nil]
            have : (AV.lst 2 false (prA Hl)).top = 0 := isP.lst.top
            rw [this]; rfl
          simp only [leave0_some, htop]
          have htk : H6.take H.length = H := by
            refine List.ext_getElem? fun j => ?_
            rw [List.getElem?_take]
            split
            · rename_i hj
              rw [q4 j (fun e => by have := (g.lt e).1; omega), hpre j (by omega), List.getElem?_append_left hj]
            · rename_i hj
              rw [List.getElem?_eq_none (by omega)]
          rw [if_pos (Nat.zero_le _), htk]
          exact hh
        · rw [ht2]
          refine .inr ⟨_, 0, 0, by simp [prs, zc], ?_, Nat.zero_le _, ?_, List.getElem?_concat_length⟩
          · simp
          · simp [prs, zc]
        · simp
        · intro j hj
          rw [List.getElem?_append_left (by simp; omega), List.getElem?_append_left (by simp; omega)]
  · simp [go_sem, h0]
    exact h1 h0
end Go.Proofs.YtihdlpeghlhnoaaGreatDoor.Code
end

section
namespace Go.Proofs.YtihdlpeghlhnoaaGreatDoor.Code
open Go Go.Ab
open Go.Proofs.Pt hiding ZZ
variable {pure : Bool} {base bar : Nat} {H : Heap} {Q : AV → Heap → Prop} {K : AV → Heap → List Nat → Prop}
attribute [local go_sem] aload astore storeWp Ab.part AV.isTup AV.cells setCells
theorem k13 {v : AV} {l : List ZZ} (hq : isP v l) : WpCall E pure base bar 13 [v] H Q ↔ Q (.bool (decide (60 < l.length))) H := by
  rw [call13]
  rcases hq with ⟨rfl, rfl⟩ | ⟨ex, rfl⟩
  · simp [go_sem, WpFun, c13]
  · have e : decide ((60 : Int) < (l.length : Int)) = decide (60 < l.length) := decide_eq_decide.2 (by omega)
    simp [go_sem, WpFun, c13, prA_len]
    rw [e]
theorem l15 {R : PQ} {ex : Bool} {l : List ZZ} (hl : l.length < 1000) (H0 : Heap) (hb : bar ≤ H0.length) : ∀ (d i : Nat), i + d = l.length → ∀ (v : AV) (H : Heap), Grow 2 (prs (l.take i)) H0 v H →
    (∀ v' H', Grow 2 (prs l) H0 v' H' → R (.exit 0) [(0, .lst 2 ex (prA l)), (3, v'), (4, .int .i64 (l.length : Int)), (8, .bool false)] H') →
    Wp E H0.length bar (.loop c15_l0) [(0, .lst 2 ex (prA l)), (3, v), (4, .int .i64 (i : Int))] H R := by
  intro d
  induction d with
  | zero =>
    intro i hi v H g h
    obtain rfl : i = l.length := by omega
    rw [List.take_length] at g
    rw [wp_round c15_l0.eq_1]
    simp [go_sem, prA_len]
    exact h v H g
  | succ d ih =>
    intro i hi v H g h
    have hil : i < l.length := by omega
    have e1 := i64s (i := i) (by omega)
    have gi : ∀ h, (prA l)[i]'h = .agg [.int .i64 l[i].1, .int .i64 l[i].2] := fun h => prA_getE h
    have ht : l.take i ++ [l[i]] = l.take (i + 1) := by rw [List.take_add_one, List.getElem?_eq_getElem hil]; rfl
    have hlt : (l.take i).length = i := by rw [List.length_take]; omega
    rw [wp_round c15_l0.eq_1]
    simp [go_sem, hil, prA_len, gi, aop, fillA, chunks, AV.noVec.noVecs, AV.noVec]
    refine Grow.pair g hb (Nat.le_refl _) (by omega) fun v' H' tc g' => ?_
    rw [ht] at g'
    simp [go_sem, e1]
    exact ih (i + 1) (by omega) v' H' g' h
theorem k15 {v : AV} {l : List ZZ} (hq : isP v l) (hl : l.length < 1000) (hb : bar ≤ H.length) (h : Q (outL 2 (prs l)) H) : WpCall E pure base bar 15 [v] H Q := by
  rw [call15]
  have hz : (if pure = true then H.length else bar) ≤ H.length := barUp (pure := pure) hb 0
  rcases hq with ⟨rfl, rfl⟩ | ⟨ex, rfl⟩
  · simp [go_sem, WpFun, c15]
    rw [wp_round c15_l0.eq_1]
    simp [go_sem]
    exact h
  · simp [go_sem, WpFun, c15]
    refine l15 (ex := ex) hl H hz l.length 0 (by omega) .nils H .nil fun v' H' g => ?_
    obtain ⟨H6, q1, q2, q3, q4⟩ := g.frz (d := 5) (bar := if pure = true then H.length else bar) (by decide) (by rw [prs_length]; exact Nat.dvd_mul_right ..) (fun c hc => prs_plain c hc) hz
    have q1' : Go.Ab.frz 8 (if pure = true then H.length else bar) H' v' = some (outL 2 (prs l), H6) := q1
    have htop : AV.top.tops [outL 2 (prs l)] = 0 := by rw [tops_cons, tops_nil, isP.out.top]; rfl
    simp [go_sem]
    rw [q1']
    simp [go_sem, htop, q4]
    exact h
theorem l22 {R : PQ} {e1 e2 : Bool} {l : List ZZ} (hl : l.length < 1000) : ∀ (d i : Nat), i + d = l.length →
    R (.exit 0) [(0, .lst 2 e1 (prA l)), (1, .lst 2 e2 (prA l)), (5, .int .i64 (l.length : Int)), (14, .bool false)] H →
    Wp E base bar (.loop c22_l0) [(0, .lst 2 e1 (prA l)), (1, .lst 2 e2 (prA l)), (5, .int .i64 (i : Int))] H R := by
  intro d
  induction d with
  | zero =>
    intro i hi h
    obtain rfl : i = l.length := by omega
    rw [wp_round c22_l0.eq_1]
    simp [go_sem, prA_len]
    exact h
  | succ d ih =>
    intro i hi h
    have hil : i < l.length := by omega
    have e1 := i64s (i := i) (by omega)
    have gi : ∀ h, (prA l)[i]'h = .agg [.int .i64 l[i].1, .int .i64 l[i].2] := fun h => prA_getE h
    rw [wp_round c22_l0.eq_1]
    simp [go_sem, hil, prA_len, gi, e1]
    exact ih (i + 1) (by omega) h
/-- a list and itself -/
theorem k22 {e1 e2 : Bool} {l : List ZZ} (hl : l.length < 1000) (h : Q (.bool true) H) : WpCall E pure base bar 22 [.lst 2 e1 (prA l), .lst 2 e2 (prA l)] H Q := by
  rw [call22]
  simp [go_sem, WpFun, c22, prA_len]
  refine l22 hl l.length 0 (by omega) ?_
  simp [go_sem]
  exact h
theorem k22n (h : Q (.bool true) H) : WpCall E pure base bar 22 [.nils, .nils] H Q := by
  rw [call22]
  simp [go_sem, WpFun, c22]
  rw [wp_round c22_l0.eq_1]
  simp [go_sem]
  exact h
/-- a list or none, and a number -/
def resF (v : AV) : Prop := ∃ (x : AV) (e : Int) (m : List ZZ), v = .tup [x, .int .i64 e] ∧ m.length < 1000 ∧ (x = .nils ∨ x = .lst 2 false (prA m))
theorem shear_form {l : List ZZ} {by' : Int} {up : Bool} (hl : l.length < 1000) : resF (shearV l by' up) := by
  unfold shearV
  split
  · exact ⟨_, _, [], rfl, by simp, .inl rfl⟩
  · split
    · exact ⟨_, _, [], rfl, by simp, .inl rfl⟩
    · split
      · exact ⟨_, _, l.map (shp by' up), rfl, by simpa using hl, .inr rfl⟩
      · exact ⟨_, _, [], rfl, by simp, .inl rfl⟩
theorem hull_form {l S : List ZZ} (hl : l.length < 400) (hS : S.Perm l) : resF (hullV S) := by
  unfold hullV
  split
  · exact ⟨_, _, [], rfl, by simp, .inl rfl⟩
  · refine ⟨_, _, hullF S, rfl, ?_, .inr rfl⟩
    have c1 := chainG_len (l := S) (st := [])
    have c2 := chainG_len (l := S.reverse) (st := [])
    have hSl := hS.length_eq
    unfold hullF chainF
    simp at c1 c2 ⊢
    omega
theorem shear_nil {by' : Int} {up : Bool} : shearV [] by' up = .tup [.nils, .int .i64 4] := by
  have : checkF [] = 4 := rfl
  unfold shearV
  rw [if_pos (by rw [this]; decide), this]
theorem k41P {q : AV} {l : List ZZ} {by' : Int} {up : Bool} (hq : isP q l) (hb : bar ≤ H.length) (hl : l.length < 1000) (h : Q (shearV l by' up) H) : WpCall E false base bar 41 [q, .int .i64 by', .bool up] H Q := by
  rcases hq with ⟨rfl, rfl⟩ | ⟨ex, rfl⟩
  · rw [shear_nil] at h; exact k41n h
  · exact k41 hb hl h
theorem k42P {q : AV} {l : List ZZ} {by' : Int} {up : Bool} (hq : isP q l) (hb : bar ≤ H.length) (hl : l.length < 1000) (h : Q (shearV l by' up) H) : WpCall E false base bar 42 [q, .int .i64 by', .bool up] H Q := by
  rcases hq with ⟨rfl, rfl⟩ | ⟨ex, rfl⟩
  · rw [shear_nil] at h; exact k42n h
  · exact k42 hb hl h
theorem laid_nil : laidF [] = 4 := rfl
theorem k43P {q : AV} {l : List ZZ} (hq : isP q l) (hb : bar ≤ H.length) (hl : l.length < 1000) (h1 : laidF l ≠ 0 → Q (.tup [.nils, .int .i64 (laidF l)]) H)
    (h2 : laidF l = 0 → ∀ S : List ZZ, S.Perm l → srt S → Q (hullV S) H) : WpCall E false base bar 43 [q] H Q := by
  rcases hq with ⟨rfl, rfl⟩ | ⟨ex, rfl⟩
  · have := h1 (by decide)
    rw [laid_nil] at this
    rw [call43]
    simp [go_sem, WpFun, c43]
    refine k74n ?_
    simp [go_sem]
    exact this
  · exact k43 hb hl h1 h2
theorem k44P {q : AV} {l S : List ZZ} (hq : isP q l) (hb : bar ≤ H.length) (hl : l.length < 1000) (h1 : laidF l ≠ 0 → Q (.tup [.nils, .int .i64 (laidF l)]) H) (hS : laidF l = 0 → S.Perm l) (hs : laidF l = 0 → srt S)
    (h2 : laidF l = 0 → Q (hullV S) H) : WpCall E false base bar 44 [q] H Q := by
  rcases hq with ⟨rfl, rfl⟩ | ⟨ex, rfl⟩
  · have := h1 (by decide)
    rw [laid_nil] at this
    rw [call44]
    simp [go_sem, WpFun, c44]
    refine k78n ?_
    simp [go_sem]
    exact this
  · exact k44 hb hl h1 hS hs h2
theorem k22s {x : AV} {m : List ZZ} (hm : m.length < 1000) (hx : x = .nils ∨ x = .lst 2 false (prA m)) : ∀ (pure : Bool) (base bar : Nat) (H : Heap) (Q : AV → Heap → Prop), Q (.bool true) H → WpCall E pure base bar 22 [x, x] H Q := fun _ _ _ _ _ h => by
  rcases hx with rfl | rfl
  · exact k22n h
  · exact k22 hm h
theorem res_slot {x : AV} {m : List ZZ} (hx : x = .nils ∨ x = .lst 2 false (prA m)) : x.isTup = false ∧ x.cells = [x] := by
  rcases hx with rfl | rfl <;> exact ⟨rfl, rfl⟩
/-- the law about shearing and hulls -/
theorem k6 {q1 q2 : AV} {l1 l2 : List ZZ} {by' : Int} {up : Bool} (hq1 : isP q1 l1) (hq2 : isP q2 l2) (hb : bar ≤ H.length) : WpCall E false base bar 6 [q1, .int .i64 by', .bool up, q2] H (fun v _ => v = .bool true) := by
  rw [call6]
  have f1 : frz 8 bar H q1 = some (q1, H) := hq1.frz (d := 7)
  have f2 : frz 8 bar H q2 = some (q2, H) := hq2.frz (d := 7)
  have f3 : frz 8 bar H (.int .i64 by') = some (.int .i64 by', H) := rfl
  have f4 : frz 8 bar H (.bool up) = some (.bool up, H) := rfl
  have hz : frzAll bar H [q1, .int .i64 by', .bool up, q2] = some ([q1, .int .i64 by', .bool up, q2], H) := by
    simp only [frzAll, frz.frzs, frzsW, f1, f2, f3, f4]
  rw [hz]
  have t1 := hq1.isTup
  have t2 := hq2.isTup
  have c1 := hq1.cells
  have c2 := hq2.cells
  have kk1 := fun (pure : Bool) (base bar : Nat) (H : Heap) (Q : AV → Heap → Prop) => k13 (pure := pure) (base := base) (bar := bar) (H := H) (Q := Q) hq1
  have kk2 := fun (pure : Bool) (base bar : Nat) (H : Heap) (Q : AV → Heap → Prop) => k13 (pure := pure) (base := base) (bar := bar) (H := H) (Q := Q) hq2
  simp [go_sem, WpFun, c6, kk1, t1, t2, c1, c2]
  by_cases h1 : l1.length ≤ 60
  · have h1' : ¬ 60 < l1.length := by omega
    by_cases h2 : l2.length ≤ 60
    · have h2' : ¬ 60 < l2.length := by omega
      simp [go_sem, h1, h1', h2, h2', kk2, t1, t2, c1, c2]
      obtain ⟨x, e, m, hv, hm, hx⟩ := shear_form (l := l1) (by' := by') (up := up) (by omega)
      obtain ⟨x1, x2⟩ := res_slot hx
      refine k41P hq1 hb (by omega) ?_
      rw [hv]
      simp [go_sem, x1, x2, t1, t2, c1, c2]
      refine k15 hq1 (by omega) hb ?_
      simp [go_sem, isP.out.isTup, isP.out.cells]
      refine k42P isP.out hb (by omega) ?_
      rw [hv]
      simp [go_sem, x1, x2, t1, t2, c1, c2]
      refine k43P hq2 hb (by omega) (fun h0 => ?_) (fun h0 S hS hs => ?_)
      · simp [go_sem, x1, x2, t1, t2, c1, c2]
        refine k15 hq2 (by omega) hb ?_
        simp [go_sem, isP.out.isTup, isP.out.cells]
        refine k44P (S := []) isP.out hb (by omega) (fun _ => ?_) (fun h => absurd h h0) (fun h => absurd h h0) (fun h => absurd h h0)
        simp [go_sem, x1, x2]
        refine k22s hm hx _ _ _ _ _ ?_
        simp [go_sem, x1, x2]
        refine k22s (x := .nils) (m := []) (by simp) (.inl rfl) _ _ _ _ _ ?_
        simp [go_sem, x1, x2, call14]
      · obtain ⟨y, e2, m2, hv2, hm2, hy⟩ := hull_form (l := l2) (S := S) (by omega) hS
        obtain ⟨y1, y2⟩ := res_slot hy
        rw [hv2]
        simp [go_sem, x1, x2, y1, y2, t1, t2, c1, c2]
        refine k15 hq2 (by omega) hb ?_
        simp [go_sem, isP.out.isTup, isP.out.cells]
        refine k44P (S := S) isP.out hb (by omega) (fun h => absurd h0 h) (fun _ => hS) (fun _ => hs) (fun _ => ?_)
        rw [hv2]
        simp [go_sem, x1, x2, y1, y2]
        refine k22s hm hx _ _ _ _ _ ?_
        simp [go_sem, x1, x2, y1, y2]
        refine k22s hm2 hy _ _ _ _ _ ?_
        simp [go_sem, x1, x2, y1, y2, call14]
    · have h2' : 60 < l2.length := by omega
      simp [go_sem, h1, h1', h2, h2', kk2, t1, t2, c1, c2, call14]
  · have h1' : 60 < l1.length := by omega
    simp [go_sem, h1, h1', call14]
end Go.Proofs.YtihdlpeghlhnoaaGreatDoor.Code
end

section
namespace Go.Proofs.YtihdlpeghlhnoaaGreatDoor.Code
open Go Go.Ab Go.RowKit Go.ChangeShapes Go.WideShapes
variable {H : Type} {enc : TypeId × Value → H} {P : Program} {W W' : World} {base : Nat} {spare : Nat → Bool} {held : Bool}

/-- a struct of two numbers -/
theorem sh_pair2 {n : Nat} {e : TypeId} {k0 k1 : Field} {ys : List AV} (he : P.underlying e = some (.struct #[k0, k1])) (p0 : k0.offset = 0) (p1 : k1.offset = 1) (d0 : P.cellsOf k0.type = 1) (d1 : P.cellsOf k1.type = 1)
    (hk0 : P.underlying k0.type = some (.int .i64)) (hk1 : P.underlying k1.type = some (.int .i64)) (ce : P.cellsOf e = 2) (h : Sh P (n + 2) e ys) :
    ∃ a b : Int, ys = [.int .i64 a, .int .i64 b] := by
  unfold Sh at h
  rw [he] at h
  obtain ⟨hl, h⟩ := h
  have h0 := h k0 (by simp)
  have h1 := h k1 (by simp)
  rw [p0, d0] at h0
  rw [p1, d1] at h1
  unfold Sh at h0 h1
  rw [hk0] at h0
  rw [hk1] at h1
  obtain ⟨a, h0, _⟩ := h0
  obtain ⟨b, h1, _⟩ := h1
  rw [ce] at hl
  match ys, hl with
  | [x, y], _ =>
    simp at h0 h1
    exact ⟨a, b, by rw [h0, h1]⟩

/-- a list of points -/
theorem pts_vr {t e : TypeId} {k0 k1 : Field} {v : Value} {d : DataW H} {ps : List MemPlace} {r : Reach} {b0 : Nat}
    (ht : P.underlying t = some (.slice e)) (he : P.underlying e = some (.struct #[k0, k1])) (p0 : k0.offset = 0) (p1 : k1.offset = 1) (d0 : P.cellsOf k0.type = 1) (d1 : P.cellsOf k1.type = 1)
    (hk0 : P.underlying k0.type = some (.int .i64)) (hk1 : P.underlying k1.type = some (.int .i64)) (ce : P.cellsOf e = 2)
    (hval : Value.okWide P W r b0 t v) (hd : DataW.Trod enc P W 0 spare held t v d ps) :
    ∃ q l, VR (ctx0 W) q v ∧ isP q l := by
  have hok : Cell.okWide P W r b0 t v := by
    unfold Value.okWide at hval
    rw [ht] at hval
    exact hval
  have hcell : v.cells.toList = [v] := by
    cases v with
    | agg cs =>
      unfold Cell.okWide at hok
      rw [ht] at hok
      simp only at hok
      unfold Cell.ok at hok
      rw [ht] at hok
      exact hok.elim
    | _ => rfl
  obtain ⟨fuel, hd⟩ := hd
  rw [hcell] at hd
  have hf : flatT P 2 e = true := by
    have g0 : flatT P 1 k0.type = true := by unfold flatT; rw [hk0]
    have g1 : flatT P 1 k1.type = true := by unfold flatT; rw [hk1]
    unfold flatT; rw [he]
    simp [rowed, p0, p1, d0, d1, ce, g0, g1]
  obtain ⟨q, q1, q2, q3⟩ := slice_vr (n := 2) ht hf hd hok
  rcases q3 with rfl | ⟨xs, rfl, hxs⟩
  · exact ⟨_, [], q1, .nil⟩
  · obtain ⟨l, rfl⟩ := pairs_of (xs := xs) fun x hx => by
      obtain ⟨ys, rfl, hs⟩ := hxs x hx
      obtain ⟨a, b, rfl⟩ := sh_pair2 (n := 0) he p0 p1 d0 d1 hk0 hk1 ce hs
      exact ⟨a, b, by unfold wrapA; rw [he]⟩
    rw [ce] at q1
    exact ⟨_, l, q1, .lst⟩
/-- the law about shearing and hulls, for every input -/
theorem hulls_true {a1 : Int} {b2 : Bool} {q0 q3 : AV} {l0 l3 : List Go.Ab.ZZ} (hq0 : isP q0 l0) (hq3 : isP q3 l3) : ∃ n H', acall E n 6 [q0, .int .i64 a1, .bool b2, q3] [] = some (.bool true, H') := by
  obtain ⟨n, v, H', h1, h2⟩ := k6 (bar := 0) (base := 0) (H := []) (by' := a1) (up := b2) hq0 hq3 (Nat.zero_le _)
  subst h2
  exact ⟨n, H', h1⟩
end Go.Proofs.YtihdlpeghlhnoaaGreatDoor.Code
end
end

