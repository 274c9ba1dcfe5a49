/-
  Parts of the proofs about this chapter, joined: contracts of functions and plain laws.
-/
import Derived.Test.YtnlebofipoepfaaK2
set_option linter.all false
section
namespace Go.Proofs.Ytnlebofipoepfaa.Code
open Go Go.Ab
variable {pure : Bool} {base bar : Nat} {H : Heap} {Q : AV → Heap → Prop}

/-! 66: who beat whom, asked of a board -/
theorem k66 {id ver n x y fz : Nat} {ex : Bool} {w : Nat → Nat} (hid : H[id]? = some (.row ver (bcells n w) fz ex)) (hw : ∀ x, w x < 256) (hx : x < 7) :
    WpCall E pure base bar 66 [.ptr id ver 0, .int .i64 (x : Nat), .int .i64 (y : Nat)] H Q ↔ Q (.bool ((w x).testBit y)) H := by
  rw [call66]
  simp [go_sem, WpFun, c66, loadB hid hx, k65 (hw x), hx]

/-! steps at the front -/
theorem reachR_le {f : Nat → Nat → Bool} {n x j : Nat} : ∀ {m k : Nat}, reachR f n x k j = true → k ≤ m → reachR f n x m j = true
  | 0, k, h, hk => by obtain rfl : k = 0 := by omega
                      exact h
  | m + 1, k, h, hk => by
    by_cases e : k = m + 1
    · subst e; exact h
    · exact reachR_mono (reachR_le (m := m) h (by omega))
theorem reach_front {f : Nat → Nat → Bool} {n z : Nat} (hd : ∀ x y, f x y = true → x < n ∧ y < n) (hz : z < n) : ∀ {k y : Nat}, reachR f n z (k + 1) y = true ↔ reachR f n z k y = true ∨ ∃ u, u < n ∧ f z u = true ∧ reachR f n u k y = true
  | 0, y => by
    show nextR f n (reachR f n z 0) n y = true ↔ _
    rw [nextR_iff]
    simp only [reachR, decide_eq_true_eq]
    constructor
    · rintro (h | ⟨h1, x, h2, rfl, h3⟩)
      · exact .inl h
      · exact .inr ⟨y, h1, h3, rfl⟩
    · rintro (h | ⟨u, h1, h2, rfl⟩)
      · exact .inl h
      · exact .inr ⟨h1, z, hz, rfl, h2⟩
  | k + 1, y => by
    show nextR f n (reachR f n z (k + 1)) n y = true ↔ _
    rw [nextR_iff]
    constructor
    · rintro (h | ⟨h1, x, h2, h3, h4⟩)
      · exact .inl h
      · rcases (reach_front hd hz).1 h3 with h | ⟨u, u1, u2, u3⟩
        · exact .inl (nextR_iff.2 (.inr ⟨h1, x, h2, h, h4⟩))
        · exact .inr ⟨u, u1, u2, nextR_iff.2 (.inr ⟨h1, x, h2, u3, h4⟩)⟩
    · rintro (h | ⟨u, u1, u2, u3⟩)
      · exact .inl h
      · rcases nextR_iff.1 u3 with h | ⟨h1, x, h2, h3, h4⟩
        · exact .inl ((reach_front hd hz).2 (.inr ⟨u, u1, u2, h⟩))
        · exact .inr ⟨h1, x, h2, (reach_front hd hz).2 (.inr ⟨u, u1, u2, h3⟩), h4⟩

/-- so many steps, and no fewer -/
def isLv (f : Nat → Nat → Bool) (n y z d : Nat) : Prop := reachR f n z d y = true ∧ ∀ j, j < d → reachR f n z j y = false
theorem isLv.uniq {f : Nat → Nat → Bool} {n y z a b : Nat} (h1 : isLv f n y z a) (h2 : isLv f n y z b) : a = b := by
  rcases Nat.lt_trichotomy a b with h | h | h
  · have := h1.1
    rw [h2.2 a h] at this; cases this
  · exact h
  · have := h2.1
    rw [h1.2 b h] at this; cases this
theorem isLv.le {f : Nat → Nat → Bool} {n y z a b : Nat} (h1 : isLv f n y z a) (h2 : reachR f n z b y = true) : a ≤ b := by
  apply Nat.le_of_not_lt
  intro h
  rw [h1.2 b h] at h2; cases h2
/-- one that is beaten and from whom chains lead in one step less -/
theorem isLv.pred {f : Nat → Nat → Bool} {n y z d u : Nat} (hd : ∀ x y, f x y = true → x < n ∧ y < n) (hz : z < n) (h : isLv f n y z (d + 1)) (hf : f z u = true) (hu : reachR f n u d y = true) : isLv f n y u d :=
  ⟨hu, fun j hj => by
    cases hr : reachR f n u j y
    · rfl
    · have := (reach_front hd hz).2 (.inr ⟨u, (hd _ _ hf).2, hf, hr⟩)
      rw [h.2 (j + 1) (by omega)] at this; cases this⟩
theorem isLv.next {f : Nat → Nat → Bool} {n y z d : Nat} (hd : ∀ x y, f x y = true → x < n ∧ y < n) (hz : z < n) (h : isLv f n y z (d + 1)) : ∃ u, u < n ∧ f z u = true ∧ isLv f n y u d := by
  rcases (reach_front hd hz).1 h.1 with h1 | ⟨u, u1, u2, u3⟩
  · rw [h.2 d (by omega)] at h1; cases h1
  · exact ⟨u, u1, u2, h.pred hd hz u2 u3⟩

/-- those from whom at most k steps lead to y, with their numbers of steps -/
structure Known (f : Nat → Nat → Bool) (n y k s : Nat) (lv : Nat → Nat) : Prop where
  lt : s < 128
  bit : ∀ z, s.testBit z = true ↔ z < n ∧ reachR f n z k y = true
  lev : ∀ z, s.testBit z = true → isLv f n y z (lv z)
def newB (s : Nat) (w : Nat → Nat) (b z : Nat) : Bool := decide (z < b) && (!s.testBit z && !decide (band (w z) s = 0))
theorem band_meet {a s : Nat} : band a s ≠ 0 ↔ ∃ u, a.testBit u = true ∧ s.testBit u = true := by
  constructor
  · intro h
    obtain ⟨u, hu⟩ := Nat.exists_testBit_of_ne_zero h
    rw [testBit_band, Bool.and_eq_true] at hu
    exact ⟨u, hu⟩
  · rintro ⟨u, h1, h2⟩ hc
    have := congrArg (fun m => m.testBit u) hc
    simp only [testBit_band, h1, h2, Nat.zero_testBit] at this; cases this
section
variable {f : Nat → Nat → Bool} {w : Nat → Nat} {n y : Nat}
theorem Known.next {k s nx : Nat} {lv lv' : Nat → Nat} (hd : ∀ x y, f x y = true → x < n ∧ y < n) (hw : ∀ x y, (w x).testBit y = f x y) (h : Known f n y k s lv) (hn : nx < 128)
    (hb : ∀ z, nx.testBit z = (s.testBit z || newB s w n z)) (hl : ∀ z, lv' z = if newB s w n z = true then k + 1 else lv z) : Known f n y (k + 1) nx lv' := by
  have key : ∀ z, newB s w n z = true ↔ z < n ∧ reachR f n z k y = false ∧ ∃ u, u < n ∧ f z u = true ∧ reachR f n u k y = true := fun z => by
    unfold newB
    rw [Bool.and_eq_true, Bool.and_eq_true, decide_eq_true_eq, Bool.not_eq_true', Bool.not_eq_true', decide_eq_false_iff_not]
    constructor
    · rintro ⟨h1, h2, h3⟩
      obtain ⟨u, u1, u2⟩ := band_meet.1 h3
      obtain ⟨u3, u4⟩ := (h.bit u).1 u2
      refine ⟨h1, ?_, u, u3, by rw [← hw]; exact u1, u4⟩
      cases hr : reachR f n z k y
      · rfl
      · rw [(h.bit z).2 ⟨h1, hr⟩] at h2; cases h2
    · rintro ⟨h1, h2, u, u1, u2, u3⟩
      refine ⟨h1, ?_, band_meet.2 ⟨u, by rw [hw]; exact u2, (h.bit u).2 ⟨u1, u3⟩⟩⟩
      cases hs : s.testBit z
      · rfl
      · rw [((h.bit z).1 hs).2] at h2; cases h2
  have hbit : ∀ z, nx.testBit z = true ↔ z < n ∧ reachR f n z (k + 1) y = true := fun z => by
    rw [hb, Bool.or_eq_true, h.bit, key]
    constructor
    · rintro (⟨h1, h2⟩ | ⟨h1, h2, h3⟩)
      · exact ⟨h1, reachR_mono h2⟩
      · exact ⟨h1, (reach_front hd h1).2 (.inr h3)⟩
    · rintro ⟨h1, h2⟩
      cases hr : reachR f n z k y
      · rcases (reach_front hd h1).1 h2 with h3 | h3
        · rw [hr] at h3; cases h3
        · exact .inr ⟨h1, rfl, h3⟩
      · exact .inl ⟨h1, rfl⟩
  refine ⟨hn, hbit, fun z hz => ?_⟩
  rw [hl]
  split
  · rename_i hk
    obtain ⟨k1, k2, _⟩ := (key z).1 hk
    refine ⟨((hbit z).1 hz).2, fun j hj => ?_⟩
    cases hr : reachR f n z j y
    · rfl
    · rw [reachR_le hr (by omega)] at k2; cases k2
  · rename_i hk
    refine h.lev z ?_
    rw [hb] at hz
    cases hs : s.testBit z
    · rw [hs, Bool.false_or] at hz; exact absurd hz hk
    · rfl
theorem Known.zero {lv : Nat → Nat} (hy : y < n) (hn : n ≤ 7) (hl : lv y = 0) : Known f n y 0 (pw y) lv := by
  refine ⟨Nat.pow_lt_pow_right (n := 7) (a := 2) (by decide) (by omega), fun z => ?_, fun z hz => ?_⟩
  · rw [testBit_pw]
    simp only [reachR, decide_eq_true_eq]
    omega
  · rw [testBit_pw, decide_eq_true_eq] at hz
    subst hz
    rw [hl]
    exact ⟨by simp [reachR], fun j hj => by omega⟩
end

/-! 25: a shortest chain -/
/-- what is known of a chain's beginning -/
structure ChainP (f : Nat → Nat → Bool) (n y x d : Nat) (L : List Nat) : Prop where
  ne : 0 < L.length
  first : L.getD 0 0 = x
  lv : ∀ i, i < L.length → i ≤ d ∧ isLv f n y (L.getD i 0) (d - i) ∧ L.getD i 0 < n
  beat : ∀ i, 0 < i → i < L.length → f (L.getD (i - 1) 0) (L.getD i 0) = true
  least : ∀ i, 0 < i → i < L.length → ∀ z, z < L.getD i 0 → f (L.getD (i - 1) 0) z = true → reachR f n z (d - i) y = false
theorem ChainP.one {f : Nat → Nat → Bool} {n y x d : Nat} (hx : x < n) (h : isLv f n y x d) : ChainP f n y x d [x] := by
  refine ⟨by simp, rfl, fun i hi => ?_, fun i h0 hi => by simp at hi; omega, fun i h0 hi => by simp at hi; omega⟩
  simp at hi; subst hi
  exact ⟨Nat.zero_le _, h, hx⟩
theorem ChainP.snoc {f : Nat → Nat → Bool} {n y x d z : Nat} {L : List Nat} (hd : ∀ x y, f x y = true → x < n ∧ y < n) (h : ChainP f n y x d L) (hld : L.length ≤ d) (hz : f (L.getD (L.length - 1) 0) z = true) (hl : isLv f n y z (d - L.length))
    (hm : ∀ u, u < z → f (L.getD (L.length - 1) 0) u = true → reachR f n u (d - L.length) y = false) : ChainP f n y x d (L ++ [z]) := by
  have g1 : ∀ i, i < L.length → (L ++ [z]).getD i 0 = L.getD i 0 := fun i hi => by rw [List.getD_eq_getElem?_getD, List.getD_eq_getElem?_getD, List.getElem?_append_left hi]
  have g2 : (L ++ [z]).getD L.length 0 = z := by simp [List.getD_eq_getElem?_getD]
  have hlen : (L ++ [z]).length = L.length + 1 := by simp
  refine ⟨by omega, by rw [g1 0 h.ne]; exact h.first, fun i hi => ?_, fun i h0 hi => ?_, fun i h0 hi => ?_⟩
  · by_cases e : i < L.length
    · rw [g1 i e]; exact h.lv i e
    · obtain rfl : i = L.length := by omega
      rw [g2]; exact ⟨hld, hl, (hd _ _ hz).2⟩
  · by_cases e : i < L.length
    · rw [g1 i e, g1 (i - 1) (by omega)]; exact h.beat i h0 e
    · obtain rfl : i = L.length := by omega
      rw [g2, g1 (L.length - 1) (by omega)]; exact hz
  · by_cases e : i < L.length
    · rw [g1 i e, g1 (i - 1) (by omega)]; exact h.least i h0 e
    · obtain rfl : i = L.length := by omega
      rw [g2, g1 (L.length - 1) (by omega)]; exact hm

/-! a list under construction that began with a literal -/
def Gro (l : List Nat) (H0 : Heap) (v : AV) (H : Heap) : Prop := (l ≠ [] ∧ v = .lst 1 true (nats l) ∧ H = H0) ∨ Grow 1 (nats l) H0 v H
theorem nats_flat : ∀ (b : List Nat), (nats b).flatMap AV.cells = nats b := fun b => by
  induction b with
  | nil => rfl
  | cons x r ih => simp only [nats, List.map_cons, List.flatMap_cons, AV.cells] at ih ⊢; rw [ih]; rfl
theorem Gro.nat {bytes : Nat} {l : List Nat} {H0 : Heap} {v : AV} {ex : Bool} {x : Nat} {K : AV → Heap → List Nat → Prop} (g : Gro l H0 v H) (hb : bar ≤ H0.length) (hbase : base ≤ H0.length)
    (hlen : (l.length + 1) * bytes ≤ 140737488355328)
    (h : ∀ v' H' tc, Gro (l ++ [x]) H0 v' H' → K v' H' tc) : appWp base bar 1 bytes (some v) (some (.lst 1 ex [.int .i64 (x : Int)])) H K := by
  rcases g with ⟨hne, rfl, rfl⟩ | g
  · have hp : ∀ c ∈ [AV.int .i64 (x : Int)], Plain c := fun c hc => by simp at hc; subst hc; exact Plain.int
    have e : [AV.int .i64 (x : Int)].flatMap AV.cells = [AV.int .i64 (x : Int)] := rfl
    simp only [appWp, asrc_lst, frzAll, frz.frzs, e]
    rw [plains (d := 6) hp]
    simp only [AV.noVec.noVecs, AV.noVec, Bool.and_true, if_true]
    rw [if_neg (by simp)]
    simp only [aappend]
    rw [if_neg (by simp), if_neg (by simp)]
    have hl2 : ((nats l).length + [AV.int .i64 (x : Int)].length / 1) * bytes ≤ 140737488355328 := by simpa [nats_length] using hlen
    rw [if_pos ⟨trivial, hl2⟩]
    simp only
    refine h _ _ _ (.inr (.inr ⟨0, 0, by simp [nats_eq_nil], Nat.zero_le _, ?_, ?_⟩))
    · simp [nats_length]
    · rw [nats_flat, nats_append, nats_one]
  · exact g.nat hb hbase hlen fun v' H' tc g' => h v' H' tc (.inr g')
theorem Gro.frz {l : List Nat} {H0 : Heap} {v : AV} (g : Gro l H0 v H) (hb : bar ≤ H0.length) : ∃ q H', frz 8 bar H v = some (q, H') ∧ isL q l ∧ H'.take H0.length = H0 := by
  rcases g with ⟨hne, rfl, rfl⟩ | g
  · refine ⟨_, _, ?_, isL.lst (ex := true), List.take_length⟩
    exact (isL.lst (ex := true) (l := l)).frz
  · obtain ⟨H', h1, h2, h3, h4⟩ := g.frz (d := 5) (bar := bar) (by omega) (Nat.one_dvd _) nats_plain hb
    exact ⟨_, H', h1, isL.out, h4⟩
theorem Gro.get {l : List Nat} {H0 : Heap} {v : AV} (g : Gro l H0 v H) {i : Nat} {b : Blk} (h : H0[i]? = some b) : H[i]? = some b := by
  rcases g with ⟨_, _, rfl⟩ | g
  · exact h
  · exact g.get h
theorem Gro.len {l : List Nat} {H0 : Heap} {v : AV} (g : Gro l H0 v H) : H0.length ≤ H.length := by
  rcases g with ⟨_, _, rfl⟩ | g
  · exact Nat.le_refl _
  · exact g.len
theorem Gro.slot {l : List Nat} {H0 : Heap} {v : AV} (g : Gro l H0 v H) : v.isTup = false ∧ v.cells = [v] := by
  rcases g with ⟨_, rfl, _⟩ | ⟨_, rfl, _⟩ | ⟨_, _, _, _, rfl, _⟩ <;> exact ⟨rfl, rfl⟩
end Go.Proofs.Ytnlebofipoepfaa.Code
end

section
namespace Go.Proofs.Ytnlebofipoepfaa.Code
open Go Go.Ab
variable {pure : Bool} {base bar : Nat} {H : Heap} {Q : AV → Heap → Prop}

theorem newB_zero {s : Nat} {w : Nat → Nat} {z : Nat} : newB s w 0 z = false := by simp [newB]
theorem newB_succ {s b : Nat} {w : Nat → Nat} {z : Nat} : newB s w (b + 1) z = (newB s w b z || (decide (z = b) && (!s.testBit b && !decide (band (w b) s = 0)))) := by
  unfold newB
  by_cases e : z = b
  · subst e; simp
  · simp [e, show z < b + 1 ↔ z < b by omega]
section
variable {ib ver fz il x y n : Nat} {ex : Bool} {w f : Nat → Nat} {cs : List AV}
set_option maxRecDepth 4000 in
theorem l25a {s k : Nat} (hid : H[ib]? = some (.row ver (bcells n w) fz ex)) (hl : H[il]? = some (.row 0 cs 0 true)) (hne : ib ≠ il) (hbar : bar ≤ il) (hn : n ≤ 7) (hw : ∀ x, w x < 256) (hs : s < 128) {R : PQ} :
    ∀ (m b nx : Nat) (lv : Nat → Nat), b + m = n → nx < 128 →
    (∀ nx' lv', nx' < 128 → (∀ z, nx'.testBit z = (s.testBit z || newB s w n z)) → (∀ z, lv' z = if newB s w n z = true then k else f z) →
      R (.exit 3) [(1, .int .i64 (x : Nat)), (2, .int .i64 (y : Nat)), (8, .ptr ib ver 0), (10, .ptr il 0 0), (11, .int .u8 (s : Nat)), (12, .int .i64 (k : Nat)), (13, .int .u8 (nx' : Nat)), (61, .int .i64 (n : Nat)), (62, .int .i64 (n : Nat)), (63, .bool false)] (H.set il (.row 0 (fcells 7 lv') 0 true))) →
    (∀ z, nx.testBit z = (s.testBit z || newB s w b z)) → (∀ z, lv z = if newB s w b z = true then k else f z) →
    Wp E base bar (.loop c25_l0) [(1, .int .i64 (x : Nat)), (2, .int .i64 (y : Nat)), (8, .ptr ib ver 0), (10, .ptr il 0 0), (11, .int .u8 (s : Nat)), (12, .int .i64 (k : Nat)), (13, .int .u8 (nx : Nat)), (61, .int .i64 (n : Nat)), (62, .int .i64 (b : Nat))] (H.set il (.row 0 (fcells 7 lv) 0 true)) R := by
  intro m
  induction m with
  | zero =>
    intro b nx lv hb hnx h h1 h2
    obtain rfl : b = n := by omega
    rw [wp_round c25_l0.eq_1]
    simp [go_sem]
    exact h nx lv hnx h1 h2
  | succ m ih =>
    intro b nx lv hb hnx h h1 h2
    have hlt : b < n := by omega
    have hid' : (H.set il (.row 0 (fcells 7 lv) 0 true))[ib]? = some (.row ver (bcells n w) fz ex) := by rw [List.getElem?_set_ne (Ne.symm hne)]; exact hid
    have hil' : (H.set il (.row 0 (fcells 7 lv) 0 true))[il]? = some (.row 0 (fcells 7 lv) 0 true) := set_get hl
    have hz := i64_suc (show b < 1000000 by omega)
    rw [wp_round c25_l0.eq_1]
    cases e1 : s.testBit b
    · by_cases e2 : band (w b) s = 0
      · simp [go_sem, hlt, k65 (show s < 256 by omega), e1, loadB hid' (show b < 7 by omega), show b < 7 by omega, and_u8 (hw b) (show s < 256 by omega), e2, hz]
        exact ih (b + 1) nx lv (by omega) hnx h (fun z => by rw [h1, newB_succ, e2]; simp) fun z => by rw [h2, newB_succ, e2]; simp
      · have e3 : ¬ ((band (w b) s : Nat) : Int) = 0 := by omega
        simp [go_sem, hlt, k65 (show s < 256 by omega), e1, loadB hid' (show b < 7 by omega), show b < 7 by omega, and_u8 (hw b) (show s < 256 by omega), e2, e3]
        rw [storeF hil' (by omega) (Nat.zero_le _) hbar, List.set_set]
        simp [go_sem, shl_u8 (show b < 8 by omega), or_u8 (show nx < 256 by omega) (pw_lt (show b < 8 by omega)), hz]
        refine ih (b + 1) _ _ (by omega) (lt_pw (n := 7) fun i hi => ?_) h (fun z => ?_) fun z => ?_
        · rw [testBit_bor, Bool.or_eq_true, testBit_pw, decide_eq_true_eq] at hi
          rcases hi with hi | hi
          · exact bit_lt (n := 7) hnx hi
          · omega
        · rw [testBit_bor, h1, newB_succ, testBit_pw, e1, decide_eq_false e2, Bool.or_assoc]
          congr 2
          simp [eq_comm]
        · rw [newB_succ, e1, decide_eq_false e2]
          unfold upd
          by_cases ez : z = b
          · subst ez; simp
          · rw [if_neg ez, h2]; simp [ez]
    · simp [go_sem, hlt, k65 (show s < 256 by omega), e1, hz]
      exact ih (b + 1) nx lv (by omega) hnx h (fun z => by rw [h1, newB_succ, e1]; simp) fun z => by rw [h2, newB_succ, e1]; simp

theorem l25b {g : Nat → Nat → Bool} (hid : H[ib]? = some (.row ver (bcells n w) fz ex)) (hl : H[il]? = some (.row 0 cs 0 true)) (hne : ib ≠ il) (hbar : bar ≤ il) (hn : n ≤ 7) (hbd : BoardW n w) (hd : ∀ x y, g x y = true → x < n ∧ y < n) (hg : ∀ x y, (w x).testBit y = g x y)
    (hx : x < n) (hy : y < n) (hr : reachR g n x n y = true) {R : PQ}
    (h : ∀ k s lv, k ≤ n → Known g n y k s lv → reachR g n x k y = true → R (.exit 1) [(1, .int .i64 (x : Nat)), (2, .int .i64 (y : Nat)), (8, .ptr ib ver 0), (10, .ptr il 0 0), (11, .int .u8 (s : Nat)), (12, .int .i64 ((k + 1 : Nat) : Int)), (54, .bool false)] (H.set il (.row 0 (fcells 7 lv) 0 true))) :
    ∀ (m k s : Nat) (lv : Nat → Nat), k + m = n → Known g n y k s lv →
    Wp E base bar (.loop c25_l1) [(1, .int .i64 (x : Nat)), (2, .int .i64 (y : Nat)), (8, .ptr ib ver 0), (10, .ptr il 0 0), (11, .int .u8 (s : Nat)), (12, .int .i64 ((k + 1 : Nat) : Int))] (H.set il (.row 0 (fcells 7 lv) 0 true)) R := by
  intro m
  induction m with
  | zero =>
    intro k s lv hk hkn
    obtain rfl : k = n := by omega
    have hs := hkn.lt
    have e : s.testBit x = true := (hkn.bit x).2 ⟨hx, hr⟩
    have := h _ s lv (Nat.le_refl _) hkn hr
    rw [wp_round c25_l1.eq_1]
    simp [go_sem, k65 (show s < 256 by omega), e]
    simpa using this
  | succ m ih =>
    intro k s lv hk hkn
    have hs := hkn.lt
    rw [wp_round c25_l1.eq_1]
    cases e : s.testBit x
    · have hid' : (H.set il (.row 0 (fcells 7 lv) 0 true))[ib]? = some (.row ver (bcells n w) fz ex) := by rw [List.getElem?_set_ne (Ne.symm hne)]; exact hid
      have hz := i64_suc (show k + 1 < 1000000 by omega)
      generalize hk1 : k + 1 = k1 at *
      simp [go_sem, k65 (show s < 256 by omega), e, loadBN hid']
      refine l25a (f := lv) hid hl hne hbar hn hbd.lt hs n 0 s lv (by omega) hs (fun nx' lv' g1 g2 g3 => ?_) (fun z => by rw [newB_zero]; simp) fun z => by rw [newB_zero]; simp
      simp [go_sem, hz]
      subst hk1
      have := ih (k + 1) nx' lv' (by omega) (hkn.next hd hg g1 g2 g3)
      simpa using this
    · have := h k s lv (by omega) hkn ((hkn.bit x).1 e).2
      simp [go_sem, k65 (show s < 256 by omega), e]
      simpa using this
end
end Go.Proofs.Ytnlebofipoepfaa.Code
end

section
namespace Go.Proofs.Ytnlebofipoepfaa.Code
open Go Go.Ab
variable {pure : Bool} {base bar : Nat} {H : Heap} {Q : AV → Heap → Prop}

section
variable {ib ver fz il y n : Nat} {ex : Bool} {w lv : Nat → Nat}
set_option maxRecDepth 4000 in
theorem l25c {s c e z0 : Nat} {v : AV} (hid : H[ib]? = some (.row ver (bcells n w) fz ex)) (hl : H[il]? = some (.row 0 (fcells 7 lv) 0 true)) (hn : n ≤ 7) (hw : ∀ x, w x < 256) (hs : s < 128) (hc : c < n) (hlc : lv c = e + 1) (he : e < 1000) (h0 : z0 < n)
    (p0 : (w c).testBit z0 = true ∧ s.testBit z0 = true ∧ lv z0 = e) {R : PQ}
    (h : R (.exit 7) [(2, .int .i64 (y : Nat)), (8, .ptr ib ver 0), (10, .ptr il 0 0), (11, .int .u8 (s : Nat)), (15, v), (16, .int .i64 (z0 : Nat))] H) :
    ∀ (m b : Nat), b + m = z0 → (∀ z, b ≤ z → z < z0 → ¬ ((w c).testBit z = true ∧ s.testBit z = true ∧ lv z = e)) →
    Wp E base bar (.loop c25_l2) [(2, .int .i64 (y : Nat)), (8, .ptr ib ver 0), (10, .ptr il 0 0), (11, .int .u8 (s : Nat)), (15, v), (16, .int .i64 (c : Nat)), (98, .int .i64 (n : Nat)), (99, .int .i64 (b : Nat))] H R := by
  have hsub : IntKind.i64.wrap (((lv c : Nat) : Int) - 1) = (e : Int) := by rw [hlc, show ((e + 1 : Nat) : Int) - 1 = (e : Int) by omega, i64_nat (by omega)]
  clear hlc
  intro m
  induction m with
  | zero =>
    intro b hb _
    obtain rfl : b = z0 := by omega
    obtain ⟨p1, p2, p3⟩ := p0
    rw [wp_round c25_l2.eq_1]
    simp [go_sem, h0, k66 hid hw (show c < 7 by omega), p1, k65 (show s < 256 by omega), p2, loadF hl (show b < 7 by omega), loadF hl (show c < 7 by omega), show b < 7 by omega, show c < 7 by omega, hsub, p3]
    exact h
  | succ m ih =>
    intro b hb hp
    have hlt : b < n := by omega
    have next := ih (b + 1) (by omega) fun z hz => hp z (by omega)
    have hz := i64_suc (show b < 1000000 by omega)
    have hpb := hp b (Nat.le_refl _) (by omega)
    rw [wp_round c25_l2.eq_1]
    cases e1 : (w c).testBit b
    · simp [go_sem, hlt, k66 hid hw (show c < 7 by omega), e1, hz]
      exact next
    · cases e2 : s.testBit b
      · simp [go_sem, hlt, k66 hid hw (show c < 7 by omega), e1, k65 (show s < 256 by omega), e2, hz]
        exact next
      · have e3 : ¬ lv b = e := fun hc => hpb ⟨e1, e2, hc⟩
        simp [go_sem, hlt, k66 hid hw (show c < 7 by omega), e1, k65 (show s < 256 by omega), e2, loadF hl (show b < 7 by omega), loadF hl (show c < 7 by omega), show b < 7 by omega, show c < 7 by omega, hsub, natEq, e3, hz]
        exact next
theorem least_ex {p : Nat → Prop} [DecidablePred p] : ∀ {n : Nat}, (∃ z, z < n ∧ p z) → ∃ z, z < n ∧ p z ∧ ∀ u, u < z → ¬ p u
  | 0, ⟨z, hz, _⟩ => by omega
  | n + 1, ⟨z, hz, hp⟩ => by
    by_cases h : ∃ z, z < n ∧ p z
    · obtain ⟨u, u1, u2, u3⟩ := least_ex h
      exact ⟨u, by omega, u2, u3⟩
    · obtain rfl : z = n := by
        apply Decidable.byContradiction
        intro hc
        exact h ⟨z, by omega, hp⟩
      exact ⟨z, hz, hp, fun u hu hpu => h ⟨u, hu, hpu⟩⟩
theorem l25d {x s d k : Nat} {g : Nat → Nat → Bool} {H0 : Heap} (hid : H0[ib]? = some (.row ver (bcells n w) fz ex)) (hl : H0[il]? = some (.row 0 (fcells 7 lv) 0 true)) (hn : n ≤ 7) (hbd : BoardW n w) (hd : ∀ x y, g x y = true → x < n ∧ y < n) (hg : ∀ x y, (w x).testBit y = g x y)
    (hk : Known g n y k s lv) (hdk : d ≤ k) (hk1 : k ≤ 7) (hbar : bar ≤ H0.length) (hbase : base ≤ H0.length) {R : PQ}
    (h : ∀ L v Hc, ChainP g n y x d L → L.length = d + 1 → Gro L H0 v Hc → R (.exit 5) [(2, .int .i64 (y : Nat)), (8, .ptr ib ver 0), (10, .ptr il 0 0), (11, .int .u8 (s : Nat)), (15, v), (16, .int .i64 (y : Nat)), (94, .bool false)] Hc) :
    ∀ (r : Nat) (L : List Nat) (v : AV) (Hc : Heap), L.length + r = d + 1 → ChainP g n y x d L → Gro L H0 v Hc →
    Wp E base bar (.loop c25_l3) [(2, .int .i64 (y : Nat)), (8, .ptr ib ver 0), (10, .ptr il 0 0), (11, .int .u8 (s : Nat)), (15, v), (16, .int .i64 ((L.getD (L.length - 1) 0 : Nat) : Int))] Hc R := by
  intro r
  induction r with
  | zero =>
    intro L v Hc hr hc hgr
    obtain ⟨l1, l2, l3⟩ := hc.lv (L.length - 1) (by have := hc.ne; omega)
    have e : L.getD (L.length - 1) 0 = y := by
      have := l2.1
      rw [show d - (L.length - 1) = 0 by omega] at this
      simp only [reachR, decide_eq_true_eq] at this
      exact this.symm
    have := h L v Hc hc (by omega) hgr
    rw [e]
    rw [wp_round c25_l3.eq_1]
    simp [go_sem]
    exact this
  | succ r ih =>
    intro L v Hc hr hc hgr
    have hne := hc.ne
    obtain ⟨l1, l2, l3⟩ := hc.lv (L.length - 1) (by omega)
    obtain ⟨m, hm⟩ : ∃ m, d - (L.length - 1) = m + 1 := ⟨d - L.length, by omega⟩
    rw [hm] at l2
    have hm2 : d - L.length = m := by omega
    have hcy : ¬ L.getD (L.length - 1) 0 = y := fun hcy => by
      have := l2.2 0 (by omega)
      simp only [reachR, decide_eq_false_iff_not] at this
      exact this hcy.symm
    have hsn := fun (z : Nat) (h1 : g (L.getD (L.length - 1) 0) z = true) (h2 : isLv g n y z (d - L.length)) (h3 : ∀ u, u < z → g (L.getD (L.length - 1) 0) u = true → reachR g n u (d - L.length) y = false) => hc.snoc hd (by omega) h1 h2 h3
    rw [hm2] at hsn
    have hk2 := (hk.bit (L.getD (L.length - 1) 0)).2 ⟨l3, reachR_le l2.1 (by omega)⟩
    have hlc := (hk.lev _ hk2).uniq l2
    generalize L.getD (L.length - 1) 0 = c at *
    have cand : ∀ z, g c z = true → reachR g n z m y = true → (w c).testBit z = true ∧ s.testBit z = true ∧ lv z = m := fun z h1 h2 => by
      have h3 := (hk.bit z).2 ⟨(hd _ _ h1).2, reachR_le h2 (by omega)⟩
      exact ⟨by rw [hg]; exact h1, h3, (hk.lev z h3).uniq (l2.pred hd l3 h1 h2)⟩
    obtain ⟨u, u1, u2, u3⟩ := l2.next hd l3
    obtain ⟨z, z1, ⟨z2, z3, z4⟩, z5⟩ := least_ex (p := fun z => (w c).testBit z = true ∧ s.testBit z = true ∧ lv z = m) ⟨u, u1, cand u u2 u3.1⟩
    have hnew := hsn z (by rw [← hg]; exact z2) (by have := hk.lev z z3; rw [z4] at this; exact this) fun u hu hgu => by
      cases hr : reachR g n u m y
      · rfl
      · exact absurd (cand u hgu hr) (z5 u hu)
    have hid' := hgr.get hid
    have hl' := hgr.get hl
    obtain ⟨sl1, sl2⟩ := hgr.slot
    rw [wp_round c25_l3.eq_1]
    simp [go_sem, natEq, hcy, loadBN hid']
    refine l25c (z0 := z) hid' hl' hn hbd.lt hk.lt l3 hlc (by omega) z1 ⟨z2, z3, z4⟩ ?_ z 0 (by omega) fun u _ hu => z5 u hu
    simp [go_sem, aop, fillA, setCells, chunks, AV.noVec.noVecs, AV.noVec]
    refine hgr.nat hbar hbase (by omega) fun v' H' tc g' => ?_
    simp [go_sem]
    have next := ih (L ++ [z]) v' H' (by simp; omega) hnew g'
    have e2 : (L ++ [z]).getD ((L ++ [z]).length - 1) 0 = z := by simp [List.getD_eq_getElem?_getD]
    rw [e2] at next
    exact next
end
set_option maxRecDepth 4000 in
theorem k25 {n bits x y : Nat} {q : AV} {l : List ZZ} {f : Nat → Nat → Bool} (hq : isP q l) (hl : l.length < 1000) (hm : MadeC n bits l f) (hx : x < n) (hy : y < n) (hbar : bar ≤ H.length)
    (h1 : reachR f n x n y = false → Q (.tup [.nils, .int .i64 12]) H)
    (h2 : ∀ L v d, isL v L → ChainP f n y x d L → L.length = d + 1 → isLv f n y x d → Q (.tup [v, .int .i64 0]) H) : WpCall E pure base bar 25 [.agg [.int .i64 (n : Nat), q], .int .i64 (x : Nat), .int .i64 (y : Nat)] H Q := by
  rw [call25]
  have hb' := bar_ok (pure := pure) hbar
  have hn := hm.le
  obtain ⟨hbd, hbit⟩ := hm.board
  have hd : ∀ x y, f x y = true → x < n ∧ y < n := fun x y hxy => hm.dom x y hxy
  have lh : aload (H ++ [Blk.row 0 [.int .i64 (n : Nat), q] 0 true]) ⟨true, 2⟩ (.ptr H.length 0 0) = some (.agg [.int .i64 (n : Nat), q]) := by simp [aload, own_get0, Ab.part]
  simp [go_sem, WpFun, c25, hq.frz, lh] at hb' ⊢
  generalize (if pure = true then H.length else bar) = bar' at hb' ⊢
  refine k56 hq hl (by simp; omega) (fun hc => absurd hm.check hc) (fun m hnm _ _ _ => ?_)
  obtain rfl : n = m := by omega
  have hid : (H ++ [Blk.row 0 [AV.int IntKind.i64 (n : Nat), q] 0 true, Blk.row 0 (bcells n (boardF l fun _ => 0)) 0 true])[H.length + 1]? = some (.row 0 (bcells n (boardF l fun _ => 0)) 0 true) := by simp [own_get]
  have hk64 := reach_all hx hbd hbit (j := y)
  obtain ⟨g, hg⟩ := reach_w hbd
  have hgx := hg.lt x (by omega)
  have hgb := hg.bit x y (by omega)
  have c1 : (0 : Int) ≤ (if y < x then (y : Int) else (x : Int)) := by split <;> omega
  have c2 : ¬ ((n : Int) ≤ if x < y then (y : Int) else (x : Int)) := by split <;> omega
  simp [go_sem, loadBN hid, aop]
  rw [if_pos c1, if_neg c2]
  refine k64g hid hbd hg (by omega) (by simp; omega) ?_
  cases hr : reachR f n x n y
  · have e : (g x).testBit y = false := by
      cases he : (g x).testBit y
      · rfl
      · rw [hk64.2 (hgb.1 he)] at hr; cases hr
    simp [go_sem, k65 (show g x < 256 by omega), e]
    exact h1 hr
  · have e : (g x).testBit y = true := hgb.2 (hk64.1 hr)
    simp [go_sem, k65 (show g x < 256 by omega), e, shl_u8 (show y < 8 by omega)]
    have z7 : [AV.int .i64 0, .int .i64 0, .int .i64 0, .int .i64 0, .int .i64 0, .int .i64 0, .int .i64 0] = fcells 7 (fun _ => 0) := rfl
    rw [z7]
    obtain ⟨H3, hH3⟩ : ∃ H3, H3 = H ++ [Blk.row 0 [AV.int IntKind.i64 (n : Nat), q] 0 true, Blk.row 0 (bcells n (boardF l fun _ => 0)) 0 true, .row 0 (fcells 7 fun _ => 0) 0 true] := ⟨_, rfl⟩
    have q1 : H3[H.length + 1]? = some (Blk.row 0 (bcells n (boardF l fun _ => 0)) 0 true) := by rw [hH3]; simp [own_get]
    have q2 : H3[H.length + 2]? = some (Blk.row 0 (fcells 7 fun _ => 0) 0 true) := by rw [hH3]; simp [own_get]
    have q3 : H3.length = H.length + 3 := by rw [hH3]; simp
    have q4 : H3.take H.length = H := by rw [hH3]; simp
    have e3 : H3 = H3.set (H.length + 2) (.row 0 (fcells 7 fun _ => 0) 0 true) := by
      rw [hH3, own_set]; rfl
    rw [← hH3, e3]
    refine l25b (g := f) q1 q2 (by omega) (by omega) hn hbd hd hbit hx hy hr (fun k s lv hkn hK hkr => ?_) n 0 (pw y) (fun _ => 0) (by omega) (Known.zero hy hn rfl)
    have q5 : (H3.set (H.length + 2) (.row 0 (fcells 7 lv) 0 true))[H.length + 1]? = some (Blk.row 0 (bcells n (boardF l fun _ => 0)) 0 true) := by rw [List.getElem?_set_ne (by omega)]; exact q1
    have q6 : (H3.set (H.length + 2) (.row 0 (fcells 7 lv) 0 true))[H.length + 2]? = some (.row 0 (fcells 7 lv) 0 true) := set_get q2
    have q7 : (H3.set (H.length + 2) (.row 0 (fcells 7 lv) 0 true)).length = H.length + 3 := by simp [q3]
    have q8 : (H3.set (H.length + 2) (.row 0 (fcells 7 lv) 0 true)).take H.length = H := by rw [List.take_set_of_le (by omega), q4]
    generalize H3.set (H.length + 2) (.row 0 (fcells 7 lv) 0 true) = H4 at *
    have hlx := hK.lev x ((hK.bit x).2 ⟨hx, hkr⟩)
    simp [go_sem, aop, fillA, setCells, chunks]
    refine l25d (bar := bar') (base := H.length) (x := x) (d := lv x) (g := f) q5 q6 hn hbd hd hbit hK (hlx.le hkr) (by omega) (by omega) (by omega) (fun L v Hc hc hlen hgr => ?_) (lv x) [x] _ H4 (by simp; omega) (ChainP.one hx hlx) (.inl ⟨by simp, rfl, rfl⟩)
    obtain ⟨qv, H5, f1, f2, f3⟩ := hgr.frz (bar := bar') (by omega)
    have f4 : H5.take H.length = H := by
      have := congrArg (List.take H.length) f3
      rw [List.take_take, q7, Nat.min_eq_left (by omega), q8] at this
      exact this
    simp [go_sem, f1, f2.top, f4]
    exact h2 L qv (lv x) f2 hc hlen hlx
end Go.Proofs.Ytnlebofipoepfaa.Code
end

section
namespace Go.Proofs.Ytnlebofipoepfaa.Code
open Go Go.Ab
variable {base bar : Nat} {H : Heap}

section
variable {n x y : Nat} {f : Nat → Nat → Bool} {v : AV}
set_option maxRecDepth 4000 in
theorem l7a (h2 : H[2]? = some (.row 0 (gcells f) 0 true)) (hn : n ≤ 7) (hx : x < n) (hy : y < n) (hb : bar ≤ H.length) {R : PQ}
    (h : ∀ s, (∀ j, j < s → reachR f n x j y = false) → (s ≤ n ∧ reachR f n x s y = true ∨ s = n + 1) →
      R (.exit 0) [(7, .ptr 1 0 0), (8, .ptr 2 0 0), (9, .int .i64 (n : Nat)), (10, .int .i64 (x : Nat)), (11, .int .i64 (y : Nat)), (12, .int .i64 (s : Nat)), (44, .bool false)] H) :
    ∀ (k s : Nat), s + k = n + 1 → (∀ j, j < s → reachR f n x j y = false) →
    Wp E base bar (.loop c7_l0) [(7, .ptr 1 0 0), (8, .ptr 2 0 0), (9, .int .i64 (n : Nat)), (10, .int .i64 (x : Nat)), (11, .int .i64 (y : Nat)), (12, .int .i64 (s : Nat))] H R := by
  intro k
  induction k with
  | zero =>
    intro s hs hj
    have hz : ¬ (s ≤ n) := by omega
    rw [wp_round c7_l0.eq_1]
    simp [go_sem, hz]
    exact h s hj (.inr (by omega))
  | succ k ih =>
    intro s hs hj
    have hle : s ≤ n := by omega
    rw [wp_round c7_l0.eq_1]
    simp [go_sem, hle, loadGG h2]
    refine k45 hn (by omega) (by omega) hb ?_
    simp [go_sem, show y < 7 by omega]
    rw [mcells_get (by omega)]
    cases hr : reachR f n x s y
    · simp [go_sem, i64_suc (show s < 1000000 by omega)]
      refine ih (s + 1) (by omega) fun j hjs => ?_
      by_cases e : j = s
      · subst e; exact hr
      · exact hj j (by omega)
    · simp [go_sem]
      exact h s hj (.inl ⟨hle, hr⟩)
set_option maxRecDepth 4000 in
theorem l7b {L : List Nat} {d i : Nat} (h2 : H[2]? = some (.row 0 (gcells f) 0 true)) (hn : n ≤ 7) (hy : y < n) (hv : isL v L) (hc : ChainP f n y x d L) (hd : d ≤ 7) (h0 : 0 < i) (hi : i < L.length) (hb : bar ≤ H.length) {R : PQ}
    (h : R (.exit 4) [(8, .ptr 2 0 0), (9, .int .i64 (n : Nat)), (11, .int .i64 (y : Nat)), (12, .int .i64 (d : Nat)), (13, v), (15, .int .i64 (i : Nat)), (120, .int .i64 ((L.getD i 0 : Nat) : Int)), (121, .int .i64 ((L.getD i 0 : Nat) : Int)), (122, .bool false)] H) :
    ∀ (k z : Nat), z + k = L.getD i 0 →
    Wp E base bar (.loop c7_l1) [(8, .ptr 2 0 0), (9, .int .i64 (n : Nat)), (11, .int .i64 (y : Nat)), (12, .int .i64 (d : Nat)), (13, v), (15, .int .i64 (i : Nat)), (120, .int .i64 ((L.getD i 0 : Nat) : Int)), (121, .int .i64 (z : Nat))] H R := by
  have hm := hc.least i h0 hi
  obtain ⟨hid, _, hli⟩ := hc.lv i hi
  obtain ⟨_, _, hlp⟩ := hc.lv (i - 1) (by omega)
  have hs1 : IntKind.i64.wrap ((i : Int) - 1) = ((i - 1 : Nat) : Int) := by rw [show (i : Int) - 1 = ((i - 1 : Nat) : Int) by omega, i64_nat (by omega)]
  have hs2 : IntKind.i64.wrap ((d : Int) - i) = ((d - i : Nat) : Int) := by rw [show (d : Int) - i = ((d - i : Nat) : Int) by omega, i64_nat (by omega)]
  have hdi : d - i < 1000 := by omega
  have hip : L[i - 1] = L.getD (i - 1) 0 := by rw [List.getD_eq_getElem?_getD, List.getElem?_eq_getElem (by omega)]; rfl
  have hix : ∀ {K : AV → Heap → List Nat → Prop}, ixaSWp 1 (some v) (some (.int .i64 ((i - 1 : Nat) : Int))) H K = K (.fp (.int .i64 ((L.getD (i - 1) 0 : Nat) : Int))) H [] := fun {K} => by rw [hv.ix (by omega), hip]
  clear hip
  generalize L.getD i 0 = li at *
  generalize L.getD (i - 1) 0 = lp at *
  generalize d - i = e at *
  generalize i - 1 = i1 at *
  intro k
  induction k with
  | zero =>
    intro z hz
    obtain rfl : z = li := by omega
    rw [wp_round c7_l1.eq_1]
    simp [go_sem]
    exact h
  | succ k ih =>
    intro z hz
    have hlt : z < li := by omega
    have next := ih (z + 1) (by omega)
    have g1 := loadG (s := 1) h2 (show lp < 7 by omega) (show z < 7 by omega)
    have hzz := i64_suc (show z < 1000000 by omega)
    rw [wp_round c7_l1.eq_1]
    cases hf : f lp z
    · rw [hf] at g1
      simp [go_sem, hlt, hs1, hix, show lp < 7 by omega, show z < 7 by omega, g1, hzz]
      exact next
    · rw [hf] at g1
      have hr := hm z hlt hf
      simp [go_sem, hlt, hs1, hs2, hix, show lp < 7 by omega, show z < 7 by omega, g1, loadGG h2]
      refine k45 hn (by omega) (by omega) hb ?_
      simp [go_sem, show y < 7 by omega]
      rw [mcells_get (by omega), hr]
      simp [go_sem, hzz]
      exact next
set_option maxRecDepth 4000 in
theorem l7c {L : List Nat} {d : Nat} (h2 : H[2]? = some (.row 0 (gcells f) 0 true)) (hn : n ≤ 7) (hy : y < n) (hv : isL v L) (hc : ChainP f n y x d L) (hd : d ≤ 7) (hb : bar ≤ H.length) {R : PQ}
    (h : R (.exit 2) [(8, .ptr 2 0 0), (9, .int .i64 (n : Nat)), (11, .int .i64 (y : Nat)), (12, .int .i64 (d : Nat)), (13, v), (15, .int .i64 (L.length : Nat)), (86, .bool false)] H) :
    ∀ (k i : Nat), i + k = L.length → 0 < i →
    Wp E base bar (.loop c7_l2) [(8, .ptr 2 0 0), (9, .int .i64 (n : Nat)), (11, .int .i64 (y : Nat)), (12, .int .i64 (d : Nat)), (13, v), (15, .int .i64 (i : Nat))] H R := by
  intro k
  induction k with
  | zero =>
    intro i hi h0
    obtain rfl : i = L.length := by omega
    rw [wp_round c7_l2.eq_1]
    simp [go_sem, hv.len]
    exact h
  | succ k ih =>
    intro i hi h0
    have hlt : i < L.length := by omega
    have next := ih (i + 1) (by omega) (by omega)
    have hin := fun (R : PQ) => l7b (bar := bar) (base := base) h2 hn hy hv hc hd h0 hlt hb (R := R)
    obtain ⟨hid, _, hli⟩ := hc.lv i hlt
    obtain ⟨_, _, hlp⟩ := hc.lv (i - 1) (by omega)
    have hbt := hc.beat i h0 hlt
    have hs1 : IntKind.i64.wrap ((i : Int) - 1) = ((i - 1 : Nat) : Int) := by rw [show (i : Int) - 1 = ((i - 1 : Nat) : Int) by omega, i64_nat (by omega)]
    have hip : L[i - 1] = L.getD (i - 1) 0 := by rw [List.getD_eq_getElem?_getD, List.getElem?_eq_getElem (by omega)]; rfl
    have hii : L[i] = L.getD i 0 := by rw [List.getD_eq_getElem?_getD, List.getElem?_eq_getElem (by omega)]; rfl
    have hix : ∀ {K : AV → Heap → List Nat → Prop}, ixaSWp 1 (some v) (some (.int .i64 ((i - 1 : Nat) : Int))) H K = K (.fp (.int .i64 ((L.getD (i - 1) 0 : Nat) : Int))) H [] := fun {K} => by rw [hv.ix (by omega), hip]
    have hiy : ∀ {K : AV → Heap → List Nat → Prop}, ixaSWp 1 (some v) (some (.int .i64 (i : Int))) H K = K (.fp (.int .i64 ((L.getD i 0 : Nat) : Int))) H [] := fun {K} => by rw [hv.ix hlt, hii]
    clear hip hii
    generalize L.getD i 0 = li at *
    generalize L.getD (i - 1) 0 = lp at *
    generalize hi1 : i - 1 = i1 at *
    have g1 := loadG (s := 1) h2 (show lp < 7 by omega) (show li < 7 by omega)
    rw [hbt] at g1
    rw [wp_round c7_l2.eq_1]
    simp [go_sem, hv.len, hlt, hs1, hix, hiy, hli, show lp < 7 by omega, show li < 7 by omega, g1, show ¬ n ≤ li by omega, show ¬ ((n : Int) ≤ (li : Int)) by omega]
    refine hin _ ?_ li 0 (by omega)
    simp [go_sem, i64_suc (show i < 1000000 by omega)]
    exact next
end
set_option maxRecDepth 4000 in
theorem law7 {p bits a b : Nat} (hp : p < 256) (hbits : bits < 4294967296) (ha : a < 256) (hb : b < 256) :
    WpCall E false 0 0 7 [.agg [.int .u8 (p : Nat), .int .u32 (bits : Nat)], .int .u8 (a : Nat), .int .u8 (b : Nat)] [] (fun v _ => v = .bool true) := by
  rw [call7]
  have e0 : aload [Blk.row 0 [AV.int .u8 (p : Nat), .int .u32 (bits : Nat)] 0 true] ⟨true, 2⟩ (.ptr 0 0 0) = some (.agg [.int .u8 (p : Nat), .int .u32 (bits : Nat)]) := rfl
  simp [go_sem, WpFun, c7, e0]
  refine k44 (most := 7) (n := 1 + p % 7) hp hbits (by omega) (by omega) (Nat.zero_le _) rfl fun q l f hq hm => ?_
  generalize 1 + p % 7 = n at *
  have hn := hm.le
  have hn1 := hm.pos
  have hl : l.length < 1000 := by
    rw [hm.len]
    have : ∀ n, n ≤ 7 → halfN n < 1000 := by decide
    exact this n hn
  have d1 : aload [Blk.row 0 [AV.int .u8 (p : Nat), .int .u32 (bits : Nat)] 0 true, Blk.row 0 [.int .i64 (n : Nat), q] 0 true, Blk.row 0 (gcells f) 0 true] ⟨false, 1⟩ (.ptr 1 0 0) = some (.int .i64 (n : Nat)) := rfl
  have d2 : aload [Blk.row 0 [AV.int .u8 (p : Nat), .int .u32 (bits : Nat)] 0 true, Blk.row 0 [.int .i64 (n : Nat), q] 0 true, Blk.row 0 (gcells f) 0 true] ⟨true, 2⟩ (.ptr 1 0 0) = some (.agg [.int .i64 (n : Nat), q]) := rfl
  have hma : (a : Int).tmod (n : Int) = (a : Int) % (n : Int) := Go.IntWalk.rem_in _ _ (by omega)
  have hmb : (b : Int).tmod (n : Int) = (b : Int) % (n : Int) := Go.IntWalk.rem_in _ _ (by omega)
  have hx : a % n < n := Nat.mod_lt _ (by omega)
  have hy : b % n < n := Nat.mod_lt _ (by omega)
  have ex : (a : Int) % (n : Int) = ((a % n : Nat) : Int) := by simp
  have ey : (b : Int) % (n : Int) = ((b % n : Nat) : Int) := by simp
  rw [ex] at hma
  rw [ey] at hmb
  generalize a % n = x at *
  generalize b % n = y at *
  simp [go_sem, storeWp, astore, setCells, hq.cells, hq.top, hq.isTup, gcells_length, gcells_over, d1, d2, i64_nat (show a < 9223372036854775808 by omega), i64_nat (show b < 9223372036854775808 by omega), abin_rem (show (n : Int) ≠ 0 by omega), hma, hmb]
  obtain ⟨H3, hH3⟩ : ∃ H3, H3 = [Blk.row 0 [AV.int .u8 (p : Nat), .int .u32 (bits : Nat)] 0 true, Blk.row 0 [.int .i64 (n : Nat), q] 0 true, Blk.row 0 (gcells f) 0 true] := ⟨_, rfl⟩
  have g2 : H3[2]? = some (Blk.row 0 (gcells f) 0 true) := by rw [hH3]; rfl
  rw [← hH3] at d1 d2 ⊢
  refine l7a g2 hn hx hy (Nat.zero_le _) (fun s hs hor => ?_) (n + 1) 0 (by omega) fun j hj => by omega
  simp [go_sem, d2]
  refine k25 hq hl hm hx hy (Nat.zero_le _) (fun hr => ?_) fun L v d hv hc hlen hlv => ?_
  · have hs1 : s = n + 1 := by
      rcases hor with ⟨h1, h2⟩ | h1
      · rw [reachR_le h2 h1] at hr; cases hr
      · exact h1
    subst hs1
    simp [go_sem, call16, show n < n + 1 by omega, show (n : Int) < (n : Int) + 1 by omega]
  · have hsd : s ≤ n ∧ s = d := by
      rcases hor with ⟨h1, h2⟩ | h1
      · exact ⟨h1, isLv.uniq ⟨h2, hs⟩ hlv⟩
      · exfalso
        have hd := (reach_all hx hm.board.1 hm.board.2 (j := y)).2 (reachR_sound hm.board.2 hlv.1)
        rw [hs n (by omega)] at hd; cases hd
    obtain ⟨h1, rfl⟩ := hsd
    have hL0 : ∀ {K : AV → Heap → List Nat → Prop}, ixaSWp 1 (some v) (some (.int .i64 0)) H3 K = K (.fp (.int .i64 (x : Nat))) H3 [] := fun {K} => by
      have := hv.ix (H := H3) (i := 0) (by omega) (K := K) (k := .i64)
      have e : L[0] = x := by rw [← hc.first, List.getD_eq_getElem?_getD, List.getElem?_eq_getElem (by omega)]; rfl
      rw [e] at this
      exact this
    have hLs : ∀ {K : AV → Heap → List Nat → Prop}, ixaSWp 1 (some v) (some (.int .i64 (s : Int))) H3 K = K (.fp (.int .i64 (y : Nat))) H3 [] := fun {K} => by
      have := hv.ix (H := H3) (i := s) (by omega) (K := K) (k := .i64)
      have e : L[s] = y := by
        have h3 := (hc.lv s (by omega)).2.1.1
        rw [Nat.sub_self] at h3
        simp only [reachR, decide_eq_true_eq] at h3
        rw [h3, List.getD_eq_getElem?_getD, List.getElem?_eq_getElem (by omega)]; rfl
      rw [e] at this
      exact this
    have hs1 := i64_suc (show s < 1000000 by omega)
    have hlc : (L.length : Int) = (s : Int) + 1 := by omega
    simp [go_sem, show ¬ n < s by omega, hv.len, hL0, hs1, hlc]
    refine l7c g2 hn hy hv hc (by omega) (Nat.zero_le _) ?_ s 1 (by omega) (by omega)
    simp [go_sem, hLs, call16]
theorem chains_true {p bits a b : Nat} (hp : p < 256) (hbits : bits < 4294967296) (ha : a < 256) (hb : b < 256) : ∃ f H', acall E f 7 [.agg [.int .u8 (p : Nat), .int .u32 (bits : Nat)], .int .u8 (a : Nat), .int .u8 (b : Nat)] [] = some (.bool true, H') := by
  obtain ⟨f, v, H', h, rfl⟩ := law7 hp hbits ha hb
  exact ⟨f, H', h⟩
end Go.Proofs.Ytnlebofipoepfaa.Code
end
