/-
  Parts of the proofs about this chapter, joined: contracts of functions and plain laws.
-/
import Derived.Test.YtnlebofipoepfaaK2
set_option linter.all false
section
namespace Go.Proofs.Ytnlebofipoepfaa.Code
open Go Go.Ab
variable {base bar : Nat} {H : Heap}

def Fill (F f : Nat → Nat) (P : List Nat) : Prop := ∀ x ∈ P, f x = F x
theorem Fill.put {F f : Nat → Nat} {P : List Nat} {x i : Nat} (h : Fill F f P) (hx : F x = i) : Fill F (upd f x i) (P ++ [x]) := fun y hy => by
  unfold upd
  split
  · rename_i he; subst he; exact hx.symm
  · rename_i hne
    rcases List.mem_append.1 hy with hy | hy
    · exact h y hy
    · simp only [List.mem_singleton] at hy; exact absurd hy hne

section
variable {n i4 id i len : Nat} {gv u : AV} {gl P : List Nat} {F : Nat → Nat} {cs : List AV}
theorem l8a (hid : H[id]? = some (.row 0 cs 0 true)) (hbar : bar ≤ id) (hn : n ≤ 7) (hu : isL u gl) (hgl : gl.length ≤ 8) (hs : gl.Pairwise (· < ·)) (hlt : ∀ x ∈ gl, x < n) (hF : ∀ x ∈ gl, F x = i) (hP : P.length ≤ 1000) {R : PQ} :
    ∀ (k j : Nat) (f : Nat → Nat), j + k = gl.length → Fill F f (P ++ gl.take j) →
    (∀ f', Fill F f' (P ++ gl) → R (.exit 2) [(4, .ptr i4 0 0), (5, .int .i64 (n : Nat)), (8, .ptr id 0 0), (9, .int .i64 ((P.length + gl.length : Nat) : Int)), (30, gv), (31, .int .i64 (len : Nat)), (32, .int .i64 (i : Nat)), (10, .int .i64 (i : Nat)), (11, u), (37, u), (38, .int .i64 (gl.length : Nat)), (39, .int .i64 (gl.length : Nat)), (40, .bool false)] (H.set id (.row 0 (fcells 7 f') 0 true))) →
    Wp E base bar (.loop c8_l0) [(4, .ptr i4 0 0), (5, .int .i64 (n : Nat)), (8, .ptr id 0 0), (9, .int .i64 ((P.length + j : Nat) : Int)), (30, gv), (31, .int .i64 (len : Nat)), (32, .int .i64 (i : Nat)), (10, .int .i64 (i : Nat)), (11, u), (37, u), (38, .int .i64 (gl.length : Nat)), (39, .int .i64 (j : Nat))] (H.set id (.row 0 (fcells 7 f) 0 true)) R := by
  intro k
  induction k with
  | zero =>
    intro j f hj hf h
    obtain rfl : j = gl.length := by omega
    rw [List.take_length] at hf
    have := h f hf
    rw [wp_round c8_l0.eq_1]
    simp [go_sem] at this ⊢
    exact this
  | succ k ih =>
    intro j f hj hf h
    have hjl : j < gl.length := by omega
    have hx := hlt _ (List.getElem_mem hjl)
    have hFx := hF _ (List.getElem_mem hjl)
    have hf2 := hf.put hFx
    rw [List.append_assoc, ← List.take_succ_eq_append_getElem hjl] at hf2
    have next := ih (j + 1) _ (by omega) hf2 h
    have g2 : ∀ f, (H.set id (.row 0 (fcells 7 f) 0 true))[id]? = some (.row 0 (fcells 7 f) 0 true) := fun f => set_get hid
    have e1 : IntKind.i64.wrap (((P.length : Nat) : Int) + (j : Int) + 1) = (P.length : Int) + ((j : Int) + 1) := by
      have := i64_suc (i := P.length + j) (by omega)
      rw [Int.natCast_add] at this
      rw [this]; omega
    have hxu : ∀ {K : AV → Heap → List Nat → Prop}, ixaSWp 1 (some u) (some (.int .i64 (j : Int))) (H.set id (.row 0 (fcells 7 f) 0 true)) K = K (.fp (.int .i64 ((gl[j] : Nat) : Int))) (H.set id (.row 0 (fcells 7 f) 0 true)) [] := hu.ix hjl
    rw [wp_round c8_l0.eq_1]
    by_cases hj0 : j = 0
    · subst hj0
      have hx0 : ∀ {K : AV → Heap → List Nat → Prop}, ixaSWp 1 (some u) (some (.int .i64 0)) (H.set id (.row 0 (fcells 7 f) 0 true)) K = K (.fp (.int .i64 ((gl[0] : Nat) : Int))) (H.set id (.row 0 (fcells 7 f) 0 true)) [] := hxu
      generalize gl[0] = x at *
      simp [go_sem, hjl, hx0, show ¬ (n ≤ x) by omega, hx, show x < 7 by omega, show ¬ ((x : Int) < 0) by omega]
      rw [storeF (g2 _) (by omega) (by omega) hbar]
      simp [go_sem, i64_suc (show P.length < 1000000 by omega), show IntKind.i64.wrap 1 = 1 from by decide]
      simpa using next
    · have hj1 : j - 1 < gl.length := by omega
      have hlt2 : gl[j - 1] < gl[j] := List.pairwise_iff_getElem.1 hs _ _ hj1 hjl (by omega)
      have hxp : ∀ {K : AV → Heap → List Nat → Prop}, ixaSWp 1 (some u) (some (.int .i64 ((j - 1 : Nat) : Int))) (H.set id (.row 0 (fcells 7 f) 0 true)) K = K (.fp (.int .i64 ((gl[j - 1] : Nat) : Int))) (H.set id (.row 0 (fcells 7 f) 0 true)) [] := hu.ix hj1
      have e2 : IntKind.i64.wrap ((j : Int) - 1) = ((j - 1 : Nat) : Int) := by
        rw [show (j : Int) - 1 = ((j - 1 : Nat) : Int) by omega, i64_nat (by omega)]
      generalize gl[j - 1] = y at *
      generalize gl[j] = x at *
      generalize hjj : j - 1 = j' at *
      simp [go_sem, hjl, hxu, hxp, e2, show ¬ (n ≤ x) by omega, hx, show x < 7 by omega, show ¬ ((x : Int) < 0) by omega, show 0 < j by omega, show ¬ (x ≤ y) by omega]
      rw [storeF (g2 _) (by omega) (by omega) hbar]
      simp [go_sem, e1, i64_suc (show j < 1000000 by omega)]
      simpa using next
end
theorem flat_len : ∀ (G : List (List Nat)), (∀ l ∈ G, l.length ≤ 8) → (G.flatMap fun l => l).length ≤ G.length * 8
  | [], _ => by simp
  | a :: r, h => by
    have h1 := flat_len r fun l hl => h l (List.mem_cons_of_mem _ hl)
    have h2 := h a (List.mem_cons_self ..)
    rw [List.flatMap_cons, List.length_append, List.length_cons, Nat.succ_mul]; omega
/-- those of the first groups -/
def doneL (G : List (List Nat)) (i : Nat) : List Nat := (G.take i).flatMap fun l => l
theorem doneL_step {G : List (List Nat)} {i : Nat} (h : i < G.length) : doneL G (i + 1) = doneL G i ++ G[i] := by
  unfold doneL
  rw [List.take_succ_eq_append_getElem h, List.flatMap_append]; simp
theorem l8b {n i4 id : Nat} {gv : AV} {F : Nat → Nat} {cs : List AV} {G : List (List Nat)} (hid : H[id]? = some (.row 0 cs 0 true)) (hbar : bar ≤ id) (hn : n ≤ 7) (hg : isLL gv G) (hG : G.length ≤ 8) (hl : ∀ l ∈ G, l.length ≤ 8) (hs : ∀ l ∈ G, l.Pairwise (· < ·) ∧ l ≠ [] ∧ ∀ x ∈ l, x < n) (hF : ∀ i (hi : i < G.length), ∀ x ∈ G[i], F x = i) {R : PQ} :
    ∀ (k i : Nat) (f : Nat → Nat), i + k = G.length → Fill F f (doneL G i) →
    (∀ f', Fill F f' (doneL G G.length) → R (.exit 0) [(4, .ptr i4 0 0), (5, .int .i64 (n : Nat)), (8, .ptr id 0 0), (9, .int .i64 ((doneL G G.length).length : Nat)), (30, gv), (31, .int .i64 (G.length : Nat)), (32, .int .i64 (G.length : Nat)), (33, .bool false)] (H.set id (.row 0 (fcells 7 f') 0 true))) →
    Wp E base bar (.loop c8_l1) [(4, .ptr i4 0 0), (5, .int .i64 (n : Nat)), (8, .ptr id 0 0), (9, .int .i64 ((doneL G i).length : Nat)), (30, gv), (31, .int .i64 (G.length : Nat)), (32, .int .i64 (i : Nat))] (H.set id (.row 0 (fcells 7 f) 0 true)) R := by
  intro k
  induction k with
  | zero =>
    intro i f hi hf h
    obtain rfl : i = G.length := by omega
    have := h f hf
    rw [wp_round c8_l1.eq_1]
    simp [go_sem]
    exact this
  | succ k ih =>
    intro i f hi hf h
    have hil : i < G.length := by omega
    have hmem := List.getElem_mem hil
    obtain ⟨s1, s2, s3⟩ := hs _ hmem
    have hst := doneL_step hil
    have hPl : (doneL G i).length ≤ 1000 := by
      have h1 : (doneL G i).length ≤ (G.take i).length * 8 := flat_len (G.take i) fun x hx => hl x (List.mem_of_mem_take hx)
      have h2 : (G.take i).length ≤ 8 := by rw [List.length_take]; omega
      have := Nat.mul_le_mul_right 8 h2
      omega
    obtain ⟨u, hu, hux⟩ := isLL_ix hg hil
    rw [wp_round c8_l1.eq_1]
    simp [go_sem, hil, hux, aload_fpL hu, hu.len]
    refine l8a (P := doneL G i) (F := F) (gl := G[i]) hid hbar hn hu (hl _ hmem) s1 s3 (hF i hil) hPl G[i].length 0 f (by omega) (by simpa using hf) fun f' hf' => ?_
    rw [← hst] at hf'
    have next := ih (i + 1) f' (by omega) hf' h
    rw [hst, List.length_append] at next
    simp [go_sem, hu.len, s2, i64_suc (show i < 1000000 by omega)] at next ⊢
    exact next
end Go.Proofs.Ytnlebofipoepfaa.Code
end

section
namespace Go.Proofs.Ytnlebofipoepfaa.Code
open Go Go.Ab
variable {base bar : Nat} {H : Heap}

section
variable {n i4 id m : Nat} {f : Nat → Nat → Bool} {F gr : Nat → Nat}
set_option maxRecDepth 4000 in
theorem l8c (h4 : H[i4]? = some (.row 0 (gcells f) 0 true)) (hid : H[id]? = some (.row 0 (fcells 7 gr) 0 true)) (hn : n ≤ 7) (hgr : ∀ x, x < n → gr x = F x)
    (hA : ∀ a b, a < n → b < n → a ≠ b → F a < F b → f a b = true) (hB : ∀ a b, a < n → b < n → F a = F b → reachR f n a n b = true) (hb : bar ≤ H.length) {a : Nat} (ha : a < n) {R : PQ} :
    ∀ (k b : Nat), b + k = n →
    R (.exit 6) [(4, .ptr i4 0 0), (5, .int .i64 (n : Nat)), (8, .ptr id 0 0), (9, .int .i64 (m : Nat)), (74, .int .i64 (n : Nat)), (75, .int .i64 (a : Nat)), (14, .int .i64 (a : Nat)), (78, .int .i64 (n : Nat)), (79, .int .i64 (n : Nat)), (80, .bool false)] H →
    Wp E base bar (.loop c8_l2) [(4, .ptr i4 0 0), (5, .int .i64 (n : Nat)), (8, .ptr id 0 0), (9, .int .i64 (m : Nat)), (74, .int .i64 (n : Nat)), (75, .int .i64 (a : Nat)), (14, .int .i64 (a : Nat)), (78, .int .i64 (n : Nat)), (79, .int .i64 (b : Nat))] H R := by
  intro k
  induction k with
  | zero =>
    intro b hb h
    obtain rfl : b = n := by omega
    rw [wp_round c8_l2.eq_1]
    simp [go_sem]
    exact h
  | succ k ih =>
    intro b hbk h
    have hlt : b < n := by omega
    have next := ih (b + 1) (by omega) h
    have ha7 : a < 7 := by omega
    have hb7 : b < 7 := by omega
    have g1 := loadF (s := 1) hid ha7
    have g2 := loadF (s := 1) hid hb7
    have g3 := loadG (s := 1) h4 ha7 hb7
    rw [hgr a ha] at g1
    rw [hgr b hlt] at g2
    have hz := i64_suc (show b < 1000000 by omega)
    rw [wp_round c8_l2.eq_1]
    by_cases hab : a = b
    · simp [go_sem, hlt, natEq, hab, hz]
      subst hab
      exact next
    · by_cases h1 : F a < F b
      · rw [hA a b ha hlt hab h1] at g3
        simp [go_sem, hlt, natEq, hab, ha7, hb7, g1, g2, g3, h1, show ¬ F a = F b by omega, hz]
        exact next
      · by_cases h2 : F a = F b
        · have hrr := hB a b ha hlt h2
          have hm : Ab.part ⟨false, 1⟩ (mcells (reachR f n a n)) b = some (.bool true) := by rw [part_one, mcells_get hb7, hrr]
          simp [go_sem, hlt, natEq, hab, ha7, hb7, g1, g2, h2, loadGG h4]
          refine k45 hn ha7 (by omega) hb ?_
          simp [go_sem, hb7]
          rw [mcells_get hb7, hrr]
          simp [go_sem, hz]
          exact next
        · simp [go_sem, hlt, natEq, hab, ha7, hb7, g1, g2, h1, h2, hz]
          exact next
theorem l8d (h4 : H[i4]? = some (.row 0 (gcells f) 0 true)) (hid : H[id]? = some (.row 0 (fcells 7 gr) 0 true)) (hn : n ≤ 7) (hgr : ∀ x, x < n → gr x = F x)
    (hA : ∀ a b, a < n → b < n → a ≠ b → F a < F b → f a b = true) (hB : ∀ a b, a < n → b < n → F a = F b → reachR f n a n b = true) (hb : bar ≤ H.length) {R : PQ} :
    ∀ (k a : Nat), a + k = n →
    R (.exit 4) [(4, .ptr i4 0 0), (5, .int .i64 (n : Nat)), (8, .ptr id 0 0), (9, .int .i64 (m : Nat)), (74, .int .i64 (n : Nat)), (75, .int .i64 (n : Nat)), (76, .bool false)] H →
    Wp E base bar (.loop c8_l3) [(4, .ptr i4 0 0), (5, .int .i64 (n : Nat)), (8, .ptr id 0 0), (9, .int .i64 (m : Nat)), (74, .int .i64 (n : Nat)), (75, .int .i64 (a : Nat))] H R := by
  intro k
  induction k with
  | zero =>
    intro a ha h
    obtain rfl : a = n := by omega
    rw [wp_round c8_l3.eq_1]
    simp [go_sem]
    exact h
  | succ k ih =>
    intro a ha h
    have hlt : a < n := by omega
    rw [wp_round c8_l3.eq_1]
    simp [go_sem, hlt]
    refine l8c h4 hid hn hgr hA hB hb hlt n 0 (by omega) ?_
    simp [go_sem, i64_suc (show a < 1000000 by omega)]
    exact ih (a + 1) (by omega) h
end

/-! the groups of a contest -/
def idxG (G : List (List Nat)) (x : Nat) : Nat := G.findIdx fun l => l.contains x
structure Parts (n : Nat) (w : Nat → Nat) (G : List (List Nat)) : Prop where
  len : G.length ≤ n
  each : ∀ l ∈ G, l.Pairwise (· < ·) ∧ l ≠ [] ∧ (∀ x ∈ l, x < n) ∧ l.length ≤ n
  idx : ∀ i (hi : i < G.length), ∀ x ∈ G[i], idxG G x = i
  has : ∀ x, x < n → ∃ h : idxG G x < G.length, x ∈ G[idxG G x]
  order : ∀ a b, a < n → b < n → idxG G a < idxG G b → (w a).testBit b = true
  inside : ∀ a b, a < n → b < n → idxG G a = idxG G b → Rch w a b
  sum : (doneL G G.length).length = n
theorem flat_ge : ∀ (G : List (List Nat)), (∀ l ∈ G, l ≠ []) → G.length ≤ (G.flatMap fun l => l).length
  | [], _ => by simp
  | a :: r, h => by
    have h1 := flat_ge r fun l hl => h l (List.mem_cons_of_mem _ hl)
    have h2 := List.length_pos_iff.2 (h a (List.mem_cons_self ..))
    rw [List.flatMap_cons, List.length_append, List.length_cons]; omega
theorem parts_of {n : Nat} {w g : Nat → Nat} (hbd : BoardW n w) (hg : ReachW w g) : Parts n w (groupsT g 8 (pw n - 1)) := by
  have h1 : 1 ≤ pw n := Nat.one_le_two_pow
  have hn := hbd.le
  have hok := groups_ok hbd hg 8 (pw n - 1) (bits_len _) (by omega)
  generalize groupsT g 8 (pw n - 1) = G at hok
  have hall : ∀ x, (pw n - 1).testBit x = true ↔ x < n := fun x => by rw [testBit_all, decide_eq_true_eq]
  have hbits : (bitsOf (pw n - 1)).length = n := by
    have e : bitsOf (pw n - 1) = List.range n := by
      unfold bitsOf
      obtain ⟨d, hd⟩ : ∃ d, 8 = n + d := ⟨8 - n, by omega⟩
      rw [hd, filter_range_cut d fun c hc1 hc2 => by rw [testBit_all]; simp; omega]
      rw [List.filter_eq_self.2 fun x hx => (hall x).2 (List.mem_range.1 hx)]
    rw [e, List.length_range]
  have hdone : doneL G G.length = G.flatMap fun l => l := by unfold doneL; rw [List.take_length]
  have hord := List.pairwise_iff_getElem.1 hok.order
  have hidx : ∀ i (hi : i < G.length), ∀ x ∈ G[i], idxG G x = i := fun i hi x hx => by
    unfold idxG
    rw [List.findIdx_eq hi]
    refine ⟨by simpa using hx, fun j hj => ?_⟩
    cases hc : G[j].contains x
    · rfl
    · have := hord j i (by omega) hi hj x (by simpa using hc) x hx
      rw [hbd.irr] at this; cases this
  have hhas : ∀ x, x < n → ∃ h : idxG G x < G.length, x ∈ G[idxG G x] := fun x hx => by
    obtain ⟨l, hl, hxl⟩ := hok.all x ((hall x).2 hx)
    obtain ⟨i, hi, rfl⟩ := List.getElem_of_mem hl
    have := hidx i hi x hxl
    refine ⟨by rw [this]; exact hi, ?_⟩
    simp only [this]; exact hxl
  refine ⟨?_, fun l hl => ?_, hidx, hhas, fun a b ha hb hlt => ?_, fun a b ha hb he => ?_, by rw [hdone, hok.sum, hbits]⟩
  · have := flat_ge G fun l hl => (hok.each l hl).2.1
    rw [hok.sum, hbits] at this
    exact this
  · obtain ⟨e1, e2, e3⟩ := hok.each l hl
    refine ⟨e1, e2, fun x hx => (hall x).1 (e3 x hx), ?_⟩
    have := sub_len (l := l) (m := List.range n) (e1.imp fun h => Nat.ne_of_lt h) fun x hx => List.mem_range.2 ((hall x).1 (e3 x hx))
    simpa using this
  · obtain ⟨h1, h2⟩ := hhas a ha
    obtain ⟨h3, h4⟩ := hhas b hb
    exact hord _ _ h1 h3 hlt a h2 b h4
  · obtain ⟨h1, h2⟩ := hhas a ha
    obtain ⟨h3, h4⟩ := hhas b hb
    simp only [← he] at h4
    exact hok.inside _ (List.getElem_mem h1) a h2 b h4

set_option maxRecDepth 4000 in
theorem law8 {p bits : Nat} (hp : p < 256) (hbits : bits < 4294967296) :
    WpCall E false 0 0 8 [.agg [.int .u8 (p : Nat), .int .u32 (bits : Nat)]] [] (fun v _ => v = .bool true) := by
  rw [call8]
  have e0 : aload [Blk.row 0 [AV.int .u8 (p : Nat), .int .u32 (bits : Nat)] 0 true] ⟨true, 2⟩ (.ptr 0 0 0) = some (.agg [.int .u8 (p : Nat), .int .u32 (bits : Nat)]) := rfl
  simp [go_sem, WpFun, c8, e0]
  refine k44 (most := 7) (n := 1 + p % 7) hp hbits (by omega) (by omega) (Nat.zero_le _) rfl fun q l f hq hm => ?_
  generalize 1 + p % 7 = n at *
  have hn := hm.le
  have hn1 := hm.pos
  obtain ⟨hbd, hbit⟩ := hm.board
  obtain ⟨g, hg⟩ := reach_w hbd
  have hpa := parts_of hbd hg
  have hl : l.length < 1000 := by
    rw [hm.len]
    have : ∀ n, n ≤ 7 → halfN n < 1000 := by decide
    exact this n hn
  have d1 : aload [Blk.row 0 [AV.int .u8 (p : Nat), .int .u32 (bits : Nat)] 0 true, Blk.row 0 [.int .i64 (n : Nat), q] 0 true, Blk.row 0 (gcells f) 0 true] ⟨false, 1⟩ (.ptr 1 0 0) = some (.int .i64 (n : Nat)) := rfl
  have d2 : aload [Blk.row 0 [AV.int .u8 (p : Nat), .int .u32 (bits : Nat)] 0 true, Blk.row 0 [.int .i64 (n : Nat), q] 0 true, Blk.row 0 (gcells f) 0 true] ⟨true, 2⟩ (.ptr 1 0 0) = some (.agg [.int .i64 (n : Nat), q]) := rfl
  simp [go_sem, storeWp, astore, setCells, hq.cells, hq.top, hq.isTup, gcells_length, gcells_over, d1, d2]
  refine k33 hq hl hm hg (Nat.zero_le _) fun gv hgv => ?_
  generalize groupsT g 8 (pw n - 1) = G at *
  have hGl := hpa.len
  have z7 : [AV.int .i64 0, .int .i64 0, .int .i64 0, .int .i64 0, .int .i64 0, .int .i64 0, .int .i64 0] = fcells 7 (fun _ => 0) := rfl
  simp [go_sem, hgv.len]
  rw [z7]
  obtain ⟨H3, hH3⟩ : ∃ H3, H3 = [Blk.row 0 [AV.int .u8 (p : Nat), .int .u32 (bits : Nat)] 0 true, Blk.row 0 [.int .i64 (n : Nat), q] 0 true, Blk.row 0 (gcells f) 0 true, .row 0 (fcells 7 fun _ => 0) 0 true] := ⟨_, rfl⟩
  have g2 : H3[2]? = some (Blk.row 0 (gcells f) 0 true) := by rw [hH3]; rfl
  have g3 : H3[3]? = some (Blk.row 0 (fcells 7 fun _ => 0) 0 true) := by rw [hH3]; rfl
  have e3 : H3 = H3.set 3 (.row 0 (fcells 7 fun _ => 0) 0 true) := by rw [hH3]; rfl
  rw [← hH3, e3]
  refine l8b (F := idxG G) g3 (Nat.zero_le _) hn hgv (by omega) (fun l' hl' => by have := (hpa.each l' hl').2.2.2; omega) (fun l' hl' => ⟨(hpa.each l' hl').1, (hpa.each l' hl').2.1, (hpa.each l' hl').2.2.1⟩) hpa.idx G.length 0 (fun _ => 0) (by omega) (fun x hx => by simp [doneL] at hx) fun f' hf' => ?_
  have hfi : ∀ x, x < n → f' x = idxG G x := fun x hx => hf' x (by
    obtain ⟨h1, h2⟩ := hpa.has x hx
    unfold doneL
    rw [List.take_length]
    exact List.mem_flatMap.2 ⟨_, List.getElem_mem h1, h2⟩)
  have hs := hpa.sum
  simp [go_sem]
  refine l8d (F := idxG G) (by rw [List.getElem?_set_ne (by omega)]; exact g2) (set_get g3) hn hfi (fun a b ha hb _ hlt => by rw [← hbit]; exact hpa.order a b ha hb hlt) (fun a b ha hb he => (reach_all ha hbd hbit).2 (hpa.inside a b ha hb he)) (Nat.zero_le _) n 0 (by omega) ?_
  rw [hs]
  simp [go_sem, call16]
theorem divided_true {p bits : Nat} (hp : p < 256) (hbits : bits < 4294967296) : ∃ f H', acall E f 8 [.agg [.int .u8 (p : Nat), .int .u32 (bits : Nat)]] [] = some (.bool true, H') := by
  obtain ⟨f, v, H', h, rfl⟩ := law8 hp hbits
  exact ⟨f, H', h⟩
end Go.Proofs.Ytnlebofipoepfaa.Code
end
