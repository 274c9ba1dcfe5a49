/-
  Part of the proofs about this chapter: contracts of functions, answers of calls, and plain laws.
-/
import Derived.Test.YtbkhffakhggdaaaDoorTSp
import Derived.KernelRfl
set_option linter.all false
section
namespace Go.Proofs.YtbkhffakhggdaaaDoor.Code
open Go Go.Ab
variable {pure : Bool} {base bar : Nat} {H : Heap} {Q : AV → Heap → Prop} {K : AV → Heap → List Nat → Prop}

/-! 116, 106, 77: the dyes of a set, by the lowest bit -/
def dyN (s : Nat) : List Nat := (List.range 6).filter fun i => s.testBit i
def tzS (s : Nat) : Nat := (dyN s).headD 0
def t64l : List AV := [(.int .u8 0), (.int .u8 1), (.int .u8 56), (.int .u8 2), (.int .u8 57), (.int .u8 49), (.int .u8 28), (.int .u8 3), (.int .u8 61), (.int .u8 58), (.int .u8 42), (.int .u8 50), (.int .u8 38), (.int .u8 29), (.int .u8 17), (.int .u8 4), (.int .u8 62), (.int .u8 47), (.int .u8 59), (.int .u8 36), (.int .u8 45), (.int .u8 43), (.int .u8 51), (.int .u8 22), (.int .u8 53), (.int .u8 39), (.int .u8 33), (.int .u8 30), (.int .u8 24), (.int .u8 18), (.int .u8 12), (.int .u8 5), (.int .u8 63), (.int .u8 55), (.int .u8 48), (.int .u8 27), (.int .u8 60), (.int .u8 41), (.int .u8 37), (.int .u8 16), (.int .u8 46), (.int .u8 35), (.int .u8 44), (.int .u8 21), (.int .u8 52), (.int .u8 32), (.int .u8 23), (.int .u8 11), (.int .u8 54), (.int .u8 26), (.int .u8 40), (.int .u8 15), (.int .u8 34), (.int .u8 20), (.int .u8 31), (.int .u8 10), (.int .u8 25), (.int .u8 14), (.int .u8 19), (.int .u8 9), (.int .u8 13), (.int .u8 8), (.int .u8 7), (.int .u8 6)]
def t64 : AV := .agg t64l
def q116 (s : Nat) : Option AV := (aun .neg (.int .u64 (s : Int))).bind fun a => (abin .and (.int .u64 (s : Int)) a).bind fun b => (abin .mul b (.int .u64 285870213051353865)).bind fun c => abin .shr c (.int .u64 58)
def w116 (z : Nat) : Nat := (2 ^ z * 285870213051353865 % 18446744073709551616) / 288230376151711744
def kk116 (s : Nat) : Bool := okJ .u64 (q116 s) (w116 (tzS s)) && Nat.blt (tzS s) 6 && Nat.blt (w116 (tzS s)) 64
theorem kk116_all : (List.range' 1 63).all kk116 = true := by kernel_rfl
theorem t64_get {z : Nat} (hz : z < 6) : t64l[w116 z]? = some (.int .u8 (z : Int)) := by
  have : z = 0 ∨ z = 1 ∨ z = 2 ∨ z = 3 ∨ z = 4 ∨ z = 5 := by omega
  rcases this with rfl | rfl | rfl | rfl | rfl | rfl <;> rfl
theorem c116_eq : c116 = (AFun.mk 14 [(.tmp 2)] 0 false (.seq (.reg [o 2 (.mv (.c (.int .i64 0)))] [0]) (.seq (.seq (.reg [o 3 (.mv (.t 0)), o 4 (.eq false .int (.t 3) (.c (.int .u64 0)))] [0, 4]) (.cond (.t 4) (.seq (.reg [o 2 (.mv (.c (.int .i64 64)))] [2]) .ret) .skip)) (.seq (.reg [o 5 (.mv (.t 0)), o 6 (.mv (.t 0)), o 7 (.un .neg (.t 6)), o 8 (.bin .and (.t 5) (.t 7)), o 9 (.bin .mul (.t 8) (.c (.int .u64 285870213051353865))), o 10 (.bin .shr (.t 9) (.c (.int .u64 58))), o 11 (.ixaA 64 (TI.mk false 1) (.c (.fp t64)) (.t 10)), o 12 (.load (TI.mk false 1) (.t 11)), o 13 (.conv .i64 (.t 12)), o 2 (.mv (.t 13))] [2]) .ret)))) := rfl
theorem ixa_t64 {k : IntKind} {i : Int} : ixaAWp 64 ⟨false, 1⟩ (some (.fp t64)) (some (.int k i)) H K = (0 ≤ i ∧ i.toNat < 64 ∧ valWp ((t64l[i.toNat * 1]?).map .fp) H K) := (rfl)
theorem ixa_get {k : IntKind} {w : Nat} {v : AV} (hw : w < 64) (hz : t64l[w]? = some v) : ixaAWp 64 ⟨false, 1⟩ (some (.fp t64)) (some (.int k (w : Int))) H K = K (.fp v) H [] := by
  rw [ixa_t64]
  have e : (t64l[(w : Int).toNat * 1]?).map AV.fp = some (.fp v) := by
    rw [Int.toNat_natCast, Nat.mul_one, hz]; rfl
  rw [e, valWp_some]
  have h1 : (0 : Int) ≤ (w : Int) := Int.natCast_nonneg _
  have h2 : (w : Int).toNat < 64 := by rw [Int.toNat_natCast]; exact hw
  exact propext ⟨fun h => h.2.2, fun h => ⟨h1, h2, h⟩⟩
theorem k116 {s : Nat} (h1 : 1 ≤ s) (h6 : s < 64) (h : Q (.int .i64 (tzS s : Nat)) H) : WpCall E pure base bar 116 [.int .u64 (s : Int)] H Q := by
  have hk : kk116 s = true := List.all_eq_true.1 kk116_all s (List.mem_range'_1.2 ⟨h1, by omega⟩)
  simp only [kk116, Bool.and_eq_true, Nat.blt_eq] at hk
  obtain ⟨⟨hq, htz⟩, hw64⟩ := hk
  have hq := okJ_u hq
  have hz := t64_get htz
  generalize w116 (tzS s) = w at *
  generalize tzS s = z at *
  simp only [q116, Option.bind_eq_some_iff] at hq
  obtain ⟨a, e1, b, e2, c, e3, e4⟩ := hq
  have hs0 : ¬ (s = 0) := by omega
  have ea : a = .int .u64 (IntKind.u64.wrap (-(s : Int))) := by
    rw [aun_neg] at e1
    simp at e1
    exact e1.symm
  subst ea
  rw [call116, c116_eq]
  simp [go_sem, WpFun, hs0, e2, e3, e4]
  rw [ixa_get hw64 hz]
  have ld : aload H ⟨false, 1⟩ (.fp (.int .u8 (z : Int))) = some (.int .u8 (z : Int)) := rfl
  simp [go_sem, ld]
  rw [i64_nat (by omega)]
  exact h
theorem k106 {s : Nat} (h1 : 1 ≤ s) (h6 : s < 64) (h : Q (.int .i64 (tzS s : Nat)) H) : WpCall E pure base bar 106 [.int .u64 (s : Int)] H Q := by
  rw [call106]
  simp [go_sem, WpFun, c106]
  refine k116 h1 h6 ?_
  simp [go_sem]
  exact h
end Go.Proofs.YtbkhffakhggdaaaDoor.Code
end

section
namespace Go.Proofs.YtbkhffakhggdaaaDoor.Code
open Go Go.Ab
variable {pure : Bool} {base bar : Nat} {H : Heap} {Q : AV → Heap → Prop} {K : AV → Heap → List Nat → Prop}

theorem dyN_step {s : Nat} (h1 : 1 ≤ s) (h6 : s < 64) : dyN s = tzS s :: dyN (Nat.land s (s - 1)) ∧ Nat.land s (s - 1) < s ∧ tzS s < 6 := by
  have : ∀ s, s < 64 → 1 ≤ s → dyN s = tzS s :: dyN (Nat.land s (s - 1)) ∧ Nat.land s (s - 1) < s ∧ tzS s < 6 := by decide +kernel
  exact this s h6 h1
theorem andl_a : ((List.range 64).all fun x => (List.range 64).all fun z => okJ .u64 (abin .and (.int .u64 (x : Int)) (.int .u64 (z : Int))) (Nat.land x z)) = true := by kernel_rfl
theorem andl_u {x z : Nat} (hx : x < 64) (hz : z < 64) : abin .and (.int .u64 (x : Int)) (.int .u64 (z : Int)) = some (.int .u64 ((Nat.land x z : Nat) : Int)) :=
  okJ_u (List.all_eq_true.1 (List.all_eq_true.1 andl_a x (List.mem_range.2 hx)) z (List.mem_range.2 hz))
theorem dyN_len {s : Nat} : (dyN s).length ≤ 6 := Nat.le_trans (List.length_filter_le _ _) (by simp)
theorem l77 {H0 : Heap} (hb : bar ≤ H0.length) (hbase : base ≤ H0.length) {R : PQ} : ∀ (f s : Nat) (acc : List Nat) (v : AV) (H : Heap), s < 64 → s ≤ f → acc.length + (dyN s).length ≤ 6 → Grow 1 (nats acc) H0 v H →
    (∀ v' H', Grow 1 (nats (acc ++ dyN s)) H0 v' H' → R (.exit 0) [(0, .int .u64 0), (3, v'), (5, .bool false)] H') →
    Wp E base bar (.loop c77_l0) [(0, .int .u64 (s : Int)), (3, v)] H R := by
  intro f
  induction f with
  | zero =>
    intro s acc v H hs hf hl g h
    obtain rfl : s = 0 := by omega
    rw [wp_round c77_l0.eq_1]
    simp [go_sem]
    exact h _ _ (by rw [show dyN 0 = [] from by decide, List.append_nil]; exact g)
  | succ f ih =>
    intro s acc v H hs hf hl g h
    by_cases h0 : s = 0
    · subst h0
      rw [wp_round c77_l0.eq_1]
      simp [go_sem]
      exact h _ _ (by rw [show dyN 0 = [] from by decide, List.append_nil]; exact g)
    · obtain ⟨e, hlt, htz⟩ := dyN_step (s := s) (by omega) hs
      have hw : IntKind.u64.wrap ((s : Int) - 1) = ((s - 1 : Nat) : Int) := by rw [show (s : Int) - 1 = ((s - 1 : Nat) : Int) by omega, u64n (by omega)]
      have ha := andl_u (x := s) (z := s - 1) hs (by omega)
      rw [e] at h hl
      rw [wp_round c77_l0.eq_1]
      simp [go_sem, h0]
      refine k106 (by omega) hs ?_
      simp [go_sem, aop, fillA, setCells, chunks, AV.noVec.noVecs, AV.noVec]
      rw [wpop_app]
      simp [Opd.ev, go_sem]
      refine g.nat hb hbase (by simp at hl; omega) fun v' H' tc g' => ?_
      have next := ih (Nat.land s (s - 1)) (acc ++ [tzS s]) v' H' (by omega) (by omega) (by simp at hl ⊢; omega) g' (by rw [List.append_assoc]; exact h)
      simp [go_sem, hw, ha]
      exact next
/-- the dyes of a set, as a list that is handed out -/
theorem k77 {s : Nat} (hs : s < 64) (hbar : bar ≤ H.length) (hbase : base ≤ H.length) (h : ∀ v H', Grow 1 (nats (dyN s)) H v H' → Q v H') : WpCall E false base bar 77 [.int .u64 (s : Int)] H Q := by
  rw [call77]
  simp [go_sem, WpFun, c77]
  refine l77 (H0 := H) hbar hbase s s [] .nils H hs (Nat.le_refl _) (by have := dyN_len (s := s); simpa using this) (by exact Grow.nil) fun v' H' g => ?_
  simp [go_sem]
  exact h v' H' (by simpa using g)
end Go.Proofs.YtbkhffakhggdaaaDoor.Code
end

section
namespace Go.Proofs.YtbkhffakhggdaaaDoor.Code
open Go Go.Ab
variable {pure : Bool} {base bar : Nat} {H : Heap} {Q : AV → Heap → Prop} {K : AV → Heap → List Nat → Prop}

/-! 39: how many orders pass a tray, by a table -/
/-- how many ways lead to a set past the shelf -/
def pS (S : List Nat) : Nat → Nat → Nat
  | 0 => fun u => if u = 0 then 1 else 0
  | t + 1 => upd (pS S t) t (if S.contains t then 0 else if t = 0 then 1 else ((dyN t).map fun x => pS S t (cl6 t (pw x))).sum)
/-- how many ways lead to each set -/
def aS : Nat → Nat → Nat
  | 0 => fun u => if u = 0 then 1 else 0
  | t + 1 => upd (aS t) t (if t = 0 then 1 else ((dyN t).map fun x => aS t (cl6 t (pw x))).sum)
theorem ix_vec' {id ver len i : Nat} {k : IntKind} {K : AV → Heap → List Nat → Prop} (hi : i < len) : ixaSWp 1 (some (.vec id ver 0 len 1)) (some (.int k (i : Int))) H K = K (.ptr id ver i) H [] := by
  simp [go_sem, hi]
theorem gix {l : List Nat} {H0 : Heap} {v : AV} {i : Nat} (g : Grow 1 (nats l) H0 v H) (hi : i < l.length) : ∃ p, (∀ (k : IntKind) (K : AV → Heap → List Nat → Prop), ixaSWp 1 (some v) (some (.int k (i : Int))) H K = K p H []) ∧ aload H ⟨false, 1⟩ p = some (.int .i64 ((l[i] : Nat) : Int)) := by
  rcases g with ⟨h1, _, _⟩ | ⟨ver, fz, _, _, rfl, rfl⟩
  · have : l = [] := by cases l with | nil => rfl | cons a b => simp [nats] at h1
    subst this; simp at hi
  · refine ⟨.ptr H0.length ver i, fun k K => ?_, ?_⟩
    · rw [nats_length, Nat.div_one]; exact ix_vec' hi
    · rw [aload_ptr (own_get0 (l := [.row ver (nats l) fz false]) |>.trans rfl)]
      simp [Ab.part, nats_get hi]
/-- the blocks of the tables -/
structure DPst (k n P : Nat) (q : AV) (A B : Nat → Nat) (H0 : Heap) : Prop where
  box : H0[k]? = some (.row 0 [.int .i64 (n : Int), q] 0 true)
  ra : H0[k + 1]? = some (.row 0 (fcells P A) 0 true)
  rb : H0[k + 2]? = some (.row 0 (fcells P B) 0 true)
def sumF (f : Nat → Nat) (t : Nat) (l : List Nat) : Nat := (l.map fun x => f (cl6 t (pw x))).sum
theorem dyN_mem {t x : Nat} (ht : t < 64) (hx : x ∈ dyN t) : x < 6 ∧ cl6 t (pw x) < t := by
  have : ∀ t, t < 64 → ∀ x ∈ dyN t, x < 6 ∧ cl6 t (pw x) < t := by decide +kernel
  exact this t ht x hx
theorem sumF_upd {f : Nat → Nat} {t a : Nat} (ht : t < 64) : ∀ {l : List Nat}, (∀ x ∈ l, x ∈ dyN t) → sumF (upd f t a) t l = sumF f t l
  | [], _ => rfl
  | x :: r, h => by
    have h1 := (dyN_mem ht (h x (List.mem_cons_self ..))).2
    have := sumF_upd (f := f) (a := a) ht (l := r) fun y hy => h y (List.mem_cons_of_mem _ hy)
    simp only [sumF, List.map_cons, List.sum_cons] at this ⊢
    rw [this]
    congr 1
    simp only [upd]
    rw [if_neg (by omega)]
theorem upd_upd {f : Nat → Nat} {t a b : Nat} : upd (upd f t a) t b = upd f t b := by
  funext u
  simp only [upd]
  split <;> rfl
theorem l39_0 {k n P t : Nat} {q w vl : AV} {l : List Nat} (ht : t < P) (hP : P ≤ 64) (hl : ∀ x ∈ l, x ∈ dyN t) (hl6 : l.length ≤ 6) (hb : bar ≤ k) {R : PQ} : ∀ (c j : Nat) (A B : Nat → Nat) (H0 H : Heap), j + c = l.length → DPst k n P q A B H0 → Grow 1 (nats l) H0 vl H →
    (∀ u, u ≠ t → A u ≤ 720) → A t ≤ 720 * j + 1 → (∀ u, u ≠ t → B u ≤ 720) → B t ≤ 720 * j + 1 →
    (∀ H0' H', DPst k n P q (upd A t (A t + sumF A t (l.drop j))) (upd B t (B t + sumF B t (l.drop j))) H0' → H0'.take k = H0.take k → H0'.length = H0.length → Grow 1 (nats l) H0' vl H' →
      R (.exit 2) [(1, .ptr k 0 0), (4, w), (6, .vec (k + 1) 0 0 P 1), (7, .vec (k + 2) 0 0 P 1), (34, .int .u64 (P : Int)), (35, .int .u64 (t : Int)), (8, .int .u64 (t : Int)), (39, vl), (40, .int .i64 (l.length : Nat)), (41, .int .i64 (l.length : Nat)), (42, .bool false)] H') →
    Wp E base bar (.loop c39_l0) [(1, .ptr k 0 0), (4, w), (6, .vec (k + 1) 0 0 P 1), (7, .vec (k + 2) 0 0 P 1), (34, .int .u64 (P : Int)), (35, .int .u64 (t : Int)), (8, .int .u64 (t : Int)), (39, vl), (40, .int .i64 (l.length : Nat)), (41, .int .i64 (j : Nat))] H R := by
  intro c
  induction c with
  | zero =>
    intro j A B H0 H hj st g hA hAt hB hBt h
    obtain rfl : j = l.length := by omega
    rw [List.drop_length] at h
    have e : ∀ f : Nat → Nat, upd f t (f t + sumF f t []) = f := fun f => by
      funext u; simp only [upd, sumF, List.map_nil, List.sum_nil, Nat.add_zero]; split
      · rename_i hu; rw [hu]
      · rfl
    rw [e, e] at h
    rw [wp_round c39_l0.eq_1]
    simp [go_sem]
    exact h H0 H st rfl rfl g
  | succ c ih =>
    intro j A B H0 H hj st g hA hAt hB hBt h
    have hlt : j < l.length := by omega
    rw [List.drop_eq_getElem_cons hlt] at h
    obtain ⟨p, hix, hld⟩ := gix g hlt
    have hxm := hl _ (List.getElem_mem hlt)
    have hdr : ∀ y ∈ l.drop (j + 1), y ∈ dyN t := fun y hy => hl y (List.mem_of_mem_drop hy)
    generalize l[j] = x at *
    obtain ⟨hx6, hlt2⟩ := dyN_mem (show t < 64 by omega) hxm
    have hcl := cl6_u (x := t) (z := pw x) (by omega) (pw64 hx6)
    have hcne : cl6 t (pw x) ≠ t := by omega
    generalize hce : cl6 t (pw x) = u at *
    have hu : u < P := by omega
    have a1 := hA u hcne
    have b1 := hB u hcne
    have hgA := g.get st.ra
    have hgB := g.get st.rb
    have lA := fun i hi => loadF (s := 1) (i := i) hgA hi
    have lB := fun i hi => loadF (s := 1) (i := i) hgB hi
    have wA : IntKind.i64.wrap ((A t : Int) + (A u : Int)) = ((A t + A u : Nat) : Int) := by rw [show (A t : Int) + (A u : Int) = ((A t + A u : Nat) : Int) by omega, i64_nat (by omega)]
    have wB : IntKind.i64.wrap ((B t : Int) + (B u : Int)) = ((B t + B u : Nat) : Int) := by rw [show (B t : Int) + (B u : Int) = ((B t + B u : Nat) : Int) by omega, i64_nat (by omega)]
    have sA := fun (K : AV → Heap → List Nat → Prop) => storeF (base := base) (bar := bar) (i := t) (x := A t + A u) (K := K) hgA ht (by omega) (by omega)
    have g1 := g.set (i := k + 1) (b := .row 0 (fcells P (upd A t (A t + A u))) 0 true) (List.getElem?_eq_some_iff.1 st.ra).1
    have hgB1 := g1.get (i := k + 2) (b := .row 0 (fcells P B) 0 true) (by rw [List.getElem?_set_ne (by omega)]; exact st.rb)
    have lB1 := fun i hi => loadF (s := 1) (i := i) hgB1 hi
    have sB := fun (K : AV → Heap → List Nat → Prop) => storeF (base := base) (bar := bar) (i := t) (x := B t + B u) (K := K) hgB1 ht (by omega) (by omega)
    have g2 := g1.set (i := k + 2) (b := .row 0 (fcells P (upd B t (B t + B u))) 0 true) (by rw [List.length_set]; exact (List.getElem?_eq_some_iff.1 st.rb).1)
    have st2 : DPst k n P q (upd A t (A t + A u)) (upd B t (B t + B u)) ((H0.set (k + 1) (.row 0 (fcells P (upd A t (A t + A u))) 0 true)).set (k + 2) (.row 0 (fcells P (upd B t (B t + B u))) 0 true)) := by
      have la := (List.getElem?_eq_some_iff.1 st.ra).1
      have lb := (List.getElem?_eq_some_iff.1 st.rb).1
      refine ⟨?_, ?_, ?_⟩
      · rw [List.getElem?_set_ne (by omega), List.getElem?_set_ne (by omega)]; exact st.box
      · rw [List.getElem?_set_ne (by omega), List.getElem?_set_self la]
      · rw [List.getElem?_set_self (by rw [List.length_set]; exact lb)]
    have next := ih (j + 1) _ _ _ _ (by omega) st2 g2 (fun v hv => by simp only [upd]; rw [if_neg hv]; exact hA v hv) (by simp only [upd, if_true]; omega) (fun v hv => by simp only [upd]; rw [if_neg hv]; exact hB v hv) (by simp only [upd, if_true]; omega) (fun H0' H' s1 s2 s3 s4 => by
      refine h H0' H' ?_ ?_ ?_ s4
      · rw [upd_upd, upd_upd, sumF_upd (by omega) hdr, sumF_upd (by omega) hdr] at s1
        simp only [upd, if_true] at s1
        have e1 : A t + A u + sumF A t (l.drop (j + 1)) = A t + sumF A t (x :: l.drop (j + 1)) := by simp only [sumF, List.map_cons, List.sum_cons, hce]; omega
        have e2 : B t + B u + sumF B t (l.drop (j + 1)) = B t + sumF B t (x :: l.drop (j + 1)) := by simp only [sumF, List.map_cons, List.sum_cons, hce]; omega
        rw [e1, e2] at s1
        exact s1
      · rw [s2]
        apply take_same
        intro i hi
        rw [List.getElem?_set_ne (by omega), List.getElem?_set_ne (by omega)]
      · rw [s3]; simp)
    generalize hsa : A t + A u = sa at *
    generalize hsb : B t + B u = sb at *
    have hg1l : (H.set (k + 1) (.row 0 (fcells P (upd A t sa)) 0 true)).length = H.length := by simp
    rw [wp_round c39_l0.eq_1]
    simp [go_sem, hlt, hix, hld, ht, hu, lA, lB, lB1, shl_u64 hx6, hcl, wA, wB, sA, sB, i64_suc (show j < 1000000 by omega)]
    exact next
end Go.Proofs.YtbkhffakhggdaaaDoor.Code
end

section
namespace Go.Proofs.YtbkhffakhggdaaaDoor.Code
open Go Go.Ab
variable {pure : Bool} {base bar : Nat} {H : Heap} {Q : AV → Heap → Prop} {K : AV → Heap → List Nat → Prop}

theorem dyN_fac {t : Nat} (h1 : 1 ≤ t) (ht : t < 64) : sumF (fun u => fac (pc u)) t (dyN t) = fac (pc t) := by
  have : ∀ t, t < 64 → 1 ≤ t → sumF (fun u => fac (pc u)) t (dyN t) = fac (pc t) := by decide +kernel
  exact this t ht h1
theorem sumF_congr {f g : Nat → Nat} {t : Nat} : ∀ {l : List Nat}, (∀ x ∈ l, f (cl6 t (pw x)) = g (cl6 t (pw x))) → sumF f t l = sumF g t l
  | [], _ => rfl
  | x :: r, h => by
    simp only [sumF, List.map_cons, List.sum_cons]
    have := sumF_congr (f := f) (g := g) (l := r) fun y hy => h y (List.mem_cons_of_mem _ hy)
    simp only [sumF] at this
    rw [h x (List.mem_cons_self ..), this]
theorem sumF_le {f g : Nat → Nat} {t : Nat} : ∀ {l : List Nat}, (∀ x ∈ l, f (cl6 t (pw x)) ≤ g (cl6 t (pw x))) → sumF f t l ≤ sumF g t l
  | [], _ => Nat.le_refl _
  | x :: r, h => by
    simp only [sumF, List.map_cons, List.sum_cons]
    have := sumF_le (f := f) (g := g) (l := r) fun y hy => h y (List.mem_cons_of_mem _ hy)
    simp only [sumF] at this
    have := h x (List.mem_cons_self ..)
    omega
theorem aS_eq : ∀ {T u : Nat}, T ≤ 64 → aS T u = if u < T then fac (pc u) else if u = 0 then 1 else 0
  | 0, u, _ => by simp [aS]
  | T + 1, u, hT => by
    simp only [aS, upd]
    by_cases hu : u = T
    · subst hu
      by_cases h0 : u = 0
      · subst h0; rfl
      · have e1 : (if u < u + 1 then fac (pc u) else if u = 0 then 1 else 0) = fac (pc u) := if_pos (by omega)
        rw [if_pos rfl, if_neg h0, e1, ← dyN_fac (t := u) (by omega) (by omega)]
        show sumF (aS u) u (dyN u) = _
        refine sumF_congr fun x hx => ?_
        have := (dyN_mem (show u < 64 by omega) hx).2
        rw [aS_eq (by omega), if_pos this]
    · rw [if_neg hu, aS_eq (by omega)]
      by_cases h : u < T
      · rw [if_pos h, if_pos (show u < T + 1 by omega)]
      · rw [if_neg h, if_neg (show ¬ u < T + 1 by omega)]
theorem fac_le {m : Nat} (h : m ≤ 6) : fac m ≤ 720 := by
  have : ∀ m, m ≤ 6 → fac m ≤ 720 := by decide
  exact this m h
theorem aS_le {T u : Nat} (hT : T ≤ 64) : aS T u ≤ 720 := by
  rw [aS_eq hT]
  split
  · exact fac_le pc_le
  · split <;> omega
theorem pS_le {S : List Nat} : ∀ {T u : Nat}, pS S T u ≤ aS T u
  | 0, u => Nat.le_refl _
  | T + 1, u => by
    simp only [pS, aS, upd]
    split
    · split
      · exact Nat.zero_le _
      · split
        · exact Nat.le_refl _
        · exact sumF_le fun x _ => pS_le
    · exact pS_le
theorem pS_ge {S : List Nat} : ∀ {T u : Nat}, T ≤ u → pS S T u = if u = 0 then 1 else 0
  | 0, u, _ => rfl
  | T + 1, u, h => by
    simp only [pS, upd]
    rw [if_neg (by omega), pS_ge (by omega)]
theorem grow_take {cells : List AV} {H0 : Heap} {v : AV} {k : Nat} (g : Grow 1 cells H0 v H) (hk : k ≤ H0.length) : H.take k = H0.take k := by
  rcases g with ⟨_, _, rfl⟩ | ⟨_, _, _, _, _, rfl⟩
  · rfl
  · rw [List.take_append_of_le_length hk]
theorem DPst.grow {k n P : Nat} {q v : AV} {A B : Nat → Nat} {cells : List AV} {H0 : Heap} (s : DPst k n P q A B H0) (g : Grow 1 cells H0 v H) : DPst k n P q A B H := ⟨g.get s.box, g.get s.ra, g.get s.rb⟩
theorem glenw {l : List Nat} {H0 : Heap} {v : AV} (g : Grow 1 (nats l) H0 v H) : lenWp (some v) H K = K (.int .i64 (l.length : Int)) H [] := by
  rcases g with ⟨h, rfl, rfl⟩ | ⟨ver, fz, _, _, rfl, rfl⟩
  · have : l = [] := by cases l with | nil => rfl | cons a b => simp [nats] at h
    subst this; rfl
  · simp [lenWp, nats_length]
theorem l39_1 {k n P : Nat} {q w : AV} {S : List Nat} (hP : P ≤ 64) (hw : isU w S) (hSl : S.length < 1000000) (hb : bar ≤ k) (hbase : base ≤ k) {R : PQ} : ∀ (c t : Nat) (H : Heap), t + c = P → DPst k n P q (aS t) (pS S t) H →
    (∀ H', DPst k n P q (aS P) (pS S P) H' → H'.take k = H.take k → R (.exit 0) [(1, .ptr k 0 0), (4, w), (6, .vec (k + 1) 0 0 P 1), (7, .vec (k + 2) 0 0 P 1), (34, .int .u64 (P : Int)), (35, .int .u64 (P : Int)), (36, .bool false)] H') →
    Wp E base bar (.loop c39_l1) [(1, .ptr k 0 0), (4, w), (6, .vec (k + 1) 0 0 P 1), (7, .vec (k + 2) 0 0 P 1), (34, .int .u64 (P : Int)), (35, .int .u64 (t : Int))] H R := by
  intro c
  induction c with
  | zero =>
    intro t H ht st h
    obtain rfl : t = P := by omega
    rw [wp_round c39_l1.eq_1]
    simp [go_sem]
    exact h H st rfl
  | succ c ih =>
    intro t H ht st h
    have hlt : t < P := by omega
    have hkl : k + 2 < H.length := (List.getElem?_eq_some_iff.1 st.rb).1
    have hws : IntKind.u64.wrap ((t : Int) + 1) = ((t + 1 : Nat) : Int) := by rw [show (t : Int) + 1 = ((t + 1 : Nat) : Int) by omega, u64n (by omega)]
    rw [wp_round c39_l1.eq_1]
    simp [go_sem, hlt]
    refine k77 (by omega) (by omega) (by omega) fun v H1 g => ?_
    simp [go_sem, glenw g]
    have hAt : aS t t ≤ 1 := by rw [aS_eq (by omega), if_neg (by omega)]; split <;> omega
    have hBt : pS S t t ≤ 1 := Nat.le_trans pS_le hAt
    refine l39_0 (k := k) (n := n) (q := q) hlt hP (fun x hx => hx) dyN_len hb (dyN t).length 0 (aS t) (pS S t) H H1 (by omega) st g (fun u _ => aS_le (by omega)) (by omega) (fun u _ => Nat.le_trans pS_le (aS_le (by omega))) (by omega) fun H0' H' st' hk' hl' g' => ?_
    rw [List.drop_zero] at st'
    have eA : upd (aS t) t (aS t t + sumF (aS t) t (dyN t)) = aS (t + 1) := by
      simp only [aS]
      congr 1
      by_cases h0 : t = 0
      · subst h0; rfl
      · rw [if_neg h0, aS_eq (by omega), if_neg (by omega), if_neg h0, Nat.zero_add]; rfl
    rw [eA] at st'
    have st2 := st'.grow g'
    have hk2 : H'.take k = H.take k := by rw [grow_take g' (by omega), hk']
    have hlen2 : k + 2 < H'.length := (List.getElem?_eq_some_iff.1 st2.rb).1
    simp [go_sem]
    refine k93 hw hSl ?_
    cases hc : S.contains t
    · have eB : upd (pS S t) t (pS S t t + sumF (pS S t) t (dyN t)) = pS S (t + 1) := by
        simp only [pS, hc]
        congr 1
        by_cases h0 : t = 0
        · subst h0; rfl
        · rw [if_neg h0, pS_ge (Nat.le_refl _), if_neg h0, Nat.zero_add]; rfl
      rw [eB] at st2
      have next := ih (t + 1) H' (by omega) st2 (fun H2 s2 h2 => h H2 s2 (by rw [h2, hk2]))
      simp [go_sem, hws]
      exact next
    · have eB : upd (upd (pS S t) t (pS S t t + sumF (pS S t) t (dyN t))) t 0 = pS S (t + 1) := by
        simp only [pS, hc, if_true]
        rw [upd_upd]
      have sB := fun (K : AV → Heap → List Nat → Prop) => storeF (base := base) (bar := bar) (i := t) (x := 0) (K := K) st2.rb hlt (by omega) (by omega)
      rw [eB] at sB
      have sB0 : ∀ K : AV → Heap → List Nat → Prop, storeWp base bar 1 (.ptr (k + 2) 0 t) (.int .i64 0) H' K = K (.tup []) (H'.set (k + 2) (.row 0 (fcells P (pS S (t + 1))) 0 true)) [k + 2] := fun K => sB K
      have st3 : DPst k n P q (aS (t + 1)) (pS S (t + 1)) (H'.set (k + 2) (.row 0 (fcells P (pS S (t + 1))) 0 true)) := by
        refine ⟨?_, ?_, ?_⟩
        · rw [List.getElem?_set_ne (by omega)]; exact st2.box
        · rw [List.getElem?_set_ne (by omega)]; exact st2.ra
        · rw [List.getElem?_set_self hlen2]
      have next := ih (t + 1) _ (by omega) st3 (fun H2 s2 h2 => h H2 s2 (by
        rw [h2, ← hk2]
        apply take_same
        intro i hi
        rw [List.getElem?_set_ne (by omega)]))
      simp [go_sem, hlt, sB0, hws]
      exact next
theorem pw_le {n : Nat} (h : n ≤ 6) : pw n ≤ 64 := Nat.le_trans (Nat.pow_le_pow_right (by decide) h) (by decide : 2 ^ 6 ≤ 64)
theorem k39 {n : Nat} {q : AV} {ls : List (List Int)} (h1 : 1 ≤ n) (hn : n ≤ 6) (hq : isVV q ls) (hl : ls.length < 1000) (hll : ∀ l ∈ ls, l.length < 1000) (hbar : bar ≤ H.length)
    (he : (opS n [] ls).1 ≠ 0 → Q (.tup [.int .i64 0, .int .i64 (opS n [] ls).1]) H)
    (h0 : (opS n [] ls).1 = 0 → Q (.tup [.int .i64 ((fac n - pS (opS n [] ls).2 (pw n) (pw n - 1) : Nat) : Int), .int .i64 0]) H) : WpCall E pure base bar 39 [.agg [.int .i64 (n : Int), q]] H Q := by
  have hsh := shl_i64 (n := n) (by omega)
  have hshu : abin .shl (.int .u64 1) (.int .i64 (n : Int)) = some (.int .u64 ((pw n : Nat) : Int)) := by
    have : n = 1 ∨ n = 2 ∨ n = 3 ∨ n = 4 ∨ n = 5 ∨ n = 6 := by omega
    rcases this with rfl | rfl | rfl | rfl | rfl | rfl <;> rfl
  have hP := pw_le hn
  have hPp : 0 < pw n := pw_pos
  have hlen := opS_len (n := n) (ls := ls) (done := [])
  have hbp : (if pure = true then H.length else bar) ≤ H.length := by cases pure <;> simp <;> omega
  rw [call39]
  simp [go_sem, WpFun, c39, hq.frz, box2]
  refine k68 h1 hn hq hl hll (by cases pure <;> simp <;> omega) (fun e => ?_) (fun e => ?_)
  · have := he e
    simp [go_sem, e]
    exact this
  · have hu : isU (outL 1 (us (opS n [] ls).2)) (opS n [] ls).2 := isU.out
    generalize outL 1 (us (opS n [] ls).2) = w at *
    generalize hS : (opS n [] ls).2 = S at *
    have h0 := h0 e
    have hp8 : pw n * 8 ≤ 140737488355328 := by omega
    have h1w : pw n - 1 < pw n := by omega
    simp [go_sem]
    rw [wp_twin]
    simp [go_sem, wptwin_cons, wptwin_nil, aop, twWp, box0, hsh, AV.asNat, AV.top, AV.vlen, own_get0, own_set0, hp8, hPp]
    generalize (if pure = true then H.length else bar) = bar' at *
    have ez : List.replicate (pw n) (AV.int .i64 0) = fcells (pw n) (fun _ => 0) := fcells_zero.symm
    rw [ez]
    have u0 : upd (fun _ => 0) 0 1 = aS 0 := rfl
    have u1 : upd (fun _ => 0) 0 1 = pS S 0 := rfl
    have s1 : ∀ K : AV → Heap → List Nat → Prop, storeWp H.length bar' 1 (.ptr (H.length + 1) 0 0) (.int .i64 1) (H ++ [.row 0 [.int .i64 (n : Int), q] 0 true, .row 0 (fcells (pw n) fun _ => 0) 0 true, .row 0 (fcells (pw n) fun _ => 0) 0 true]) K =
        K (.tup []) (H ++ [.row 0 [.int .i64 (n : Int), q] 0 true, .row 0 (fcells (pw n) (aS 0)) 0 true, .row 0 (fcells (pw n) fun _ => 0) 0 true]) [H.length + 1] := fun K => by
      have := storeF (base := H.length) (bar := bar') (i := 0) (x := 1) (K := K) (H := H ++ [.row 0 [.int .i64 (n : Int), q] 0 true, .row 0 (fcells (pw n) fun _ => 0) 0 true, .row 0 (fcells (pw n) fun _ => 0) 0 true]) (own_get (k := 1) |>.trans rfl) hPp (by omega) (by omega)
      rw [own_set, u0] at this
      exact this
    have s2 : ∀ K : AV → Heap → List Nat → Prop, storeWp H.length bar' 1 (.ptr (H.length + 2) 0 0) (.int .i64 1) (H ++ [.row 0 [.int .i64 (n : Int), q] 0 true, .row 0 (fcells (pw n) (aS 0)) 0 true, .row 0 (fcells (pw n) fun _ => 0) 0 true]) K =
        K (.tup []) (H ++ [.row 0 [.int .i64 (n : Int), q] 0 true, .row 0 (fcells (pw n) (aS 0)) 0 true, .row 0 (fcells (pw n) (pS S 0)) 0 true]) [H.length + 2] := fun K => by
      have := storeF (base := H.length) (bar := bar') (i := 0) (x := 1) (K := K) (H := H ++ [.row 0 [.int .i64 (n : Int), q] 0 true, .row 0 (fcells (pw n) (aS 0)) 0 true, .row 0 (fcells (pw n) fun _ => 0) 0 true]) (own_get (k := 2) |>.trans rfl) hPp (by omega) (by omega)
      rw [own_set, u1] at this
      exact this
    have st : DPst H.length n (pw n) q (aS 0) (pS S 0) (H ++ [.row 0 [.int .i64 (n : Int), q] 0 true, .row 0 (fcells (pw n) (aS 0)) 0 true, .row 0 (fcells (pw n) (pS S 0)) 0 true]) :=
      ⟨own_get0 |>.trans rfl, own_get (k := 1) |>.trans rfl, own_get (k := 2) |>.trans rfl⟩
    have ld0 : aload (H ++ [.row 0 [.int .i64 (n : Int), q] 0 true, .row 0 (fcells (pw n) (aS 0)) 0 true, .row 0 (fcells (pw n) (pS S 0)) 0 true]) ⟨false, 1⟩ (.ptr H.length 0 0) = some (.int .i64 (n : Int)) := by rw [aload_ptr st.box]; rfl
    have htk : (H ++ [Blk.row 0 [.int .i64 (n : Int), q] 0 true, .row 0 (fcells (pw n) (aS 0)) 0 true, .row 0 (fcells (pw n) (pS S 0)) 0 true]).take H.length = H := by simp
    rw [s1]
    simp [go_sem, hPp]
    rw [s2]
    generalize H ++ [Blk.row 0 [.int .i64 (n : Int), q] 0 true, .row 0 (fcells (pw n) (aS 0)) 0 true, .row 0 (fcells (pw n) (pS S 0)) 0 true] = H1 at *
    simp [go_sem, ld0, hshu]
    refine l39_1 (n := n) (q := q) hP hu (by simp at hlen; omega) hbp (Nat.le_refl _) (pw n) 0 H1 (by omega) st fun H2 st2 hk2 => ?_
    have ld2 : aload H2 ⟨false, 1⟩ (.ptr H.length 0 0) = some (.int .i64 (n : Int)) := by rw [aload_ptr st2.box]; rfl
    have hsub : IntKind.i64.wrap (((pw n : Nat) : Int) - 1) = ((pw n - 1 : Nat) : Int) := by rw [show ((pw n : Nat) : Int) - 1 = ((pw n - 1 : Nat) : Int) by omega, i64_nat (by omega)]
    have lA := loadF (s := 1) (i := pw n - 1) st2.ra h1w
    have lB := loadF (s := 1) (i := pw n - 1) st2.rb h1w
    have hA : aS (pw n) (pw n - 1) = fac n := by
      have : ∀ n, n ≤ 6 → fac (pc (pw n - 1)) = fac n := by decide +kernel
      rw [aS_eq hP, if_pos h1w, this n hn]
    have hBA : pS S (pw n) (pw n - 1) ≤ fac n := by rw [← hA]; exact pS_le
    have hf := fac_le hn
    rw [hA] at lA
    have hres : IntKind.i64.wrap ((fac n : Int) - (pS S (pw n) (pw n - 1) : Int)) = ((fac n - pS S (pw n) (pw n - 1) : Nat) : Int) := by
      rw [show (fac n : Int) - (pS S (pw n) (pw n - 1) : Int) = ((fac n - pS S (pw n) (pw n - 1) : Nat) : Int) by omega, i64_nat (by omega)]
    generalize pS S (pw n) (pw n - 1) = pB at *
    generalize pw n - 1 = full at *
    generalize hfb : fac n - pB = fb at *
    simp [go_sem, ld2, hsh, hsub, h1w, lA, lB, hres]
    rw [hk2, htk]
    exact h0
end Go.Proofs.YtbkhffakhggdaaaDoor.Code
end

section
namespace Go.Proofs.YtbkhffakhggdaaaDoor.Code
open Go Go.Ab

/-! orders, and the ways of the table -/
/-- the set of a list -/
def setN (l : List Nat) : Nat := l.foldl (fun s x => bor s (pw x)) 0
/-- the sets that an order passes on its way from a set on -/
def sets (s : Nat) : List Nat → List Nat
  | [] => []
  | x :: r => bor s (pw x) :: sets (bor s (pw x)) r
def pass (D : List Nat) (l : List Nat) : Bool := D.contains 0 || (sets 0 l).any D.contains
/-- all orders that go on from a list -/
def extO (n : Nat) : Nat → List Nat → List (List Nat)
  | 0, l => [l]
  | k + 1, l => (List.range n).flatMap fun x => if l.contains x then [] else extO n k (l ++ [x])
/-- all orders of a set, by the last one -/
def plist : Nat → Nat → List (List Nat)
  | 0, _ => []
  | f + 1, t => if t = 0 then [[]] else (dyN t).flatMap fun x => (plist f (cl6 t (pw x))).map (· ++ [x])
theorem perm_all : ((List.range' 1 5).all fun n => (extO n n []).isPerm (plist 64 (pw n - 1))) = true := by decide +kernel
theorem sets_append {s x : Nat} : ∀ {l : List Nat}, sets s (l ++ [x]) = sets s l ++ [bor (l.foldl (fun s x => bor s (pw x)) s) (pw x)]
  | [] => rfl
  | y :: r => by
    simp only [List.cons_append, sets, List.foldl_cons]
    rw [sets_append]
theorem setN_append {l : List Nat} {x : Nat} : setN (l ++ [x]) = bor (setN l) (pw x) := by simp [setN]
theorem pass_append {D l : List Nat} {x : Nat} : pass D (l ++ [x]) = (pass D l || D.contains (setN (l ++ [x]))) := by
  unfold pass
  rw [sets_append, setN_append, List.any_append, Bool.or_assoc]
  simp [setN]
theorem bor_cl : ((List.range 64).all fun t => (dyN t).all fun x => Nat.beq (bor (cl6 t (pw x)) (pw x)) t) = true := by decide +kernel
theorem plist_set : ∀ {f t : Nat}, t < 64 → ∀ l ∈ plist f t, setN l = t
  | 0, t, _, l, h => by simp [plist] at h
  | f + 1, t, ht, l, h => by
    simp only [plist] at h
    by_cases h0 : t = 0
    · subst h0; simp at h; subst h; rfl
    · rw [if_neg h0] at h
      obtain ⟨x, hx, h⟩ := List.mem_flatMap.1 h
      obtain ⟨m, hm, rfl⟩ := List.mem_map.1 h
      have hl := (dyN_mem ht hx).2
      rw [setN_append, plist_set (by omega) m hm]
      exact Nat.eq_of_beq_eq_true (List.all_eq_true.1 (List.all_eq_true.1 bor_cl t (List.mem_range.2 ht)) x hx)
theorem pS_stay {S : List Nat} {t : Nat} : ∀ {T : Nat}, t < T → pS S T t = pS S (t + 1) t
  | 0, h => by omega
  | T + 1, h => by
    by_cases e : t = T
    · subst e; rfl
    · simp only [pS, upd]
      rw [if_neg (by omega), pS_stay (by omega)]
      simp [pS, upd]
/-- the table counts the orders that pass none -/
theorem plist_count {S : List Nat} : ∀ {f t : Nat}, t < 64 → t < f → (plist f t).countP (fun l => !pass S l) = pS S (t + 1) t
  | 0, t, _, h => by omega
  | f + 1, t, ht, hf => by
    simp only [plist, pS, upd, if_true]
    by_cases h0 : t = 0
    · subst h0
      simp only [if_true]
      by_cases hc : S.contains 0 = true
      · rw [if_pos hc]
        simp [pass, sets, show 0 ∈ S by simpa using hc]
      · rw [if_neg hc]
        have : 0 ∉ S := by simpa using hc
        simp [pass, sets, this]
    · rw [if_neg h0, if_neg h0]
      by_cases hc : S.contains t = true
      · rw [if_pos hc]
        rw [List.countP_eq_zero]
        intro l hl
        obtain ⟨x, hx, h⟩ := List.mem_flatMap.1 hl
        obtain ⟨m, hm, rfl⟩ := List.mem_map.1 h
        have e : setN (m ++ [x]) = t := by
          rw [setN_append, plist_set (by have := (dyN_mem ht hx).2; omega) m hm]
          exact Nat.eq_of_beq_eq_true (List.all_eq_true.1 (List.all_eq_true.1 bor_cl t (List.mem_range.2 ht)) x hx)
        rw [pass_append, e, hc]
        simp
      · rw [if_neg hc]
        rw [List.countP_flatMap]
        congr 1
        apply List.map_congr_left
        intro x hx
        have hl := (dyN_mem ht hx).2
        simp only [Function.comp]
        rw [List.countP_map]
        rw [pS_stay hl, ← plist_count (S := S) (f := f) (t := cl6 t (pw x)) (by omega) (by omega)]
        apply List.countP_congr
        intro m hm
        have e : setN (m ++ [x]) = t := by
          rw [setN_append, plist_set (by omega) m hm]
          exact Nat.eq_of_beq_eq_true (List.all_eq_true.1 (List.all_eq_true.1 bor_cl t (List.mem_range.2 ht)) x hx)
        simp only [Function.comp]
        rw [pass_append, e]
        have hcf : S.contains t = false := by simpa using hc
        rw [hcf, Bool.or_false]
end Go.Proofs.YtbkhffakhggdaaaDoor.Code
end

section
namespace Go.Proofs.YtbkhffakhggdaaaDoor.Code
open Go Go.Ab
variable {pure : Bool} {base bar : Nat} {H : Heap} {Q : AV → Heap → Prop} {K : AV → Heap → List Nat → Prop}

/-! 64: one order is asked -/
def G4 (B0 : Blk) (vD : AV) (o p a : Nat) : Heap := [B0, .row 0 [vD] 0 true, .row 0 [.int .i64 (o : Int)] 0 true, .row 0 [.int .i64 (p : Int)] 0 true, .row 0 [.int .i64 (a : Int)] 0 true]
theorem G4_get {B0 : Blk} {vD : AV} {o p a : Nat} (hH : H.take 5 = G4 B0 vD o p a) : H[1]? = some (.row 0 [vD] 0 true) ∧ H[2]? = some (.row 0 [.int .i64 (o : Int)] 0 true) ∧ H[3]? = some (.row 0 [.int .i64 (p : Int)] 0 true) ∧ H[4]? = some (.row 0 [.int .i64 (a : Int)] 0 true) := by
  have e : ∀ i, i < 5 → H[i]? = (G4 B0 vD o p a)[i]? := fun i hi => by rw [← hH, List.getElem?_take, if_pos hi]
  exact ⟨e 1 (by omega), e 2 (by omega), e 3 (by omega), e 4 (by omega)⟩
theorem take5_set {b : Blk} {i : Nat} : (H.set i b).take 5 = (H.take 5).set i b := by
  apply List.ext_getElem?
  intro j
  rw [List.getElem?_take, List.getElem?_set, List.getElem?_set, List.getElem?_take]
  by_cases hj : j < 5
  · rw [if_pos hj, if_pos hj]
    by_cases hi : i = j
    · subst hi
      by_cases hl : i < H.length
      · simp [hl]; omega
      · simp [hl]; omega
    · simp [hi]
  · rw [if_neg hj, if_neg hj]
    by_cases hi : i = j
    · subst hi; simp; omega
    · simp [hi]
theorem G4_p {B0 : Blk} {vD : AV} {o p a x : Nat} (hH : H.take 5 = G4 B0 vD o p a) : (H.set 3 (.row 0 [.int .i64 (x : Int)] 0 true)).take 5 = G4 B0 vD o x a := by rw [take5_set, hH]; rfl
theorem G4_a {B0 : Blk} {vD : AV} {o p a x : Nat} (hH : H.take 5 = G4 B0 vD o p a) : (H.set 4 (.row 0 [.int .i64 (x : Int)] 0 true)).take 5 = G4 B0 vD o p x := by rw [take5_set, hH]; rfl
theorem or_i64 {a b : Nat} (ha : a < 64) (hb : b < 64) : abin .or (.int .i64 a) (.int .i64 b) = some (.int .i64 ((bor a b : Nat) : Int)) := by
  have hl : bor a b < 64 := Nat.or_lt_two_pow (n := 6) ha hb
  have e : (BitVec.ofInt 64 (a : Int) ||| BitVec.ofInt 64 (b : Int)).toNat = bor a b := by
    rw [BitVec.toNat_or, ofInt_toNat (w := 64) (by omega), ofInt_toNat (w := 64) (by omega)]; rfl
  simp only [abin, binInt, if_true]
  rw [show IntKind.i64.bits = 64 from rfl, e, i64_nat (by omega)]
def fn64 : AV := .fn 64 [] [.ptr 1 0 0, .ptr 2 0 0, .ptr 3 0 0, .ptr 4 0 0]
theorem l64 {B0 : Blk} {vD v : AV} {o p a : Nat} {D l : List Nat} (hD : isL vD D) (hDl : D.length ≤ 64) (hv : isL v l) (hl : l.length < 1000) (hl6 : ∀ x ∈ l, x < 6) (hH : H.take 5 = G4 B0 vD o p a) {R : PQ} : ∀ (k i s : Nat) (one two : Bool), i + k = l.length → s < 64 →
    (∀ s' : Nat, R (.exit 0) [(1, .ptr 1 0 0), (2, .ptr 2 0 0), (3, .ptr 3 0 0), (4, .ptr 4 0 0), (6, .int .i64 (s' : Int)), (7, .bool (one || (sets s (l.drop i)).any D.contains)), (8, .bool (two || (sets s (l.drop i)).any (fun u => u == o))), (15, v), (16, .int .i64 (l.length : Nat)), (17, .int .i64 (l.length : Nat)), (18, .bool false)] H) →
    Wp E base bar (.loop c64_l0) [(1, .ptr 1 0 0), (2, .ptr 2 0 0), (3, .ptr 3 0 0), (4, .ptr 4 0 0), (6, .int .i64 (s : Int)), (7, .bool one), (8, .bool two), (15, v), (16, .int .i64 (l.length : Nat)), (17, .int .i64 (i : Nat))] H R := by
  obtain ⟨g1, g2, g3, g4⟩ := G4_get hH
  have ld1 : aload H ⟨false, 1⟩ (.ptr 1 0 0) = some vD := by rw [aload_ptr g1]; rfl
  have ld2 : aload H ⟨false, 1⟩ (.ptr 2 0 0) = some (.int .i64 (o : Int)) := by rw [aload_ptr g2]; rfl
  intro k
  induction k with
  | zero =>
    intro i s one two hi hs h
    obtain rfl : i = l.length := by omega
    rw [List.drop_length] at h
    simp only [sets, List.any_nil, Bool.or_false] at h
    rw [wp_round c64_l0.eq_1]
    simp [go_sem]
    exact h s
  | succ k ih =>
    intro i s one two hi hs h
    have hlt : i < l.length := by omega
    rw [List.drop_eq_getElem_cons hlt] at h
    have hx := hl6 _ (List.getElem_mem hlt)
    have hix := fun (K : AV → Heap → List Nat → Prop) (k : IntKind) => hv.ix (H := H) (K := K) (k := k) hlt
    generalize l[i] = x at *
    simp only [sets, List.any_cons, ← Bool.or_assoc] at h
    have hb64 := bor64 hs (pw64 hx)
    have hsh := shl_i64 (n := x) (by omega)
    have hor := or_i64 hs (pw64 hx)
    have hw := i64_suc (show i < 1000000 by omega)
    have next := ih (i + 1) (bor s (pw x)) (one || D.contains (bor s (pw x))) (two || (bor s (pw x) == o)) (by omega) hb64 h
    generalize bor s (pw x) = s2 at *
    have hbe : (((s2 : Nat) : Int) == ((o : Nat) : Int)) = (s2 == o) := by
      by_cases h : s2 = o
      · subst h; simp
      · have h' : ¬ ((s2 : Int) = (o : Int)) := by omega
        rw [beq_eq_false_iff_ne.2 h, beq_eq_false_iff_ne.2 h']
    generalize hcd : D.contains s2 = cd at *
    generalize hso : (s2 == o) = so at *
    rw [wp_round c64_l0.eq_1]
    simp [go_sem, hlt, hix, hsh, hor]
    cases one
    · simp [go_sem, ld1]
      refine k49 hD (by omega) ?_
      rw [hcd]
      simp only [Bool.false_or] at next
      cases two
      · simp only [Bool.false_or] at next
        simp [go_sem, ld2, hw, hbe]
        exact next
      · simp only [Bool.true_or] at next
        simp [go_sem, ld2, hw]
        exact next
    · simp only [Bool.true_or] at next
      cases two
      · simp only [Bool.false_or] at next
        simp [go_sem, ld2, hw, hbe]
        exact next
      · simp only [Bool.true_or] at next
        simp [go_sem, ld2, hw]
        exact next
def b2n (b : Bool) : Nat := if b then 1 else 0
theorem k64 {B0 : Blk} {vD v : AV} {o p a : Nat} {D l : List Nat} (hD : isL vD D) (hDl : D.length ≤ 64) (hv : isL v l) (hl : l.length < 1000) (hl6 : ∀ x ∈ l, x < 6) (hp : p < 1000000) (ha : a < 1000000) (hH : H.take 5 = G4 B0 vD o p a)
    (h : ∀ H', H'.length = H.length → H'.take 5 = G4 B0 vD o (p + b2n (pass D l)) (a + b2n (pass D l || (o == 0 || (sets 0 l).any fun u => u == o))) → (∀ j, 5 ≤ j → H'[j]? = H[j]?) → Q (.tup []) H') :
    WpCall E false base 0 64 [v, .ptr 1 0 0, .ptr 2 0 0, .ptr 3 0 0, .ptr 4 0 0] H Q := by
  obtain ⟨g1, g2, g3, g4⟩ := G4_get hH
  have ld1 : aload H ⟨false, 1⟩ (.ptr 1 0 0) = some vD := by rw [aload_ptr g1]; rfl
  have ld2 : aload H ⟨false, 1⟩ (.ptr 2 0 0) = some (.int .i64 (o : Int)) := by rw [aload_ptr g2]; rfl
  have hbe : (((0 : Nat) : Int) == ((o : Nat) : Int)) = (o == 0) := by
    by_cases h : o = 0
    · subst h; rfl
    · have h' : ¬ (((0 : Nat) : Int) = (o : Int)) := by omega
      rw [beq_eq_false_iff_ne.2 h, beq_eq_false_iff_ne.2 h']
  rw [call64]
  simp [go_sem, WpFun, c64, ld1, ld2]
  refine k49 (x := 0) hD (by omega) ?_
  have hbe' : ((0 : Int) == (o : Int)) = (o == 0) := hbe
  have hbe2 : ((o : Int) == (0 : Int)) = (o == 0) := by rw [← hbe', Bool.beq_comm]
  generalize hc0 : D.contains 0 = c0 at *
  generalize hso : (o == 0) = so at *
  simp [go_sem, ld2, hv.len, hD.noVec, AV.noVec.noVecs, hbe', hbe2]
  refine l64 hD hDl hv hl hl6 hH l.length 0 0 c0 so (by omega) (by omega) fun s' => ?_
  rw [List.drop_zero]
  have hpass : pass D l = (c0 || (sets 0 l).any D.contains) := by unfold pass; rw [hc0]
  rw [hpass] at h
  generalize (c0 || (sets 0 l).any D.contains) = P1 at *
  have hP2 : (P1 || (so || (sets 0 l).any fun u => u == o)) = (P1 || (so || (sets 0 l).any fun u => u == o)) := rfl
  generalize (so || (sets 0 l).any fun u => u == o) = P2 at *
  have ldp : aload H ⟨false, 1⟩ (.ptr 3 0 0) = some (.int .i64 (p : Int)) := by rw [aload_ptr g3]; rfl
  have lda : aload H ⟨false, 1⟩ (.ptr 4 0 0) = some (.int .i64 (a : Int)) := by rw [aload_ptr g4]; rfl
  have hst3 := fun (y : Int) (K : AV → Heap → List Nat → Prop) => storeWp_ptr (base := base) (bar := 0) (size := 1) (K := K) (off := 0) (v := .int .i64 y) g3 rfl rfl (by omega) (by simp) (by omega) (.inr (by simp [AV.cells, AV.top.tops, AV.top]))
  have hst4 := fun (y : Int) (K : AV → Heap → List Nat → Prop) => storeWp_ptr (base := base) (bar := 0) (size := 1) (K := K) (off := 0) (v := .int .i64 y) g4 rfl rfl (by omega) (by simp) (by omega) (.inr (by simp [AV.cells, AV.top.tops, AV.top]))
  have wp := i64_suc hp
  have wa := i64_suc ha
  have g4' : (H.set 3 (.row 0 [.int .i64 ((p + 1 : Nat) : Int)] 0 true))[4]? = some (.row 0 [.int .i64 (a : Int)] 0 true) := by rw [List.getElem?_set_ne (by omega)]; exact g4
  have lda' : aload (H.set 3 (.row 0 [.int .i64 ((p + 1 : Nat) : Int)] 0 true)) ⟨false, 1⟩ (.ptr 4 0 0) = some (.int .i64 (a : Int)) := by rw [aload_ptr g4']; rfl
  have hst4' := fun (y : Int) (K : AV → Heap → List Nat → Prop) => storeWp_ptr (base := base) (bar := 0) (size := 1) (K := K) (off := 0) (v := .int .i64 y) g4' rfl rfl (by omega) (by simp) (by omega) (.inr (by simp [AV.cells, AV.top.tops, AV.top]))
  have e1 := G4_a (x := a + 1) hH
  have e2 := G4_a (x := a + 1) (G4_p (x := p + 1) hH)
  generalize hp1 : p + 1 = p1 at *
  generalize ha1 : a + 1 = a1 at *
  cases P1
  · cases P2
    · have := h H rfl (by simpa [b2n] using hH) (fun _ _ => rfl)
      simp [go_sem]
      exact this
    · have := h (H.set 4 (.row 0 [.int .i64 (a1 : Int)] 0 true)) (by simp) (by rw [e1]; simp [b2n, ha1]) (fun j hj => by rw [List.getElem?_set_ne (by omega)])
      simp [go_sem, lda, wa, hst4, AV.cells, setCells]
      exact this
  · have := h ((H.set 3 (.row 0 [.int .i64 (p1 : Int)] 0 true)).set 4 (.row 0 [.int .i64 (a1 : Int)] 0 true)) (by simp) (by rw [e2]; simp [b2n, ha1, hp1]) (fun j hj => by rw [List.getElem?_set_ne (by omega), List.getElem?_set_ne (by omega)])
    simp [go_sem, ldp, wp, hst3, lda', wa, hst4', AV.cells, setCells]
    exact this
end Go.Proofs.YtbkhffakhggdaaaDoor.Code
end

section
namespace Go.Proofs.YtbkhffakhggdaaaDoor.Code
open Go Go.Ab
variable {pure : Bool} {base bar : Nat} {H : Heap} {Q : AV → Heap → Prop} {K : AV → Heap → List Nat → Prop}

theorem k55L {l : List Nat} (hl : l.length < 1000000) (h : Q (clipV l) H) : WpCall E pure base bar 55 [outL 1 (nats l)] H Q := by
  have hsl : ∀ H : Heap, aslice H (.slc 1) (outL 1 (nats l)) none (some (.int .i64 (l.length : Int))) (some (.int .i64 (l.length : Int))) = some (clipV l) := fun H => by
    rw [outL_nats]
    unfold clipV
    split
    · rename_i he; subst he; simp [aslice, optBound, bound1, AV.asNat]
    · simp [aslice, optBound, bound1, AV.asNat, nats_length]
      rw [List.take_of_length_le (by rw [nats_length]; exact Nat.le_refl _)]
  have hu : isL (outL 1 (nats l)) l := isL.out
  rw [call55]
  simp [go_sem, WpFun, c55, hu.frz]
  generalize outL 1 (nats l) = w at *
  simp [go_sem, hu.len, aop, Opd.evo, hsl, clip_frz, clip_top]
  exact h
def extL (n k : Nat) (l xs : List Nat) : List (List Nat) := xs.flatMap fun x => if l.contains x then [] else extO n k (l ++ [x])
theorem extO_succ {n k : Nat} {l : List Nat} : extO n (k + 1) l = extL n k l (List.range' 0 n) := by
  simp only [extO, extL, List.range_eq_range']
def fn101 : AV := .fn 101 [] [.ptr 5 0 0, .ptr 6 0 0, .ptr 7 0 0]
def pass2 (D : List Nat) (o : Nat) (l : List Nat) : Bool := pass D l || (o == 0 || (sets 0 l).any fun u => u == o)
/-- the blocks of the search through all orders -/
structure OSt (n : Nat) (B0 : Blk) (vD : AV) (o p a : Nat) (H : Heap) : Prop where
  five : H.take 5 = G4 B0 vD o p a
  n5 : H[5]? = some (.row 0 [.int .i64 (n : Int)] 0 true)
  f6 : H[6]? = some (.row 0 [fn64] 0 true)
  f7 : H[7]? = some (.row 0 [fn101] 0 true)
theorem k101 {n : Nat} {B0 : Blk} {vD : AV} {o : Nat} {D : List Nat} (hn : n ≤ 5) (hD : isL vD D) (hDl : D.length ≤ 64) : ∀ (k : Nat) (l : List Nat) (p a : Nat) (v : AV) (H H1 : Heap) (base : Nat) (Q : AV → Heap → Prop), l.length + k = n → (∀ x ∈ l, x < n) →
    frz 8 0 H v = some (outL 1 (nats l), H1) → OSt n B0 vD o p a H1 → p + (extO n k l).length < 1000000 → a + (extO n k l).length < 1000000 →
    (∀ H', H'.length = H1.length → OSt n B0 vD o (p + (extO n k l).countP (pass D)) (a + (extO n k l).countP (pass2 D o)) H' → (∀ j, 5 ≤ j → H'[j]? = H1[j]?) → Q (.tup []) H') →
    WpCall E false base 0 101 [v, .ptr 5 0 0, .ptr 6 0 0, .ptr 7 0 0] H Q := by
  intro k
  induction k with
  | zero =>
    intro l p a v H H1 base Q hl hlx hf st hp ha h
    have hu : isL (outL 1 (nats l)) l := isL.out
    have ld5 : aload H1 ⟨false, 1⟩ (.ptr 5 0 0) = some (.int .i64 (n : Int)) := by rw [aload_ptr st.n5]; rfl
    have ld6 : aload H1 ⟨false, 1⟩ (.ptr 6 0 0) = some fn64 := by rw [aload_ptr st.f6]; rfl
    simp only [extO, List.length_singleton] at hp ha h
    have hln : l.length = n := by omega
    rw [call101]
    simp [go_sem, WpFun, c101, hf]
    generalize outL 1 (nats l) = w at *
    simp [go_sem, ld5, hu.len, hln, ld6, fn64]
    refine k64 hD hDl hu (by omega) (fun x hx => by have := hlx x hx; omega) (by omega) (by omega) st.five fun H' e1 e2 e3 => ?_
    have := h H' e1 ⟨by rw [e2]; simp [List.countP_cons, pass2, b2n], by rw [e3 5 (by omega)]; exact st.n5, by rw [e3 6 (by omega)]; exact st.f6, by rw [e3 7 (by omega)]; exact st.f7⟩ e3
    have ht : H'.take H1.length = H' := by rw [← e1, List.take_length]
    simp [go_sem, ht]
    exact this
  | succ k ih =>
    intro l p a v H H1 base Q hl hlx hf st hp ha h
    have hu : isL (outL 1 (nats l)) l := isL.out
    have ld5 : aload H1 ⟨false, 1⟩ (.ptr 5 0 0) = some (.int .i64 (n : Int)) := by rw [aload_ptr st.n5]; rfl
    have hln : ¬ ((l.length : Int) = (n : Int)) := by omega
    rw [extO_succ] at hp ha h
    have loop : ∀ (c i p a : Nat) (Hc : Heap) (base : Nat) (R : PQ), i + c = n → Hc.length = H1.length → OSt n B0 vD o p a Hc → p + (extL n k l (List.range' i c)).length < 1000000 → a + (extL n k l (List.range' i c)).length < 1000000 →
        (∀ H', H'.length = Hc.length → OSt n B0 vD o (p + (extL n k l (List.range' i c)).countP (pass D)) (a + (extL n k l (List.range' i c)).countP (pass2 D o)) H' → (∀ j, 5 ≤ j → H'[j]? = Hc[j]?) → R (.exit 0) [(0, outL 1 (nats l)), (3, .ptr 7 0 0), (13, .int .i64 (n : Int)), (14, .int .i64 (n : Int)), (15, .bool false)] H') →
        Wp E base 0 (.loop c101_l0) [(0, outL 1 (nats l)), (3, .ptr 7 0 0), (13, .int .i64 (n : Int)), (14, .int .i64 (i : Int))] Hc R := by
      intro c
      induction c with
      | zero =>
        intro i p a Hc base R hi hcl sc hp ha h
        obtain rfl : i = n := by omega
        simp only [List.range'_zero, extL, List.flatMap_nil, List.countP_nil, Nat.add_zero] at h
        rw [wp_round c101_l0.eq_1]
        simp [go_sem]
        exact h Hc rfl sc fun _ _ => rfl
      | succ c ihc =>
        intro i p a Hc base R hi hcl sc hp ha h
        have hlt : i < n := by omega
        have hw := i64_suc (show i < 1000000 by omega)
        have hH8 : 8 ≤ Hc.length := (List.getElem?_eq_some_iff.1 sc.f7).1
        have ex : extL n k l (List.range' i (c + 1)) = (if l.contains i then [] else extO n k (l ++ [i])) ++ extL n k l (List.range' (i + 1) c) := by
          simp only [extL, List.range'_succ, List.flatMap_cons]
        rw [ex] at hp ha h
        have ld7 : aload Hc ⟨false, 1⟩ (.ptr 7 0 0) = some fn101 := by rw [aload_ptr sc.f7]; rfl
        have htop : (outL 1 (nats l)).top = 0 := hu.top
        rw [wp_round c101_l0.eq_1]
        simp [go_sem, hlt]
        refine k49 (x := i) hu (by omega) ?_
        cases hc : l.contains i
        · rw [hc] at hp ha h
          simp only [Bool.false_eq_true, if_false, List.length_append, List.countP_append] at hp ha h
          simp [go_sem, ld7]
          refine k55L (by omega) ?_
          simp [go_sem, hu.noVec, AV.noVec.noVecs, AV.noVec, aop, fillA, setCells, chunks]
          rw [wpop_app]
          simp [Opd.ev, go_sem]
          refine app_clip (by omega) ?_
          simp [go_sem, fn101]
          have g0 : Grow 1 (nats (l ++ [i])) Hc (.vec Hc.length 0 0 (l.length + 1) 1) (Hc ++ [.row 0 (nats (l ++ [i])) 0 false]) :=
            .inr ⟨0, 0, by simp [nats], by omega, by simp [nats], rfl⟩
          obtain ⟨H2, f1, f2, f3⟩ := gfrz (bar := 0) g0 (by decide) (Nat.one_dvd _) nats_plain (by omega)
          have s2 : OSt n B0 vD o p a H2 := ⟨by rw [grow_take f2 (by omega)]; exact sc.five, f2.get sc.n5, f2.get sc.f6, f2.get sc.f7⟩
          have hl2 : H2.length = Hc.length + 1 := by rw [f3]; simp
          refine ih (l ++ [i]) p a _ _ H2 _ _ (by simp; omega) (fun x hx => ?_) f1 s2 (by omega) (by omega) fun H' e1 e2 e3 => ?_
          · rcases List.mem_append.1 hx with hx | hx
            · exact hlx x hx
            · simp at hx; omega
          · have hn1 : (H'.take Hc.length).length = Hc.length := by rw [List.length_take]; omega
            have hg : ∀ j, j < Hc.length → (H'.take Hc.length)[j]? = H'[j]? := fun j hj => by rw [List.getElem?_take, if_pos hj]
            have hold : ∀ j, 5 ≤ j → j < Hc.length → (H'.take Hc.length)[j]? = Hc[j]? := fun j h5 hj => by
              rw [hg j hj, e3 j h5]
              have h1 : Hc[j]? = some Hc[j] := List.getElem?_eq_getElem hj
              rw [h1]; exact f2.get h1
            have sn : OSt n B0 vD o (p + (extO n k (l ++ [i])).countP (pass D)) (a + (extO n k (l ++ [i])).countP (pass2 D o)) (H'.take Hc.length) :=
              ⟨by rw [List.take_take, Nat.min_eq_left (by omega)]; exact e2.five, by rw [hold 5 (by omega) (by omega)]; exact sc.n5, by rw [hold 6 (by omega) (by omega)]; exact sc.f6, by rw [hold 7 (by omega) (by omega)]; exact sc.f7⟩
            have c1 := List.countP_le_length (p := pass D) (l := extO n k (l ++ [i]))
            have c2 := List.countP_le_length (p := pass2 D o) (l := extO n k (l ++ [i]))
            have next := ihc (i + 1) _ _ (H'.take Hc.length) base R (by omega) (by omega) sn (by omega) (by omega) fun H3 q1 q2 q3 => h H3 (by rw [q1, hn1]) (by
              rw [Nat.add_assoc, Nat.add_assoc] at q2; exact q2) fun j h5 => by
              rw [q3 j h5]
              by_cases hj : j < Hc.length
              · exact hold j h5 hj
              · rw [List.getElem?_eq_none (by omega), List.getElem?_eq_none (by omega)]
            have hcl : clearOf 7 [[], []] = true := rfl
            simp [go_sem, hcl, hw, ftop, htop, AV.top]
            exact ⟨by omega, next⟩
        · rw [hc] at hp ha h
          simp only [if_true, List.nil_append] at hp ha h
          have next := ihc (i + 1) p a Hc base R (by omega) hcl sc hp ha h
          simp [go_sem, hw, ftop, htop, AV.top, List.take_length]
          exact ⟨by omega, next⟩
    rw [call101]
    simp [go_sem, WpFun, c101, hf]
    simp [go_sem, ld5, hu.len, hln]
    refine loop n 0 p a H1 _ _ (by omega) rfl st hp ha fun H' e1 e2 e3 => ?_
    have ht : H'.take H1.length = H' := by rw [← e1, List.take_length]
    simp [go_sem, ht]
    exact h H' e1 e2 e3
/-- 63: all orders are gone through -/
theorem k63 {n : Nat} {B0 : Blk} {vD : AV} {o p a : Nat} {D : List Nat} (hn : n ≤ 5) (hD : isL vD D) (hDl : D.length ≤ 64) (hlen : H.length = 5) (hH : H = G4 B0 vD o p a) (hp : p + (extO n n []).length < 1000000) (ha : a + (extO n n []).length < 1000000)
    (h : Q (.tup []) (G4 B0 vD o (p + (extO n n []).countP (pass D)) (a + (extO n n []).countP (pass2 D o)))) : WpCall E false 0 0 63 [.int .i64 (n : Int), fn64] H Q := by
  subst hH
  rw [call63]
  simp [go_sem, WpFun, c63, fn64, G4]
  simp [go_sem, storeWp, astore, setCells, AV.cells, aload, Ab.part, AV.top.tops, AV.top]
  refine k101 hn hD hDl n [] p a .nils _ _ _ _ (by simp) (by simp) rfl ⟨rfl, rfl, rfl, rfl⟩ hp ha fun H' e1 e2 e3 => ?_
  simp [go_sem]
  rw [e2.five]
  exact h
end Go.Proofs.YtbkhffakhggdaaaDoor.Code
end

section
namespace Go.Proofs.YtbkhffakhggdaaaDoor.Code
open Go Go.Ab

/-! sums of orders -/
def chainN (l : List Nat) : List Nat := 0 :: sets 0 l
theorem pass_chain {D l : List Nat} : pass D l = (chainN l).any D.contains := by simp [pass, chainN]
theorem nest_ord : ((List.range' 1 5).all fun n => (extO n n []).all fun l => (chainN l).all fun a => (chainN l).all fun b => subB a b || subB b a) = true := by decide +kernel
theorem cnt_ord : ((List.range' 1 5).all fun n => (List.range (2 ^ n)).all fun x => Nat.beq ((extO n n []).countP fun l => (chainN l).contains x) (fac (pc x) * fac (n - pc x))) = true := by decide +kernel
theorem len_ord : ((List.range' 1 5).all fun n => Nat.beq (extO n n []).length (fac n)) = true := by decide +kernel
theorem countP_sum {α : Type} {p : α → Bool} : ∀ {L : List α}, L.countP p = (L.map fun l => b2n (p l)).sum
  | [] => rfl
  | x :: r => by
    rw [List.countP_cons, List.map_cons, List.sum_cons, countP_sum (L := r)]
    unfold b2n
    omega
theorem sum_add {α : Type} {f g : α → Nat} : ∀ {L : List α}, (L.map fun l => f l + g l).sum = (L.map f).sum + (L.map g).sum
  | [] => rfl
  | x :: r => by simp only [List.map_cons, List.sum_cons, sum_add (L := r)]; omega
theorem sum_zero {α : Type} : ∀ {L : List α}, (L.map fun _ => 0).sum = 0
  | [] => rfl
  | x :: r => by simp only [List.map_cons, List.sum_cons, sum_zero (L := r)]
theorem exch {α : Type} {q : α → Nat → Bool} {L : List α} : ∀ {D : List Nat}, (L.map fun l => D.countP (q l)).sum = (D.map fun x => L.countP fun l => q l x).sum
  | [] => by simp only [List.countP_nil, List.map_nil, List.sum_nil]; exact sum_zero
  | x :: r => by
    rw [List.map_cons, List.sum_cons, ← exch (D := r), countP_sum (L := L), ← sum_add]
    congr 1
    apply List.map_congr_left
    intro l _
    rw [List.countP_cons]
    unfold b2n
    omega
theorem one_le {l : List Nat} (hnd : l.Nodup) (h : ∀ a ∈ l, ∀ b ∈ l, a = b) : l.length ≤ 1 := by
  match l, hnd, h with
  | [], _, _ => simp
  | [a], _, _ => simp
  | a :: b :: r, hnd, h =>
    have := h a (by simp) b (by simp)
    subst this
    simp at hnd
theorem lubell {n : Nat} (h1 : 1 ≤ n) (h5 : n ≤ 5) {D : List Nat} (hD : ∀ x ∈ D, x < pw n) (hnd : D.Nodup) (hap : apS D = true) (hcon : conS D D 0 = none) :
    (extO n n []).countP (pass D) = (D.map fun x => fac (pc x) * fac (n - pc x)).sum := by
  have hn : n ∈ List.range' 1 5 := List.mem_range'_1.2 ⟨h1, by omega⟩
  rw [countP_sum]
  have hanti : ∀ a ∈ D, ∀ b ∈ D, ¬ (a ≠ b ∧ subB a b = true) := fun a ha b hb => by
    have := hcon
    exact fun hc => by
      have key : ∀ {T : List Nat} {i : Nat}, conS D T i = none → ∀ a ∈ T, ∀ b ∈ D, ¬ (a ≠ b ∧ subB a b = true) := by
        intro T
        induction T with
        | nil => intro i _ a ha; simp at ha
        | cons c r ih =>
          intro i h a ha b hb
          simp only [conS] at h
          cases hx : ixP c D 0 with
          | none =>
            rw [hx] at h
            rcases List.mem_cons.1 ha with rfl | ha
            · have kk : ∀ {S : List Nat} {k : Nat}, ixP a S k = none → ∀ b ∈ S, ¬ (a ≠ b ∧ subB a b = true) := by
                intro S
                induction S with
                | nil => intro k _ b hb; simp at hb
                | cons d s ihs =>
                  intro k h b hb
                  simp only [ixP] at h
                  split at h
                  · cases h
                  · rename_i hne
                    rcases List.mem_cons.1 hb with rfl | hb
                    · exact hne
                    · exact ihs h b hb
              exact kk hx b hb
            · exact ih h a ha b hb
          | some k => rw [hx] at h; cases h
      exact key this a ha b hb hc
  have step : ∀ l ∈ extO n n [], b2n (pass D l) = D.countP fun x => (chainN l).contains x := fun l hl => by
    have hnest := List.all_eq_true.1 (List.all_eq_true.1 nest_ord n hn) l hl
    have hle : (D.filter fun x => (chainN l).contains x).length ≤ 1 := one_le (hnd.filter _) fun a ha b hb => by
      obtain ⟨ha1, ha2⟩ := List.mem_filter.1 ha
      obtain ⟨hb1, hb2⟩ := List.mem_filter.1 hb
      have := List.all_eq_true.1 (List.all_eq_true.1 hnest a (by simpa using ha2)) b (by simpa using hb2)
      rw [Bool.or_eq_true] at this
      apply Decidable.byContradiction
      intro hab
      rcases this with h | h
      · exact hanti a ha1 b hb1 ⟨hab, h⟩
      · exact hanti b hb1 a ha1 ⟨fun e => hab e.symm, h⟩
    rw [← List.countP_eq_length_filter] at hle
    cases hp : pass D l
    · rw [pass_chain, List.any_eq_false] at hp
      symm
      show _ = 0
      rw [List.countP_eq_zero]
      intro x hx hc
      exact hp x (by simpa using hc) (by simpa using hx)
    · rw [pass_chain, List.any_eq_true] at hp
      obtain ⟨x, hx, hc⟩ := hp
      have : 0 < D.countP fun x => (chainN l).contains x := List.countP_pos_iff.2 ⟨x, by simpa using hc, by simpa using hx⟩
      show 1 = _
      omega
  rw [List.map_congr_left step, exch]
  congr 1
  apply List.map_congr_left
  intro x hx
  exact Nat.eq_of_beq_eq_true (List.all_eq_true.1 (List.all_eq_true.1 cnt_ord n hn) x (List.mem_range.2 (hD x hx)))
/-- the table's answer is the number of orders -/
theorem orders_eq {n : Nat} (h1 : 1 ≤ n) (h5 : n ≤ 5) {S : List Nat} : (extO n n []).countP (pass S) = fac n - pS S (pw n) (pw n - 1) := by
  have hn : n ∈ List.range' 1 5 := List.mem_range'_1.2 ⟨h1, by omega⟩
  have hpm := List.isPerm_iff.1 (List.all_eq_true.1 perm_all n hn)
  have hlen := Nat.eq_of_beq_eq_true (List.all_eq_true.1 len_ord n hn)
  have hp := pw_le (n := n) (by omega)
  have hpp : 0 < pw n := pw_pos
  have hc := plist_count (S := S) (f := 64) (t := pw n - 1) (by omega) (by omega)
  rw [← hpm.countP_eq, show pw n - 1 + 1 = pw n by omega] at hc
  have := List.length_eq_countP_add_countP (pass S) (l := extO n n [])
  have e : (extO n n []).countP (fun l => ¬ pass S l = true) = (extO n n []).countP (fun l => !pass S l) := by
    apply List.countP_congr; intro l _; simp
  rw [hlen, e, hc] at this
  omega
theorem pass2_eq {D : List Nat} {o : Nat} {l : List Nat} : pass2 D o l = pass (if D.contains o then D else D ++ [o]) l := by
  unfold pass2
  have hor : (o == 0 || (sets 0 l).any fun u => u == o) = (chainN l).any fun u => u == o := by
    simp [chainN, Bool.beq_comm]
  rw [hor, pass_chain, pass_chain]
  by_cases hc : D.contains o = true
  · rw [if_pos hc]
    rw [Bool.eq_iff_iff]
    simp only [Bool.or_eq_true, List.any_eq_true]
    constructor
    · rintro (h | ⟨u, hu, he⟩)
      · exact h
      · have := eq_of_beq he
        subst this
        exact ⟨u, hu, hc⟩
    · exact fun h => .inl h
  · rw [if_neg hc]
    rw [Bool.eq_iff_iff]
    simp only [Bool.or_eq_true, List.any_eq_true]
    constructor
    · rintro (⟨u, hu, he⟩ | ⟨u, hu, he⟩)
      · exact ⟨u, hu, by simp at he ⊢; exact .inl he⟩
      · exact ⟨u, hu, by simp at he ⊢; exact .inr he⟩
    · rintro ⟨u, hu, he⟩
      simp at he
      rcases he with he | he
      · exact .inl ⟨u, hu, by simpa using he⟩
      · exact .inr ⟨u, hu, by simpa using he⟩
end Go.Proofs.YtbkhffakhggdaaaDoor.Code
end

section
namespace Go.Proofs.YtbkhffakhggdaaaDoor.Code
open Go Go.Ab
variable {pure : Bool} {base bar : Nat} {H : Heap} {Q : AV → Heap → Prop} {K : AV → Heap → List Nat → Prop}

/-! 50: how many dyes, on any heap -/
def gg1 (a : AV) : Option AV := (abin .shr a (.int .u64 1)).bind fun y1 => (abin .and y1 (.int .u64 6148914691236517205)).bind fun y2 => (abin .and a (.int .u64 6148914691236517205)).bind fun y3 => abin .add y2 y3
def gg2 (a : AV) : Option AV := (abin .shr a (.int .u64 2)).bind fun y1 => (abin .and y1 (.int .u64 3689348814741910323)).bind fun y2 => (abin .and a (.int .u64 3689348814741910323)).bind fun y3 => abin .add y2 y3
def gg3 (a : AV) : Option AV := (abin .shr a (.int .u64 4)).bind fun y1 => (abin .add y1 a).bind fun y2 => abin .and y2 (.int .u64 1085102592571150095)
def gg4 (k : Int) (a : AV) : Option AV := (abin .shr a (.int .u64 k)).bind fun y1 => abin .add a y1
def kpc (x : Nat) : Bool := match (gg1 (.int .u64 (x : Int))).bind gg2 |>.bind gg3 |>.bind (gg4 8) |>.bind (gg4 16) |>.bind (gg4 32) with
  | some (.int .u64 v) => match abin .and (.int .i64 (IntKind.i64.wrap v)) (.int .i64 127) with
    | some (.int .i64 w) => decide (w = (pc x : Int))
    | _ => false
  | _ => false
theorem kpc_a : (List.range 64).all kpc = true := by kernel_rfl
theorem k113p {x : Nat} (hx : x < 64) (h : Q (.int .i64 (pc x : Nat)) H) : WpCall E pure base bar 113 [.int .u64 (x : Nat)] H Q := by
  have hk : kpc x = true := List.all_eq_true.1 kpc_a x (List.mem_range.2 hx)
  unfold kpc at hk
  split at hk
  · rename_i v hv
    split at hk
    · rename_i w hw
      have hw' := of_decide_eq_true hk
      subst hw'
      simp only [Option.bind_eq_some_iff] at hv
      obtain ⟨a5, ⟨a4, ⟨a3, ⟨a2, ⟨a1, h1, h2⟩, h3⟩, h4⟩, h5⟩, h6⟩ := hv
      simp only [gg1, gg2, gg3, gg4, Option.bind_eq_some_iff] at h1 h2 h3 h4 h5 h6
      obtain ⟨y1, e1, y2, e2, y3, e3, e4⟩ := h1
      obtain ⟨z1, f1, z2, f2, z3, f3, f4⟩ := h2
      obtain ⟨u1, p1, u2, p2, p3⟩ := h3
      obtain ⟨v1, q1, q2⟩ := h4
      obtain ⟨v3, q3, q4⟩ := h5
      obtain ⟨v5, q5, q6⟩ := h6
      rw [call113]
      simp [go_sem, WpFun, c113, e1, e2, e3, e4, f1, f2, f3, f4, p1, p2, p3, q1, q2, q3, q4, q5, q6, hw]
      exact h
    · cases hk
  · cases hk
theorem k50 {x : Nat} (hx : x < 64) (h : Q (.int .i64 (pc x : Nat)) H) : WpCall E pure base bar 50 [.int .i64 (x : Nat)] H Q := by
  rw [call50]
  simp [go_sem, WpFun, c50]
  rw [call97]
  simp [go_sem, WpFun, c97, u64n (show x < 9223372036854775808 by omega)]
  refine k113p hx ?_
  simp [go_sem]
  exact h
theorem fac_le120 {m : Nat} (h : m ≤ 5) : fac m ≤ 120 := by
  have : ∀ m, m ≤ 5 → fac m ≤ 120 := by decide
  exact this m h
theorem pc_n {n x : Nat} (hn : n ≤ 5) (hx : x < pw n) : pc x ≤ n := by
  have : ∀ n, n ≤ 5 → ∀ x, x < 2 ^ n → pc x ≤ n := by decide +kernel
  exact this n hn x hx
def lubS (n : Nat) (D : List Nat) : Nat := (D.map fun x => fac (pc x) * fac (n - pc x)).sum
theorem l13_0 {n : Nat} {vD : AV} {D : List Nat} (hn : n ≤ 5) (hv : isL vD D) (hD : ∀ x ∈ D, x < pw n) (hl : D.length ≤ 64) {R : PQ} : ∀ (c i s : Nat), i + c = D.length → s ≤ 14400 * i →
    R (.exit 0) [(6, .ptr 1 0 0), (5, .int .i64 (n : Int)), (7, .ptr 2 0 0), (8, .ptr 3 0 0), (9, .ptr 4 0 0), (10, .int .i64 ((s + lubS n (D.drop i) : Nat) : Int)), (30, vD), (31, .int .i64 (D.length : Nat)), (32, .int .i64 (D.length : Nat)), (33, .bool false)] H →
    Wp E base bar (.loop c13_l0) [(6, .ptr 1 0 0), (5, .int .i64 (n : Int)), (7, .ptr 2 0 0), (8, .ptr 3 0 0), (9, .ptr 4 0 0), (10, .int .i64 (s : Int)), (30, vD), (31, .int .i64 (D.length : Nat)), (32, .int .i64 (i : Nat))] H R := by
  intro c
  induction c with
  | zero =>
    intro i s hi hs h
    obtain rfl : i = D.length := by omega
    rw [List.drop_length] at h
    simp only [lubS, List.map_nil, List.sum_nil, Nat.add_zero] at h
    rw [wp_round c13_l0.eq_1]
    simp [go_sem]
    exact h
  | succ c ih =>
    intro i s hi hs h
    have hlt : i < D.length := by omega
    rw [List.drop_eq_getElem_cons hlt] at h
    have hx := hD _ (List.getElem_mem hlt)
    have hix := fun (K : AV → Heap → List Nat → Prop) (k : IntKind) => hv.ix (H := H) (K := K) (k := k) hlt
    generalize D[i] = x at *
    have hp := pc_n hn hx
    have hx6 := pw6 (by omega : n ≤ 6) hx
    have f1 := fac_le120 (m := pc x) (by omega)
    have f2 := fac_le120 (m := n - pc x) (by omega)
    have hm : fac (pc x) * fac (n - pc x) ≤ 14400 := Nat.mul_le_mul f1 f2
    have ws : IntKind.i64.wrap ((n : Int) - (pc x : Int)) = ((n - pc x : Nat) : Int) := by rw [show (n : Int) - (pc x : Int) = ((n - pc x : Nat) : Int) by omega, i64_nat (by omega)]
    have wm : IntKind.i64.wrap ((fac (pc x) : Int) * (fac (n - pc x) : Int)) = ((fac (pc x) * fac (n - pc x) : Nat) : Int) := by rw [show (fac (pc x) : Int) * (fac (n - pc x) : Int) = ((fac (pc x) * fac (n - pc x) : Nat) : Int) by simp, i64_nat (by omega)]
    have e : s + lubS n (x :: D.drop (i + 1)) = (s + fac (pc x) * fac (n - pc x)) + lubS n (D.drop (i + 1)) := by simp only [lubS, List.map_cons, List.sum_cons]; omega
    rw [e] at h
    generalize hfm : fac (pc x) * fac (n - pc x) = fm at *
    have wa : IntKind.i64.wrap ((s : Int) + (fm : Int)) = ((s + fm : Nat) : Int) := by rw [show (s : Int) + (fm : Int) = ((s + fm : Nat) : Int) by omega, i64_nat (by omega)]
    have next := ih (i + 1) (s + fm) (by omega) (by omega) h
    generalize s + fm = s2 at *
    generalize hnp : n - pc x = np at *
    rw [wp_round c13_l0.eq_1]
    simp [go_sem, hlt, hix]
    refine k50 hx6 ?_
    simp [go_sem]
    refine (call65 (by omega)).2 ?_
    simp [go_sem]
    refine k50 hx6 ?_
    simp [go_sem, ws]
    refine (call65 (by omega)).2 ?_
    simp [go_sem, wm, wa, i64_suc (show i < 1000000 by omega)]
    exact next
end Go.Proofs.YtbkhffakhggdaaaDoor.Code
end

section
namespace Go.Proofs.YtbkhffakhggdaaaDoor.Code
open Go Go.Ab
variable {pure : Bool} {base bar : Nat} {H : Heap} {Q : AV → Heap → Prop} {K : AV → Heap → List Nat → Prop}

/-- a list made anew: nothing, or a block of its own -/
def isC (H0 : Heap) (l : List Nat) (v : AV) (H : Heap) : Prop := (l = [] ∧ v = .lst 1 true [] ∧ H = H0) ∨ Grow 1 (nats l) H0 v H
theorem flat_nats : ∀ {b : List Nat}, (nats b).flatMap AV.cells = nats b
  | [] => rfl
  | x :: r => by
    have := flat_nats (b := r)
    simp only [nats, List.map_cons, List.flatMap_cons, AV.cells] at this ⊢; rw [this]; rfl
theorem eq_nn {K : AV → Heap → List Nat → Prop} : eqWp false .nilS (some .nils) (some .nils) H K = K (.bool true) H [] := (rfl)
theorem eq_ln {n : Nat} {ex : Bool} {l : List AV} {K : AV → Heap → List Nat → Prop} : eqWp false .nilS (some (.lst n ex l)) (some .nils) H K = K (.bool false) H [] := (rfl)
theorem k66 {v : AV} {l : List Nat} (hv : isL v l) (hl : l.length < 1000000) (h : ∀ v' H', isC H l v' H' → Q v' H') : WpCall E pure base bar 66 [v] H Q := by
  rw [call66]
  rcases hv with ⟨rfl, rfl⟩ | ⟨ex, rfl⟩
  · simp [go_sem, WpFun, c66, eq_nn]
    exact h _ _ (.inr (by exact Grow.nil))
  · have hf : frz 8 bar H (.lst 1 ex (nats l)) = some (.lst 1 ex (nats l), H) := rfl
    simp [go_sem, WpFun, c66, hf, eq_ln, aop, fillA, chunks]
    rw [wpop_app]
    simp [Opd.ev, go_sem, appWp, asrc, aappend, flat_nats, nats_length]
    have hz : frzsW (frz 8 (if pure = true then H.length else bar)) H (nats l) = some (nats l, H) := plains (d := 6) nats_plain
    simp only [hz]
    by_cases he : l = []
    · subst he
      exact h _ _ (.inl ⟨rfl, rfl, rfl⟩)
    · have hne : nats l ≠ [] := fun e => he (by simpa [nats] using e)
      simp [hne, nats_length, show l.length * 8 ≤ 140737488355328 by omega]
      exact h _ _ (.inr (.inr ⟨0, 0, hne, by omega, by simp [nats_length], rfl⟩))
theorem app_isC {H0 : Heap} {bytes x : Nat} {l : List Nat} {v : AV} {ex : Bool} (g : isC H0 l v H) (hb : bar ≤ H0.length) (hbase : base ≤ H0.length) (hlen : (l.length + 1) * bytes ≤ 140737488355328)
    (h : ∀ v' H' tc, Grow 1 (nats (l ++ [x])) H0 v' H' → K v' H' tc) : appWp base bar 1 bytes (some v) (some (.lst 1 ex [.int .i64 (x : Int)])) H K := by
  rcases g with ⟨rfl, rfl, rfl⟩ | g
  · have e : asrc H 1 (.lst 1 ex [.int .i64 (x : Int)]) = some [.int .i64 (x : Int)] := by rw [asrc_lst]; rfl
    simp at hlen
    simp [appWp, e, go_sem, aappend, AV.noVec.noVecs, AV.noVec, hlen]
    exact h _ _ _ (.inr ⟨0, 0, by simp [nats], by omega, by simp [nats], by simp [nats]⟩)
  · exact g.nat hb hbase hlen h
theorem k51g {n : Nat} {v : AV} {S : List Nat} {H0 : Heap} (g : Grow 1 (nats S) H0 v H) (hb : bar ≤ H0.length) (hS : ∀ x ∈ S, x < 64) (hl : S.length < 1000000)
    (h : ∀ H', Grow 1 (nats S) H0 v H' → H'.length = H.length → Q (.agg [.int .i64 (n : Int), outL 1 (dys S)]) H') : WpCall E pure base bar 51 [.int .i64 (n : Int), v] H Q := by
  obtain ⟨H2, f1, f2, f3⟩ := gfrz (bar := bar) g (by decide) (Nat.one_dvd _) nats_plain hb
  have k := k51 (pure := pure) (base := base) (n := n) (q := outL 1 (nats S)) isL.out hS hl (Nat.le_trans hb f2.len) (h H2 f2 f3)
  have hu : isL (outL 1 (nats S)) S := isL.out
  have e1 : frzAll bar H [.int .i64 (n : Int), v] = some ([.int .i64 (n : Int), outL 1 (nats S)], H2) := by simp [frzAll, frz.frzs, frzsW, frz_int, f1]
  have e2 : frzAll bar H2 [.int .i64 (n : Int), outL 1 (nats S)] = some ([.int .i64 (n : Int), outL 1 (nats S)], H2) := by simp [frzAll, frz.frzs, frzsW, frz_int, hu.frz]
  rw [call51, e2] at k
  rw [call51, e1]
  exact k
end Go.Proofs.YtbkhffakhggdaaaDoor.Code
end

section
namespace Go.Proofs.YtbkhffakhggdaaaDoor.Code
open Go Go.Ab
variable {pure : Bool} {base bar : Nat} {H : Heap} {Q : AV → Heap → Prop} {K : AV → Heap → List Nat → Prop}

theorem law13 {d m : Nat} {q : AV} {bs : List Nat} (hd : d < 256) (hm : m < 256) (hq : isB q bs) (hl : bs.length < 9223372036854775808) : WpCall E false 0 0 13 [.agg [.int .u8 (d : Nat), q], .int .u8 (m : Nat)] [] (fun v _ => v = .bool true) := by
  have h1 : 1 ≤ d % 5 + 1 := by omega
  have h5 : d % 5 + 1 ≤ 5 := by omega
  rw [call13]
  simp [go_sem, WpFun, c13, hq.frz, hq.cells]
  simp [go_sem, aload, Ab.part]
  refine k52 hd (by decide) (by decide) hq hl (by simp) ?_
  have hD := madeS_mem (p := pw (d % 5 + 1)) pw_pos (l := bs) (acc := []) (by simp)
  have hnd := madeS_nodup (p := pw (d % 5 + 1)) (l := bs) (acc := []) (by simp)
  have hp6 : pw (d % 5 + 1) ≤ 64 := pw_le (by omega)
  have hpp : 0 < pw (d % 5 + 1) := pw_pos
  have hlen := nodup_len hnd hD
  have r3 : (m : Int).tmod ((pw (d % 5 + 1) : Nat) : Int) = ((m % pw (d % 5 + 1) : Nat) : Int) := (rest_mod (a := m) (k := pw (d % 5 + 1)) hpp).tmod
  have ho := Nat.mod_lt m hpp
  generalize madeS (pw (d % 5 + 1)) [] bs = D at *
  generalize m % pw (d % 5 + 1) = o at *
  generalize d % 5 + 1 = n at *
  have hv : isL (outL 1 (nats D)) D := isL.out
  generalize outL 1 (nats D) = vD at *
  have hsh := shl_i64 (n := n) (by omega)
  have hpn : ((pw n : Nat) : Int) ≠ 0 := by omega
  simp [go_sem, storeWp, astore, setCells, aload, Ab.part, hv.isTup, hv.cells, hv.top, AV.top.tops, i64_nat (show m < 9223372036854775808 by omega), hsh, abin_rem hpn, r3]
  have hlen120 : (extO n n []).length ≤ 120 := by
    have hn : n ∈ List.range' 1 5 := List.mem_range'_1.2 ⟨h1, by omega⟩
    rw [Nat.eq_of_beq_eq_true (List.all_eq_true.1 len_ord n hn)]
    exact fac_le120 h5
  refine k63 (D := D) (n := n) (B0 := .row 0 [.int .u8 (d : Int), q] 0 true) (vD := vD) (o := o) (p := 0) (a := 0) h5 hv (by omega) rfl rfl (by omega) (by omega) ?_
  have hc1 := orders_eq h1 h5 (S := D)
  have hc2 : (extO n n []).countP (pass2 D o) = fac n - pS (if D.contains o then D else D ++ [o]) (pw n) (pw n - 1) := by
    rw [← orders_eq h1 h5]
    exact List.countP_congr fun l _ => by rw [pass2_eq]
  have hle12 : (extO n n []).countP (pass D) ≤ (extO n n []).countP (pass2 D o) := List.countP_mono_left fun l _ h => by simp [pass2, h]
  have hb1 := List.countP_le_length (p := pass D) (l := extO n n [])
  have hb2 := List.countP_le_length (p := pass2 D o) (l := extO n n [])
  have hfc : ∀ S : List Nat, (extO n n []).countP (pass S) ≤ 120 := fun S => Nat.le_trans List.countP_le_length hlen120
  have hn : n ∈ List.range' 1 5 := List.mem_range'_1.2 ⟨h1, by omega⟩
  have hlenf := Nat.eq_of_beq_eq_true (List.all_eq_true.1 len_ord n hn)
  have hlub : apS D = true → lubS n D = (extO n n []).countP (pass D) := fun hap => (lubell h1 h5 hD hnd hap ((apS_con hnd).1 hap)).symm
  rw [Nat.zero_add, Nat.zero_add]
  generalize hk : (extO n n []).countP (pass D) = k at *
  generalize hk2 : (extO n n []).countP (pass2 D o) = k2 at *
  simp [go_sem, G4, aload, Ab.part, hv.len]
  refine l13_0 (n := n) h5 hv hD (by omega) D.length 0 0 (by omega) (by omega) ?_
  rw [List.drop_zero, Nat.zero_add]
  simp [go_sem, aload, Ab.part]
  refine k51 hv (fun x hx => pw6 (by omega) (hD x hx)) (by omega) (by simp) ?_
  have hS : isS (outL 1 (dys D)) D := isS.out
  generalize outL 1 (dys D) = vS at *
  simp [go_sem]
  have hop : opS n [] (D.map dyL) = (0, D) := by
    have := opS_valid h1 (by omega) (D := D) (done := []) hD (by simpa using hnd)
    simpa using this
  refine k39 h1 (by omega) (hS.vv fun x hx => pw6 (by omega) (hD x hx)) (by simp; omega) (fun l hl => ?_) (by simp) (fun e => ?_) (fun _ => ?_)
  · obtain ⟨x, hx, rfl⟩ := List.mem_map.1 hl
    exact dyL_lt (pw6 (by omega) (hD x hx))
  · rw [hop] at e; exact (e rfl).elim
  rw [hop]
  simp only []
  rw [← hc1]
  simp [go_sem, aload, Ab.part]
  have hkf : k ≤ fac n := by rw [← hlenf]; exact hb1
  have hnk : ¬ ((fac n : Int) < (k : Int)) := by omega
  refine k53 hv (fun x hx => pw6 (by omega) (hD x hx)) (by omega) ?_
  have hfin : ∀ S : List Nat, S = (if D.contains o then D else D ++ [o]) → opS n [] (S.map dyL) = (0, S) := fun S hS => by
    have h1' : ∀ x ∈ S, x < pw n := fun x hx => by
      rw [hS] at hx
      split at hx
      · exact hD x hx
      · rcases List.mem_append.1 hx with hx | hx
        · exact hD x hx
        · simp at hx; omega
    have h2' : S.Nodup := by
      rw [hS]
      split
      · exact hnd
      · rename_i hc
        rw [List.nodup_append]
        refine ⟨hnd, by simp, fun a ha b hb => ?_⟩
        simp at hb; subst hb
        intro e; subst e
        exact hc (by simpa using ha)
    have := opS_valid h1 (by omega) (D := S) (done := []) h1' (by simpa using h2')
    simpa using this
  have last : ∀ (S : List Nat) (vS : AV), S = (if D.contains o then D else D ++ [o]) → isS vS S → S.length < 1000 → (∀ Q : AV → Heap → Prop, ∀ H base, Q (.tup [.int .i64 (k2 : Int), .int .i64 0]) H → WpCall E false base 0 39 [.agg [.int .i64 (n : Int), vS]] H Q) := fun S vS hSe hvS hSl Q H base h => by
    have h1' : ∀ x ∈ S, x < pw n := fun x hx => by
      rw [hSe] at hx
      split at hx
      · exact hD x hx
      · rcases List.mem_append.1 hx with hx | hx
        · exact hD x hx
        · simp at hx; omega
    have hopS := hfin S hSe
    refine k39 h1 (by omega) (hvS.vv fun x hx => pw6 (by omega) (h1' x hx)) (by simp; omega) (fun l hl => ?_) (by simp) (fun e => ?_) (fun _ => ?_)
    · obtain ⟨x, hx, rfl⟩ := List.mem_map.1 hl
      exact dyL_lt (pw6 (by omega) (h1' x hx))
    · rw [hopS] at e; exact (e rfl).elim
    rw [hopS]
    simp only []
    rw [hSe, ← hc2]
    exact h
  cases hap : apS D
  case' false => simp [go_sem]
  case' true =>
    simp [go_sem, hlub hap]
    refine (call65 (by omega)).2 ?_
    simp [go_sem, hnk]
  all_goals
    simp [go_sem, aload, Ab.part]
    refine k49 hv (by omega) ?_
    have hle : (k : Int) ≤ (k2 : Int) := by omega
    cases hcon : D.contains o
    · have hSe : D ++ [o] = (if D.contains o then D else D ++ [o]) := by rw [hcon]; rfl
      have hSm : ∀ x ∈ D ++ [o], x < 64 := fun x hx => by
        rcases List.mem_append.1 hx with hx | hx
        · exact pw6 (by omega) (hD x hx)
        · simp at hx; omega
      have last := fun vS hvS Q H base => last (D ++ [o]) vS hSe hvS (by simp; omega) Q H base
      simp [go_sem, aload, Ab.part]
      refine k66 hv (by omega) fun v1 H1 g1 => ?_
      simp [go_sem, aload, Ab.part, hv.noVec, aop, fillA, chunks, setCells, AV.noVec.noVecs, AV.noVec]
      rw [wpop_app]
      simp [Opd.ev, go_sem]
      refine app_isC g1 (Nat.zero_le _) (Nat.zero_le _) (by omega) fun v2 H2 tc g2 => ?_
      have hg1 := g2.get (i := 1) (b := .row 0 [vD] 0 true) rfl
      have hs2 : v2.isTup = false ∧ v2.cells = [v2] := by rcases g2 with ⟨_, rfl, _⟩ | ⟨_, _, _, _, rfl, _⟩ <;> exact ⟨rfl, rfl⟩
      have hst := fun (K : AV → Heap → List Nat → Prop) => storeWp_ptr (base := 0) (bar := 0) (size := 1) (K := K) (off := 0) (v := v2) hg1 hs2.1 (by rw [hs2.2]; rfl) (by omega) (by simp) (by omega) (.inl (by omega))
      have g3 := g2.set (i := 1) (b := .row 0 [v2] 0 true) (by simp)
      have hg3 := set_get (b := .row 0 [v2] 0 true) hg1
      simp [go_sem, hst, hs2.2, setCells]
      generalize H2.set 1 (.row 0 [v2] 0 true) = H3 at *
      have ld6 : aload H3 ⟨false, 1⟩ (.ptr 1 0 0) = some v2 := by rw [aload_ptr hg3]; rfl
      simp [go_sem, ld6]
      refine k51g g3 (by omega) hSm (by simp; omega) fun H4 g4 hl4 => ?_
      have hg4 := g4.get (i := 4) (b := .row 0 [.int .i64 (k2 : Int)] 0 true) rfl
      have ld9 : aload H4 ⟨false, 1⟩ (.ptr 4 0 0) = some (.int .i64 (k2 : Int)) := by rw [aload_ptr hg4]; rfl
      have hS4 : isS (outL 1 (dys (D ++ [o]))) (D ++ [o]) := isS.out
      generalize outL 1 (dys (D ++ [o])) = vS4 at *
      simp [go_sem]
      refine last vS4 hS4 _ _ _ ?_
      simp [go_sem, ld9, hle]
      refine call15.2 ?_
      simp [go_sem]
    · have last := fun vS hvS Q H base => last D vS (by rw [if_pos hcon]) hvS (by omega) Q H base
      simp [go_sem, aload, Ab.part]
      refine k51 hv (fun x hx => pw6 (by omega) (hD x hx)) (by omega) (by simp) ?_
      simp [go_sem]
      have hS4 : isS (outL 1 (dys D)) D := isS.out
      generalize outL 1 (dys D) = vS4 at *
      refine last vS4 hS4 _ _ _ ?_
      simp [go_sem, aload, Ab.part, hle]
      refine call15.2 ?_
      simp [go_sem]
theorem orders_true {d m : Nat} {q : AV} {bs : List Nat} (hd : d < 256) (hq : isB q bs) (hl : bs.length < 9223372036854775808) (hm : m < 256) : ∃ f H', acall E f 13 [.agg [.int .u8 (d : Nat), q], .int .u8 (m : Nat)] [] = some (.bool true, H') := by
  obtain ⟨f, v, H', h, rfl⟩ := law13 hd hm hq hl
  exact ⟨f, H', h⟩
end Go.Proofs.YtbkhffakhggdaaaDoor.Code
end

