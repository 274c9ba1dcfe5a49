/-
  Parts of the proofs about this chapter, joined: contracts of functions and plain laws.
-/
import Derived.Test.YtoipleipokpnaaaWqa
import Derived.KernelRfl
set_option linter.all false
section
namespace Go.Proofs.Ytoipleipokpnaaa.Code
open Go Go.Ab
variable {pure : Bool} {base bar : Nat} {H : Heap} {Q : AV → Heap → Prop} {K : AV → Heap → List Nat → Prop}
end Go.Proofs.Ytoipleipokpnaaa.Code
end
section
namespace Go.Proofs.Ytoipleipokpnaaa.Code
open Go Go.Ab
end Go.Proofs.Ytoipleipokpnaaa.Code
end
section
namespace Go.Proofs.Ytoipleipokpnaaa.Code
open Go Go.Ab
variable {pure : Bool} {base bar : Nat} {H : Heap} {Q : AV → Heap → Prop} {K : AV → Heap → List Nat → Prop}
/-! Reach: ring by ring -/
structure Bal (n : Nat) (D : Nat → Nat → Nat) (k r all : Nat) : Prop where
  lt : all < 512
  mem : ∀ x, all.testBit x = true ↔ x < n ∧ D k x ≤ r
theorem Bal.start {n k : Nat} {f : Nat → Nat → Bool} {D : Nat → Nat → Nat} (hT : TM (fun x => x < n) f D) (hn : n ≤ 9) (hk : k < n) : Bal n D k 0 (pw k) :=
  ⟨pw9 (by omega), fun x => by
    rw [testBit_pw, decide_eq_true_iff]
    constructor
    · rintro rfl; exact ⟨hk, by rw [hT.zero hk]; omega⟩
    · rintro ⟨h1, h2⟩; exact hT.eq hk h1 (by omega)⟩
theorem Bal.step {n k r all : Nat} {l : List ZZ} {w : Nat → Nat} {D : Nat → Nat → Nat} (hT : TM (fun x => x < n) (tieB l) D) (hw : Wd n l w) (hk : k < n) (h : Bal n D k r all) : Bal n D k (r + 1) (nextF w (bitsN all) all) :=
  ⟨nextF_lt hw.lt h.lt, fun x => by
    rw [nextF_bit, h.mem]
    constructor
    · rintro (⟨h1, h2⟩ | ⟨a, h1, h2⟩)
      · exact ⟨h1, by omega⟩
      · rw [mem_bitsN h.lt, h.mem] at h1
        rw [hw.bit] at h2
        have := hT.step hk h2
        exact ⟨(hT.inV h2).2.1, by omega⟩
    · rintro ⟨h1, h2⟩
      by_cases e : D k x ≤ r
      · exact .inl ⟨h1, e⟩
      · right
        have hne : k ≠ x := fun e' => by subst e'; rw [hT.zero hk] at e; omega
        obtain ⟨b, b1, b2, _⟩ := hT.par hk h1 hne
        refine ⟨b, (mem_bitsN h.lt).2 ((h.mem b).2 ⟨(hT.inV b1).2.1, by omega⟩), ?_⟩
        rw [hw.bit]; exact hT.symF b1⟩
def rchF (n : Nat) (D : Nat → Nat → Nat) (k : Nat) : Nat := mx n (D k)
theorem Bal.full {n k r all : Nat} {D : Nat → Nat → Nat} (h : Bal n D k r all) : all = pw n - 1 ↔ rchF n D k ≤ r := by
  rw [full_iff fun x hx => ((h.mem x).1 hx).1]
  constructor
  · intro h1; exact mx_le fun x hx => ((h.mem x).1 (h1 x hx)).2
  · intro h1 x hx; exact (h.mem x).2 ⟨hx, Nat.le_trans (le_mx hx) h1⟩
end Go.Proofs.Ytoipleipokpnaaa.Code
end
section
namespace Go.Proofs.Ytoipleipokpnaaa.Code
open Go Go.Ab
variable {pure : Bool} {base bar : Nat} {H : Heap} {Q : AV → Heap → Prop} {K : AV → Heap → List Nat → Prop}
/-- distances of a tree, if it is one -/
def TrD (n : Int) (l : List ZZ) (D : Nat → Nat → Nat) : Prop := errT n l = 0 → ∀ m : Nat, n = m → TM (fun x => x < m) (tieB l) D ∧ ∀ x y, x < m → y < m → D x y < m
theorem wd_ex {n : Nat} {l : List ZZ} (hn : n ≤ 9) (he : errL n [] l = 0) : ∃ w, Wd n l w := by
  obtain ⟨w', k1, _⟩ := wd_sum hn (r := l) Wd.nil he (by simp [bitsN_zero, Sm_zero])
  rw [List.nil_append] at k1
  exact ⟨w', k1⟩
theorem trD_ex {n : Int} {l : List ZZ} : ∃ D, TrD n l D := by
  by_cases h : errT n l = 0
  · obtain ⟨m, rfl, h1, h9, hv, hE, hlen, hc⟩ := errT_ok h
    obtain ⟨w, hw⟩ := wd_ex h9 hE
    obtain ⟨D, d1, d2⟩ := tree_tm h9 h1 hw hE hlen hc
    refine ⟨D, fun _ m' e => ?_⟩
    obtain rfl : m = m' := by omega
    exact ⟨d1, d2⟩
  · exact ⟨fun _ _ => 0, fun h' => absurd h' h⟩
end Go.Proofs.Ytoipleipokpnaaa.Code
end
section
namespace Go.Proofs.Ytoipleipokpnaaa.Code
open Go Go.Ab
variable {pure : Bool} {base bar : Nat} {H : Heap} {Q : AV → Heap → Prop} {K : AV → Heap → List Nat → Prop}
/-! rounds: what has at most one tie is taken off -/
/-- lists of sets -/
def msk (ms : List Nat) : List AV := ms.map fun (m : Nat) => .int .u16 (m : Int)
theorem msk_plain {ms : List Nat} : ∀ c ∈ msk ms, Plain c := fun c hc => by
  obtain ⟨x, _, rfl⟩ := List.mem_map.1 hc
  exact Plain.int
theorem msk_len {ms : List Nat} : (msk ms).length = ms.length := by simp [msk]
def isM (v : AV) (ms : List Nat) : Prop := (v = .nils ∧ ms = []) ∨ ∃ ex, v = .lst 1 ex (msk ms)
theorem isM.out {ms : List Nat} : isM (outL 1 (msk ms)) ms := by
  unfold outL
  split
  · rename_i h
    have : ms = [] := by simpa [msk] using h
    subst this; exact .inl ⟨rfl, rfl⟩
  · refine .inr ⟨false, ?_⟩
    rw [Nat.div_one, chunks_one]
theorem isM.len {v : AV} {ms : List Nat} (h : isM v ms) : lenWp (some v) H K = K (.int .i64 (ms.length : Int)) H [] := by
  rcases h with ⟨rfl, rfl⟩ | ⟨ex, rfl⟩
  · rfl
  · rw [lenWp_lst, msk_len]
theorem isM.frz {v : AV} {ms : List Nat} (h : isM v ms) {d : Nat} : Go.Ab.frz (d + 1) bar H v = some (v, H) := by
  rcases h with ⟨rfl, rfl⟩ | ⟨ex, rfl⟩ <;> rfl
theorem isM.top {v : AV} {ms : List Nat} (h : isM v ms) : v.top = 0 := by
  rcases h with ⟨rfl, rfl⟩ | ⟨ex, rfl⟩
  · rfl
  · rw [top_lst]; exact tops_zero fun x hx => by
      simp only [msk, List.mem_map] at hx
      obtain ⟨a, _, rfl⟩ := hx; rfl
theorem isM.ix {v : AV} {ms : List Nat} (h : isM v ms) {k : IntKind} {i : Nat} (hi : i < ms.length) : ixaSWp 1 (some v) (some (.int k (i : Int))) H K = K (.fp (.int .u16 ((ms[i] : Nat) : Int))) H [] := by
  rcases h with ⟨rfl, rfl⟩ | ⟨ex, rfl⟩
  · simp at hi
  · rw [ixaSWp_lst]
    simp only [Int.toNat_natCast]
    rw [show (msk ms)[i]? = some (.int .u16 ((ms[i] : Nat) : Int)) by simp [msk, List.getElem?_eq_getElem hi]]
    simp [valWp_some]
theorem isM.isTup {v : AV} {ms : List Nat} (h : isM v ms) : v.isTup = false := by
  rcases h with ⟨rfl, rfl⟩ | ⟨ex, rfl⟩ <;> rfl
theorem isM.cells {v : AV} {ms : List Nat} (h : isM v ms) : v.cells = [v] := by
  rcases h with ⟨rfl, rfl⟩ | ⟨ex, rfl⟩ <;> rfl
theorem Grow.msk {base bytes : Nat} {ms : List Nat} {H0 : Heap} {v : AV} {ex : Bool} {x : Nat} (g : Grow 1 (msk ms) H0 v H) (hb : bar ≤ H0.length) (hbase : base ≤ H0.length)
    (hlen : (ms.length + 1) * bytes ≤ 140737488355328)
    (h : ∀ v' H' tc, Grow 1 (Code.msk (ms ++ [x])) H0 v' H' → K v' H' tc) : appWp base bar 1 bytes (some v) (some (.lst 1 ex [.int .u16 (x : Int)])) H K := by
  refine g.app (by omega) (Nat.one_dvd _) (fun c hc => ?_) (Nat.one_dvd _) hb hbase ?_ fun v' H' tc g' => h v' H' tc ?_
  · simp [AV.cells] at hc; subst hc; exact Plain.int
  · simpa [msk_len, AV.cells] using hlen
  · simpa [Code.msk, AV.cells] using g'
/-- the lowest bit taken away -/
def lowS (s : Nat) : Nat := if s = 0 then 0 else band s (s - 1)
theorem lowS_u16 {s : Nat} (hs : s < 512) : abin .and (.int .u16 (s : Int)) (.int .u16 (IntKind.u16.wrap ((s : Int) - 1))) = some (.int .u16 ((lowS s : Nat) : Int)) := by
  unfold lowS
  by_cases e : s = 0
  · subst e; rfl
  · rw [if_neg e]
    have : IntKind.u16.wrap ((s : Int) - 1) = ((s - 1 : Nat) : Int) := by rw [Go.IntWalk.u16_in _ (by omega)]; omega
    rw [this, and_u16 hs (by omega)]
theorem lowS_bits : ∀ s, s < 512 → (lowS s = 0 ↔ (bitsN s).length ≤ 1) := by decide +kernel
def offS (w : Nat → Nat) (left k : Nat) : Bool := decide (lowS (band (w k) left) = 0)
def offL (w : Nat → Nat) (left : Nat) (L : List Nat) (s : Nat) : Nat := L.foldl (fun o k => if offS w left k then bor o (pw k) else o) s
theorem offL_lt {w : Nat → Nat} {left : Nat} : ∀ {L : List Nat} {s : Nat}, (∀ a ∈ L, a < 9) → s < 512 → offL w left L s < 512
  | [], _, _, h => h
  | a :: L, s, hL, h => by
    have ha := hL a (List.mem_cons_self ..)
    have e : offL w left (a :: L) s = offL w left L (if offS w left a then bor s (pw a) else s) := rfl
    rw [e]
    refine offL_lt (fun b hb => hL b (List.mem_cons_of_mem _ hb)) ?_
    split
    · exact bor9 h (pw9 ha)
    · exact h
theorem offL_bit {w : Nat → Nat} {left x : Nat} : ∀ {L : List Nat} {s : Nat}, (offL w left L s).testBit x = true ↔ s.testBit x = true ∨ (x ∈ L ∧ offS w left x = true)
  | [], s => by simp [offL]
  | a :: L, s => by
    have e : offL w left (a :: L) s = offL w left L (if offS w left a then bor s (pw a) else s) := rfl
    rw [e, offL_bit]
    cases h : offS w left a with
    | true =>
      rw [if_pos rfl, testBit_bor, Bool.or_eq_true, testBit_pw, decide_eq_true_iff, List.mem_cons]
      constructor
      · rintro ((h1 | rfl) | ⟨h1, h2⟩)
        · exact .inl h1
        · exact .inr ⟨.inl rfl, h⟩
        · exact .inr ⟨.inr h1, h2⟩
      · rintro (h1 | ⟨rfl | h1, h2⟩)
        · exact .inl (.inl h1)
        · exact .inl (.inr rfl)
        · exact .inr ⟨h1, h2⟩
    | false =>
      rw [if_neg (by decide), List.mem_cons]
      constructor
      · rintro (h1 | ⟨h1, h2⟩)
        · exact .inl h1
        · exact .inr ⟨.inr h1, h2⟩
      · rintro (h1 | ⟨rfl | h1, h2⟩)
        · exact .inl h1
        · rw [h] at h2; cases h2
        · exact .inr ⟨h1, h2⟩
def offM (w : Nat → Nat) (left : Nat) : Nat := offL w left (bitsN left) 0
theorem offM_lt {w : Nat → Nat} {left : Nat} : offM w left < 512 := offL_lt (fun a ha => bitsN_lt ha) (by decide)
theorem offM_bit {w : Nat → Nat} {left x : Nat} (hl : left < 512) : (offM w left).testBit x = true ↔ left.testBit x = true ∧ offS w left x = true := by
  unfold offM
  rw [offL_bit, mem_bitsN hl]; simp
def rdsM (w : Nat → Nat) : Nat → Nat → List Nat
  | 0, _ => []
  | t + 1, left => if left = 0 then [] else offM w left :: rdsM w t (bcl left (offM w left))
/-- what is left is a tree -/
structure RS (n : Nat) (l : List ZZ) (D : Nat → Nat → Nat) (left : Nat) : Prop where
  lt : left < 512
  inn : ∀ x, left.testBit x = true → x < n
  tree : TS (tieB l) (fun x => left.testBit x) D
theorem off_leaf {n left x : Nat} {l : List ZZ} {w : Nat → Nat} {D : Nat → Nat → Nat} (hw : Wd n l w) (h : RS n l D left) (hx : left.testBit x = true) : offS w left x = true ↔ LfS (tieB l) (fun x => left.testBit x) x := by
  have hb : band (w x) left < 512 := band9 (hw.lt x)
  have hm : ∀ b, b ∈ bitsN (band (w x) left) ↔ rs (tieB l) (fun x => left.testBit x) x b = true := fun b => by
    rw [mem_bitsN hb, testBit_band, rs_iff, hw.bit, Bool.and_eq_true]
    constructor
    · rintro ⟨h1, h2⟩; exact ⟨h1, hx, h2⟩
    · rintro ⟨h1, _, h2⟩; exact ⟨h1, h2⟩
  have hnd : (bitsN (band (w x) left)).Nodup := (List.nodup_range).filter _
  unfold offS
  rw [decide_eq_true_iff, lowS_bits _ hb]
  constructor
  · intro h1 a b ha hb'
    rw [← hm] at ha hb'
    match hL : bitsN (band (w x) left), h1 with
    | [], _ => rw [hL] at ha; cases ha
    | [c], _ =>
      rw [hL] at ha hb'
      rw [List.mem_singleton.1 ha, List.mem_singleton.1 hb']
  · intro h1
    match hL : bitsN (band (w x) left) with
    | [] => simp
    | [c] => simp
    | c :: d :: r =>
      have hc : c ∈ bitsN (band (w x) left) := by rw [hL]; simp
      have hd : d ∈ bitsN (band (w x) left) := by rw [hL]; simp
      have := h1 c d ((hm c).1 hc) ((hm d).1 hd)
      rw [hL] at hnd
      subst this
      simp at hnd
theorem RS.off {n left : Nat} {l : List ZZ} {w : Nat → Nat} {D : Nat → Nat → Nat} (hw : Wd n l w) (h : RS n l D left) : Off (tieB l) (fun x => left.testBit x) (fun x => (bcl left (offM w left)).testBit x) := fun x => by
  simp only [testBit_bcl h.lt, Bool.and_eq_true, Bool.not_eq_true']
  constructor
  · rintro ⟨h1, h2⟩
    refine ⟨h1, fun hl => ?_⟩
    have := (offM_bit h.lt).2 ⟨h1, (off_leaf hw h h1).2 hl⟩
    rw [h2] at this; cases this
  · rintro ⟨h1, h2⟩
    refine ⟨h1, ?_⟩
    cases e : (offM w left).testBit x with
    | false => rfl
    | true => exact absurd ((off_leaf hw h h1).1 ((offM_bit h.lt).1 e).2) h2
theorem RS.step {n left : Nat} {l : List ZZ} {w : Nat → Nat} {D : Nat → Nat → Nat} (hw : Wd n l w) (h : RS n l D left) : RS n l D (bcl left (offM w left)) :=
  ⟨bcl9 h.lt, fun x hx => h.inn x ((h.off hw x).1 hx).1, h.tree.round (h.off hw)⟩
theorem RS.some {n left : Nat} {l : List ZZ} {w : Nat → Nat} {D : Nat → Nat → Nat} (hw : Wd n l w) (h : RS n l D left) (h0 : left ≠ 0) : offM w left ≠ 0 := fun e => by
  obtain ⟨x, hx⟩ : ∃ x, left.testBit x = true := Nat.exists_testBit_of_ne_zero h0
  obtain ⟨y, y1, y2⟩ := ecc_get (n := n) h.tree hx
  have hl := h.tree.has_leaf h.inn hx y1 y2
  have := (offM_bit h.lt).2 ⟨y1, (off_leaf hw h y1).2 hl⟩
  rw [e] at this; simp at this
theorem bits_lt : ∀ a, a < 512 → ∀ b, b < 512 → b ≠ 0 → band a b = b → (bitsN (bcl a b)).length < (bitsN a).length := by
  intro a ha b hb h0 hab
  obtain ⟨x, hx⟩ : ∃ x, b.testBit x = true := Nat.exists_testBit_of_ne_zero h0
  have hxa : a.testBit x = true := by
    have : (band a b).testBit x = true := by rw [hab]; exact hx
    rw [testBit_band, Bool.and_eq_true] at this
    exact this.1
  have hx9 := bit9 ha hxa
  have hsub : bitsN (bcl a b) = (bitsN a).filter fun i => !b.testBit i := by
    unfold bitsN
    rw [List.filter_filter]
    congr 1; funext i
    rw [testBit_bcl ha, Bool.and_comm]
  rw [hsub]
  refine List.length_filter_lt_length_iff_exists.2 ⟨x, (mem_bitsN ha).2 hxa, by simp [hx]⟩
theorem RS.fuel {n left : Nat} {l : List ZZ} {w : Nat → Nat} {D : Nat → Nat → Nat} (hw : Wd n l w) (h : RS n l D left) (h0 : left ≠ 0) : (bitsN (bcl left (offM w left))).length < (bitsN left).length := by
  refine bits_lt _ h.lt _ offM_lt (h.some hw h0) ?_
  apply Nat.eq_of_testBit_eq
  intro x
  rw [testBit_band]
  cases e : (offM w left).testBit x with
  | false => simp
  | true => rw [((offM_bit h.lt).1 e).1]; rfl
end Go.Proofs.Ytoipleipokpnaaa.Code
end
section
namespace Go.Proofs.Ytoipleipokpnaaa.Code
open Go Go.Ab
variable {pure : Bool} {base bar : Nat} {H : Heap} {Q : AV → Heap → Prop} {K : AV → Heap → List Nat → Prop}
theorem pwm_bit {n x : Nat} : (pw n - 1).testBit x = decide (x < n) := by unfold pw; exact Nat.testBit_two_pow_sub_one ..
theorem pwm_lt {n : Nat} (hn : n ≤ 9) : pw n - 1 < 512 := by
  have : pw n ≤ 512 := by
    have := Nat.pow_le_pow_right (n := 2) (by decide) hn
    unfold pw; omega
  omega
theorem u16_pwm {n : Nat} (hn : n ≤ 9) : IntKind.u16.wrap (((pw n : Nat) : Int) - 1) = ((pw n - 1 : Nat) : Int) := by
  have := pwm_lt hn
  have : 0 < pw n := by unfold pw; exact Nat.pow_pos (by decide)
  rw [Go.IntWalk.u16_in _ (by omega)]; omega
theorem RS.start {n : Nat} {l : List ZZ} {D : Nat → Nat → Nat} (hn : n ≤ 9) (hT : TM (fun x => x < n) (tieB l) D) : RS n l D (pw n - 1) := by
  refine ⟨pwm_lt hn, fun x hx => ?_, hT.congr (fun x => ?_) fun a b => ?_⟩
  · rw [pwm_bit] at hx; simpa using hx
  · simp only [pwm_bit]; simp
  · unfold rs
    simp only [pwm_bit]
    cases e : tieB l a b with
    | false => rfl
    | true =>
      obtain ⟨h1, h2, _⟩ := hT.inV e
      simp [h1, h2]
theorem l57a {v0 v3 lv : AV} {n left : Nat} {w : Nat → Nat} {L : List Nat} (h : RW v0 n w H) (hn : n ≤ 9) (hw : ∀ i, w i < 512) (hleft : left < 512) (hl : isL lv L) (hL : ∀ a ∈ L, a < n) (hlen : L.length ≤ 9) {R : PQ} :
    ∀ (k i : Nat), i + k = L.length → ∀ s, s < 512 →
    R (.exit 2) [(0, v0), (3, v3), (4, .int .u16 (left : Nat)), (5, .int .u16 (offL w left (L.drop i) s : Nat)), (18, lv), (19, .int .i64 (L.length : Nat)), (20, .int .i64 (L.length : Nat)), (21, .bool false)] H →
    Wp E base bar (.loop c57_l0) [(0, v0), (3, v3), (4, .int .u16 (left : Nat)), (5, .int .u16 (s : Nat)), (18, lv), (19, .int .i64 (L.length : Nat)), (20, .int .i64 (i : Nat))] H R := by
  intro k
  induction k with
  | zero =>
    intro i hi s hs k
    obtain rfl : i = L.length := by omega
    rw [List.drop_length] at k
    rw [wp_round c57_l0.eq_1]
    simp [go_sem]
    exact k
  | succ k ih =>
    intro i hi s hs k
    have hlt : i < L.length := by omega
    have ha := hL _ (List.getElem_mem hlt)
    obtain ⟨p, p1, p2⟩ := h.ix ha
    rw [List.drop_eq_getElem_cons hlt] at k
    have hix := fun (H : Heap) (K : AV → Heap → List Nat → Prop) => hl.ix (H := H) (K := K) (k := .i64) hlt
    have hnext := fun s hs => ih (i + 1) (by omega) s hs
    generalize L[i] = a at *
    have hb : band (w a) left < 512 := band9 (hw a)
    have e1 := and_u16 (hw a) hleft
    have e2 := lowS_u16 hb
    have e3 := shl_u16 (show a < 10 by omega)
    have e4 := or_u16 hs (pw9 (show a < 9 by omega))
    have e5 : offL w left (a :: L.drop (i + 1)) s = offL w left (L.drop (i + 1)) (if offS w left a then bor s (pw a) else s) := rfl
    rw [e5] at k
    have eo : offS w left a = decide (lowS (band (w a) left) = 0) := rfl
    rw [eo] at k
    generalize lowS (band (w a) left) = z at *
    rw [wp_round c57_l0.eq_1]
    by_cases c : z = 0
    · subst c
      simp at k
      simp [go_sem, hlt, hix, p1, p2, e1, e2, e3, e4, i64_suc (show i < 1000000 by omega)]
      exact hnext _ (bor9 hs (pw9 (by omega))) k
    · have c' : ¬ (z : Int) = 0 := by omega
      simp [c] at k
      simp [go_sem, hlt, hix, p1, p2, e1, e2, c, c', i64_suc (show i < 1000000 by omega)]
      exact hnext _ hs k
theorem bits_none {s : Nat} (hs : s < 512) (h : (bitsN s).length = 0) : s = 0 := by
  apply Decidable.byContradiction
  intro e
  obtain ⟨x, hx⟩ : ∃ x, s.testBit x = true := Nat.exists_testBit_of_ne_zero e
  have := List.length_pos_of_mem ((mem_bitsN hs).2 hx)
  omega
theorem l57b {n id : Nat} {l : List ZZ} {w : Nat → Nat} {D : Nat → Nat → Nat} {H0 : Heap} (hw : Wd n l w) (hn : n ≤ 9) (hid : H0[id]? = some (.row 0 (wc n w) 0 false)) (hb : bar ≤ H0.length) (hbase : base ≤ H0.length) {R : PQ} :
    ∀ (t left : Nat) (ms : List Nat) (v : AV) (H : Heap), RS n l D left → (bitsN left).length ≤ t → Grow 1 (msk ms) H0 v H → ms.length + t < 1000 →
    (∀ v' H', Grow 1 (msk (ms ++ rdsM w t left)) H0 v' H' → R (.exit 0) [(0, .vec id 0 0 n 1), (3, v'), (4, .int .u16 0), (16, .bool false)] H') →
    Wp E base bar (.loop c57_l1) [(0, .vec id 0 0 n 1), (3, v), (4, .int .u16 (left : Nat))] H R := by
  intro t
  induction t with
  | zero =>
    intro left ms v H hR ht gr hlen h
    obtain rfl := bits_none hR.lt (by omega)
    simp only [rdsM, List.append_nil] at h
    rw [wp_round c57_l1.eq_1]
    simp [go_sem]
    exact h v H gr
  | succ t ih =>
    intro left ms v H hR ht gr hlen h
    by_cases e0 : left = 0
    · subst e0
      simp only [rdsM, if_true, List.append_nil] at h
      rw [wp_round c57_l1.eq_1]
      simp [go_sem]
      exact h v H gr
    · simp only [rdsM, if_neg e0] at h
      have e0' : ¬ (left : Int) = 0 := by omega
      have hf := hR.fuel hw e0
      have hout : isL (outL 1 (nats (bitsN left))) (bitsN left) := isL.out
      have hL : ∀ a ∈ bitsN left, a < n := fun a ha => hR.inn a ((mem_bitsN hR.lt).1 ha)
      have gl := gr.len
      have la := fun {R : PQ} {base bar : Nat} hR' => l57a (R := R) (base := base) (bar := bar) (H := H) (v0 := .vec id 0 0 n 1) (v3 := v) (RW.vec (gr.get hid)) hn hw.lt hR.lt hout hL bitsN_len (bitsN left).length 0 (by omega) 0 (by decide) hR'
      rw [List.drop_zero] at la
      have eo : offL w left (bitsN left) 0 = offM w left := rfl
      rw [eo] at la
      have ea := andNot_u16 hR.lt (offM_lt (w := w) (left := left))
      have hnext := fun v H gr => ih (bcl left (offM w left)) (ms ++ [offM w left]) v H (hR.step hw) (by omega) gr (by simp; omega) (fun v' H' gr' => h v' H' (by simpa using gr'))
      generalize offM w left = o at *
      rw [wp_round c57_l1.eq_1]
      simp [go_sem, e0, e0']
      refine k58 hR.lt (by omega) ?_
      simp [go_sem, hout.len]
      refine la ?_
      simp [go_sem, ea, aop, fillA, setCells, AV.cells, chunks]
      refine Grow.msk gr hb hbase (by omega) fun v' H' tc gr' => ?_
      simp [go_sem, ea]
      exact hnext v' H' gr'
def rdsW (n : Nat) (w : Nat → Nat) : List Nat := rdsM w 9 (pw n - 1)
theorem rdsM_len {w : Nat → Nat} : ∀ {t left : Nat}, (rdsM w t left).length ≤ t
  | 0, _ => Nat.le_refl 0
  | t + 1, left => by
    simp only [rdsM]
    split
    · simp
    · have := rdsM_len (w := w) (t := t) (left := bcl left (offM w left))
      simp; omega
theorem k57 {n : Nat} {ex : Bool} {l : List ZZ} {w : Nat → Nat} {D : Nat → Nat → Nat} (hT : TM (fun x => x < n) (tieB l) D) (hw : Wd n l w) (hn : n ≤ 9) (h1 : 1 ≤ n) (hbar : bar ≤ H.length)
    (h : ∀ u, isM u (rdsW n w) → Q u H) : WpCall E pure base bar 57 [.lst 1 ex (wc n w)] H Q := by
  rw [call57]
  have e0 : frzAll bar H [.lst 1 ex (wc n w)] = some ([.lst 1 ex (wc n w)], H) := rfl
  rw [e0]
  have hb' : (if pure = true then H.length else bar) ≤ H.length := bar_if hbar
  have e1 := shl_u16 (show n < 10 by omega)
  have e2 := u16_pwm hn
  have hRS := RS.start hn hT
  simp [go_sem, WpFun, c57]
  refine k76 h1 hn ?_
  simp [go_sem, e1, e2]
  refine l57b (H0 := H ++ [.row 0 (wc n w) 0 false]) hw hn (by simp) (by simp; omega) (by simp) 9 _ [] .nils _ hRS bitsN_len (by simpa [msk] using Grow.nil) (by simp) fun v' H' gr => ?_
  rw [List.nil_append] at gr
  obtain ⟨H2, f1, f2, f3, f4⟩ := gr.frz (d := 5) (bar := if pure = true then H.length else bar) (by decide) (Nat.one_dvd _) msk_plain (by rw [List.length_append]; omega)
  have hu : isM (outL 1 (msk (rdsW n w))) (rdsW n w) := isM.out
  have hk := h _ hu
  have e3 : H2.take H.length = H := by
    have := congrArg (List.take H.length) f4
    rw [List.take_take] at this
    simp at this
    exact this
  have eR : rdsM w 9 (pw n - 1) = rdsW n w := rfl
  rw [eR] at f1
  simp [go_sem, aop, Opd.evo, (Grow.one gr).1, f1, hu.top, e3]
  exact hk
end Go.Proofs.Ytoipleipokpnaaa.Code
end
section
namespace Go.Proofs.Ytoipleipokpnaaa.Code
open Go Go.Ab
variable {pure : Bool} {base bar : Nat} {H : Heap} {Q : AV → Heap → Prop} {K : AV → Heap → List Nat → Prop}
/-! Middle: what is taken off last -/
def lastM (n : Nat) (w : Nat → Nat) : Nat := (rdsW n w).getLastD 0
theorem rdsM_lt {w : Nat → Nat} : ∀ {t left : Nat}, ∀ m ∈ rdsM w t left, m < 512
  | 0, _, m, h => by cases h
  | t + 1, left, m, h => by
    simp only [rdsM] at h
    split at h
    · cases h
    · rcases List.mem_cons.1 h with rfl | h
      · exact offM_lt
      · exact rdsM_lt m h
theorem lastM_lt {n : Nat} {w : Nat → Nat} : lastM n w < 512 := by
  unfold lastM
  cases h : rdsW n w with
  | nil => decide
  | cons a r =>
    rw [List.getLastD_eq_getLast?, List.getLast?_eq_some_getLast (by simp)]
    simp only [Option.getD_some]
    refine rdsM_lt (w := w) (t := 9) (left := pw n - 1) _ ?_
    have e : rdsM w 9 (pw n - 1) = a :: r := h
    rw [e]; exact List.getLast_mem _
theorem rdsW_pos {n : Nat} {w : Nat → Nat} (h1 : 1 ≤ n) : 1 ≤ (rdsW n w).length := by
  unfold rdsW
  have : pw n - 1 ≠ 0 := by
    have := Nat.pow_le_pow_right (n := 2) (by decide) h1
    unfold pw; omega
  simp [rdsM, this]
end Go.Proofs.Ytoipleipokpnaaa.Code
end
section
namespace Go.Proofs.Ytoipleipokpnaaa.Code
open Go Go.Ab
variable {pure : Bool} {base bar : Nat} {H : Heap} {Q : AV → Heap → Prop} {K : AV → Heap → List Nat → Prop}
/-! lists of lists -/
def LL : List AV → List (List Nat) → Prop
  | [], [] => True
  | u :: us, l :: ls => isL u l ∧ LL us ls
  | _, _ => False
theorem LL.len : ∀ {us : List AV} {ls : List (List Nat)}, LL us ls → us.length = ls.length
  | [], [], _ => rfl
  | u :: us, l :: ls, h => by simp [LL.len h.2]
  | [], _ :: _, h => h.elim
  | _ :: _, [], h => h.elim
theorem LL.get : ∀ {us : List AV} {ls : List (List Nat)} {i : Nat} (_ : LL us ls) (h1 : i < us.length) (h2 : i < ls.length), isL us[i] ls[i]
  | u :: us, l :: ls, 0, h, _, _ => h.1
  | u :: us, l :: ls, i + 1, h, h1, h2 => LL.get (us := us) (ls := ls) (i := i) h.2 (by simpa using h1) (by simpa using h2)
  | [], _, _, _, h1, _ => by simp at h1
  | _ :: _, [], _, h, _, _ => h.elim
theorem LL.all {P : AV → Prop} (hP : ∀ u l, isL u l → P u) : ∀ {us : List AV} {ls : List (List Nat)}, LL us ls → ∀ c ∈ us, P c
  | [], _, _, c, hc => by cases hc
  | u :: us, l :: ls, h, c, hc => by
    rcases List.mem_cons.1 hc with rfl | hc
    · exact hP _ _ h.1
    · exact LL.all hP h.2 c hc
  | _ :: _, [], h, _, _ => h.elim
def isLL (v : AV) (ls : List (List Nat)) : Prop := (v = .nils ∧ ls = []) ∨ ∃ ex us, v = .lst 1 ex us ∧ LL us ls
theorem isLL.len {v : AV} {ls : List (List Nat)} (h : isLL v ls) : lenWp (some v) H K = K (.int .i64 (ls.length : Int)) H [] := by
  rcases h with ⟨rfl, rfl⟩ | ⟨ex, us, rfl, hu⟩
  · rfl
  · rw [lenWp_lst, hu.len]
theorem isLL.frz {v : AV} {ls : List (List Nat)} (h : isLL v ls) {d : Nat} : Go.Ab.frz (d + 1) bar H v = some (v, H) := by
  rcases h with ⟨rfl, rfl⟩ | ⟨ex, us, rfl, hu⟩ <;> rfl
theorem isLL.top {v : AV} {ls : List (List Nat)} (h : isLL v ls) : v.top = 0 := by
  rcases h with ⟨rfl, rfl⟩ | ⟨ex, us, rfl, hu⟩
  · rfl
  · rw [top_lst]; exact tops_zero fun x hx => LL.all (P := fun c => c.top = 0) (fun u l h => h.top) hu x hx
theorem isLL.isTup {v : AV} {ls : List (List Nat)} (h : isLL v ls) : v.isTup = false := by
  rcases h with ⟨rfl, rfl⟩ | ⟨ex, us, rfl, hu⟩ <;> rfl
theorem isLL.cells {v : AV} {ls : List (List Nat)} (h : isLL v ls) : v.cells = [v] := by
  rcases h with ⟨rfl, rfl⟩ | ⟨ex, us, rfl, hu⟩ <;> rfl
theorem isLL.ix {v : AV} {ls : List (List Nat)} (h : isLL v ls) {i : Nat} (hi : i < ls.length) : ∃ u, isL u ls[i] ∧ ∀ {H : Heap} {K : AV → Heap → List Nat → Prop} {k : IntKind}, ixaSWp 1 (some v) (some (.int k (i : Int))) H K = K (.fp u) H [] := by
  rcases h with ⟨rfl, rfl⟩ | ⟨ex, us, rfl, hu⟩
  · simp at hi
  · have hl : i < us.length := by rw [hu.len]; exact hi
    refine ⟨us[i], hu.get hl hi, fun {H K k} => ?_⟩
    rw [ixaSWp_lst]
    simp only [Int.toNat_natCast]
    rw [List.getElem?_eq_getElem hl]
    simp [valWp_some]
end Go.Proofs.Ytoipleipokpnaaa.Code
end
section
namespace Go.Proofs.Ytoipleipokpnaaa.Code
open Go Go.Ab
variable {pure : Bool} {base bar : Nat} {H : Heap} {Q : AV → Heap → Prop} {K : AV → Heap → List Nat → Prop}
/-- what the walk needs of the heap -/
structure WalkH (n fr to : Nat) (w : Nat → Nat) (p2 p3 p4 : Nat) (H : Heap) : Prop where
  q : H[p2]? = some (.row 0 [.int .i64 (fr : Nat), .int .i64 (to : Nat)] 0 true)
  wd : ∃ ex, H[p3]? = some (.row 0 [.lst 1 ex (wc n w)] 0 true)
  me : H[p4]? = some (.row 0 [.fn 130 [] [.ptr p2 0 0, .ptr p3 0 0, .ptr p4 0 0]] 0 true)
theorem WalkH.top {n fr to : Nat} {w : Nat → Nat} {p2 p3 p4 : Nat} (h : WalkH n fr to w p2 p3 p4 H) : p4 < H.length := (List.getElem?_eq_some_iff.1 h.me).1
theorem app_two {a bytes : Nat} {ex : Bool} {path : List Nat} (hne : path ≠ []) (hlen : (path.length + 1) * bytes ≤ 140737488355328)
    (h : ∀ v H' tc, Grow 1 (nats (a :: path)) H v H' → K v H' tc) : appWp base bar 1 bytes (some (.lst 1 true [.int .i64 (a : Int)])) (some (.lst 1 ex (nats path))) H K := by
  have e : asrc H 1 (.lst 1 ex (nats path)) = some (nats path) := by rw [asrc_lst, flat_nats]
  have hz : frzsW (frz 8 bar) H (nats path) = some (nats path, H) := plains (d := 6) nats_plain
  have hl2 : (nats path).length = path.length := nats_len
  have hne2 : ¬ nats path = [] := fun e' => hne (by simpa [nats] using e')
  simp [appWp, e, go_sem, aappend, hz, hl2, AV.cells, hne2, show (1 + path.length) * bytes ≤ 140737488355328 by rw [Nat.add_comm]; exact hlen]
  refine h _ _ _ (.inr ⟨0, 0, by simp [nats], by omega, ?_, by simp [nats]⟩)
  simp [nats]; omega
end Go.Proofs.Ytoipleipokpnaaa.Code
end
section
namespace Go.Proofs.Ytoipleipokpnaaa.Code
open Go Go.Ab
variable {pure : Bool} {base bar : Nat} {H : Heap} {Q : AV → Heap → Prop} {K : AV → Heap → List Nat → Prop}
end Go.Proofs.Ytoipleipokpnaaa.Code
end
section
namespace Go.Proofs.Ytoipleipokpnaaa.Code
open Go Go.Ab
variable {pure : Bool} {base bar : Nat} {H : Heap} {Q : AV → Heap → Prop} {K : AV → Heap → List Nat → Prop}
/-! the reference: reach and middle -/
theorem dc_congr {n : Nat} {D D' : Nat → Int} (h : ∀ x, x < n → D x = D' x) : dc n D = dc n D' := by
  unfold dc
  exact List.map_congr_left fun x hx => by rw [h x (List.mem_range.1 hx)]
end Go.Proofs.Ytoipleipokpnaaa.Code
end
section
namespace Go.Proofs.Ytoipleipokpnaaa.Code
open Go Go.Ab
variable {pure : Bool} {base bar : Nat} {H : Heap} {Q : AV → Heap → Prop} {K : AV → Heap → List Nat → Prop}
/-! the reference: the middle -/
def mnF (m0 : Nat) (F : Nat → Nat) : Nat → Nat
  | 0 => m0
  | n + 1 => min (mnF m0 F n) (F n)
theorem mnF_le {m0 : Nat} {F : Nat → Nat} : ∀ {n x : Nat}, x < n → mnF m0 F n ≤ F x
  | 0, _, h => by omega
  | n + 1, x, h => by
    simp only [mnF]
    by_cases e : x = n
    · subst e; omega
    · have := mnF_le (m0 := m0) (F := F) (n := n) (x := x) (by omega); omega
theorem mnF_get {m0 : Nat} {F : Nat → Nat} : ∀ {n : Nat}, mnF m0 F n = m0 ∨ ∃ x, x < n ∧ mnF m0 F n = F x
  | 0 => .inl rfl
  | n + 1 => by
    simp only [mnF]
    rcases Nat.le_total (mnF m0 F n) (F n) with h | h
    · rw [Nat.min_eq_left h]
      rcases mnF_get (m0 := m0) (F := F) (n := n) with e | ⟨x, h1, h2⟩
      · exact .inl e
      · exact .inr ⟨x, by omega, h2⟩
    · rw [Nat.min_eq_right h]; exact .inr ⟨n, by omega, rfl⟩
def midF (n : Nat) (D : Nat → Nat → Nat) : Nat → List Nat := fun i => (List.range i).filter fun k => decide (rchF n D k = mnF n (rchF n D) n)
/-- the middle is what is taken off last -/
theorem last_cen {n : Nat} {l : List ZZ} {w : Nat → Nat} {D : Nat → Nat → Nat} (hw : Wd n l w) : ∀ (t left : Nat), RS n l D left → left ≠ 0 → (bitsN left).length ≤ t →
    ∀ x, ((rdsM w t left).getLastD 0).testBit x = true ↔ IsCen n (fun x => left.testBit x) D x
  | 0, left, h, h0, ht, x => absurd (bits_none h.lt (by omega)) h0
  | t + 1, left, h, h0, ht, x => by
    have hf := h.fuel hw h0
    have e : rdsM w (t + 1) left = offM w left :: rdsM w t (bcl left (offM w left)) := by simp [rdsM, h0]
    rw [e]
    by_cases e2 : bcl left (offM w left) = 0
    · have e3 : rdsM w t (bcl left (offM w left)) = [] := by
        rw [e2]
        cases t with
        | zero => rfl
        | succ t => simp [rdsM]
      rw [e3]
      have hall : ∀ y, left.testBit y = true → LfS (tieB l) (fun x => left.testBit x) y := fun y hy => by
        apply Classical.byContradiction
        intro hl
        have := (h.off hw y).2 ⟨hy, hl⟩
        rw [e2] at this; simp at this
      show (offM w left).testBit x = true ↔ _
      rw [offM_bit h.lt]
      constructor
      · rintro ⟨h1, _⟩; exact h.tree.cen_all h.inn hall h1
      · rintro ⟨h1, _⟩; exact ⟨h1, (off_leaf hw h h1).2 (hall x h1)⟩
    · obtain ⟨v, hv⟩ : ∃ v, (bcl left (offM w left)).testBit v = true := Nat.exists_testBit_of_ne_zero e2
      have ih := last_cen hw t _ (h.step hw) e2 (by omega) x
      have hne : rdsM w t (bcl left (offM w left)) ≠ [] := by
        cases t with
        | zero => exact absurd (bits_none (h.step hw).lt (by omega)) e2
        | succ t => simp [rdsM, e2]
      have eg : (offM w left :: rdsM w t (bcl left (offM w left))).getLastD 0 = (rdsM w t (bcl left (offM w left))).getLastD 0 := by
        cases hL : rdsM w t (bcl left (offM w left)) with
        | nil => exact absurd hL hne
        | cons a r => simp [List.getLastD]
      rw [eg, ih]
      exact (h.tree.cen_round h.inn (h.off hw) hv).symm
theorem ecc_all {n left x : Nat} {D : Nat → Nat → Nat} (h : ∀ y, left.testBit y = true ↔ y < n) : ecc n (fun x => left.testBit x) D x = rchF n D x := by
  unfold ecc rchF
  have : ∀ m, m ≤ n → mx m (fun y => if left.testBit y = true then D x y else 0) = mx m (D x) := fun m hm => by
    induction m with
    | zero => rfl
    | succ m ih =>
      simp only [mx]
      rw [ih (by omega), if_pos ((h m).2 (by omega))]
  exact this n (Nat.le_refl n)
theorem mid_same {n : Nat} {l : List ZZ} {w : Nat → Nat} {D : Nat → Nat → Nat} (hn : n ≤ 9) (h1 : 1 ≤ n) (hT : TM (fun x => x < n) (tieB l) D) (hw : Wd n l w) (hD : ∀ x y, x < n → y < n → D x y < n) : bitsN (lastM n w) = midF n D n := by
  have hR := RS.start hn hT
  have h0 : pw n - 1 ≠ 0 := by
    have := Nat.pow_le_pow_right (n := 2) (by decide) h1
    unfold pw; omega
  have hb : ∀ y, (pw n - 1).testBit y = true ↔ y < n := fun y => by rw [pwm_bit]; simp
  have hc := last_cen hw 9 _ hR h0 bitsN_len
  have hc' : ∀ x, (lastM n w).testBit x = true ↔ x < n ∧ ∀ y, y < n → rchF n D x ≤ rchF n D y := fun x => by
    have := hc x
    unfold IsCen at this
    simp only [ecc_all hb, hb] at this
    exact this
  have hle : ∀ x, x < n → rchF n D x < n := fun x hx => by
    have : rchF n D x ≤ n - 1 := mx_le fun y hy => by have := hD x y hx hy; omega
    omega
  have hmin : ∀ x, x < n → (rchF n D x = mnF n (rchF n D) n ↔ ∀ y, y < n → rchF n D x ≤ rchF n D y) := fun x hx => by
    constructor
    · intro e y hy; rw [e]; exact mnF_le hy
    · intro h
      have h2 := mnF_le (m0 := n) (F := rchF n D) hx
      rcases mnF_get (m0 := n) (F := rchF n D) (n := n) with e | ⟨y, hy, e⟩
      · have := hle x hx; omega
      · have := h y hy; omega
  have e9 : List.range 9 = List.range n ++ List.range' n (9 - n) := by
    rw [List.range_eq_range', List.range_eq_range']
    have := List.range'_append (s := 0) (m := n) (n := 9 - n) (step := 1)
    rw [← show n + (9 - n) = 9 by omega, ← this]; simp
  unfold bitsN midF
  rw [e9, List.filter_append]
  have e1 : (List.range' n (9 - n)).filter (lastM n w).testBit = [] := by
    rw [List.filter_eq_nil_iff]
    intro x hx hbx
    have := (hc' x).1 hbx
    have := (List.mem_range'_1.1 hx).1
    omega
  rw [e1, List.append_nil]
  refine List.filter_congr fun x hx => ?_
  have hx := List.mem_range.1 hx
  rw [Bool.eq_iff_iff, decide_eq_true_iff, hc', hmin x hx]
  exact ⟨fun h => h.2, fun h => ⟨hx, h⟩⟩
end Go.Proofs.Ytoipleipokpnaaa.Code
end
section
namespace Go.Proofs.Ytoipleipokpnaaa.Code
open Go Go.Ab
variable {pure : Bool} {base bar : Nat} {H : Heap} {Q : AV → Heap → Prop} {K : AV → Heap → List Nat → Prop}
/-- a list that grows from a literal of one number -/
def OA (a : Nat) (H0 : Heap) (l : List Nat) (v : AV) (H : Heap) : Prop := (l = [a] ∧ v = .lst 1 true [.int .i64 (a : Int)] ∧ H = H0) ∨ Grow 1 (nats l) H0 v H
theorem OA.add {a : Nat} {H0 : Heap} {x : Nat} {l : List Nat} {v : AV} {ex : Bool} (g : OA a H0 l v H) (hb : bar ≤ H0.length) (hbase : base ≤ H0.length) (hlen : l.length < 1000)
    (h : ∀ v' H' tc, OA a H0 (l ++ [x]) v' H' → K v' H' tc) : appWp base bar 1 8 (some v) (some (.lst 1 ex [.int .i64 (x : Int)])) H K := by
  rcases g with ⟨rfl, rfl, rfl⟩ | g
  · exact app_two (path := [x]) (by simp) (by simp) fun v' H' tc g' => h v' H' tc (.inr g')
  · exact g.nat hb hbase (by omega) fun v' H' tc g' => h v' H' tc (.inr g')
theorem OA.get {a : Nat} {H0 : Heap} {l : List Nat} {v : AV} {i : Nat} {b : Blk} (g : OA a H0 l v H) (h : H0[i]? = some b) : H[i]? = some b := by
  rcases g with ⟨rfl, rfl, rfl⟩ | g
  · exact h
  · exact g.get h
theorem OA.len {a : Nat} {H0 : Heap} {l : List Nat} {v : AV} (g : OA a H0 l v H) : H0.length ≤ H.length := by
  rcases g with ⟨rfl, rfl, rfl⟩ | g
  · exact Nat.le_refl _
  · exact g.len
theorem OA.frz {a : Nat} {H0 : Heap} {l : List Nat} {v : AV} {d : Nat} (g : OA a H0 l v H) (hb : bar ≤ H0.length) : ∃ u H', Go.Ab.frz (d + 3) bar H v = some (u, H') ∧ isL u l ∧ H'.take H0.length = H0 := by
  rcases g with ⟨rfl, rfl, rfl⟩ | g
  · exact ⟨_, _, rfl, .inr ⟨true, rfl⟩, by simp⟩
  · obtain ⟨H', h1, h2, h3, h4⟩ := g.frz (d := d) (bar := bar) (by omega) (Nat.one_dvd _) nats_plain hb
    exact ⟨_, _, h1, isL.out, h4⟩
theorem OA.one {a : Nat} {H0 : Heap} {l : List Nat} {v : AV} (g : OA a H0 l v H) : v.isTup = false := by
  rcases g with ⟨rfl, rfl, rfl⟩ | g
  · rfl
  · exact (Grow.one g).1
end Go.Proofs.Ytoipleipokpnaaa.Code
end
section
namespace Go.Proofs.Ytoipleipokpnaaa.Code
open Go Go.Ab
variable {pure : Bool} {base bar : Nat} {H : Heap} {Q : AV → Heap → Prop} {K : AV → Heap → List Nat → Prop}
/-! the reference: rounds -/
theorem bitsN_range {n s : Nat} (hn : n ≤ 9) (h : ∀ x, s.testBit x = true → x < n) : bitsN s = (List.range n).filter s.testBit := by
  have e9 : List.range 9 = List.range n ++ List.range' n (9 - n) := by
    rw [List.range_eq_range', List.range_eq_range']
    have := List.range'_append (s := 0) (m := n) (n := 9 - n) (step := 1)
    rw [← show n + (9 - n) = 9 by omega, ← this]; simp
  unfold bitsN
  rw [e9, List.filter_append]
  have e1 : (List.range' n (9 - n)).filter s.testBit = [] := by
    rw [List.filter_eq_nil_iff]
    intro x hx hbx
    have := h x hbx
    have := (List.mem_range'_1.1 hx).1
    omega
  rw [e1, List.append_nil]
theorem Grow.vix {L : List Nat} {H0 : Heap} {v : AV} (g : Grow 1 (nats L) H0 v H) {i : Nat} (hi : i < L.length) : ∃ p, (∀ {H' : Heap} {k : IntKind} {K : AV → Heap → List Nat → Prop}, ixaSWp 1 (some v) (some (.int k (i : Int))) H' K = K p H' []) ∧ ∀ {s : Nat}, aload H ⟨false, s⟩ p = some (.int .i64 ((L[i] : Nat) : Int)) := by
  rcases g with ⟨h1, rfl, rfl⟩ | ⟨ver, fz, h1, h2, rfl, rfl⟩
  · have : L = [] := by simpa [nats] using h1
    subst this; simp at hi
  · refine ⟨.ptr H0.length ver i, fun {H' k K} => by simp [go_sem, nats_len, hi], fun {s} => ?_⟩
    rw [aload_ptr (show (H0 ++ [Blk.row ver (nats L) fz false])[H0.length]? = some (.row ver (nats L) fz false) by simp), part_one]
    simp [nats, hi]
end Go.Proofs.Ytoipleipokpnaaa.Code
end
section
namespace Go.Proofs.Ytoipleipokpnaaa.Code
open Go Go.Ab
variable {pure : Bool} {base bar : Nat} {H : Heap} {Q : AV → Heap → Prop} {K : AV → Heap → List Nat → Prop}
end Go.Proofs.Ytoipleipokpnaaa.Code
end
section
namespace Go.Proofs.Ytoipleipokpnaaa.Code
open Go Go.Ab
variable {pure : Bool} {base bar : Nat} {H : Heap} {Q : AV → Heap → Prop} {K : AV → Heap → List Nat → Prop}
end Go.Proofs.Ytoipleipokpnaaa.Code
end
section
namespace Go.Proofs.Ytoipleipokpnaaa.Code
open Go Go.Ab
end Go.Proofs.Ytoipleipokpnaaa.Code
end
section
namespace Go.Proofs.Ytoipleipokpnaaa.Code
open Go Go.Ab
variable {pure : Bool} {base bar : Nat} {H : Heap} {Q : AV → Heap → Prop} {K : AV → Heap → List Nat → Prop}
theorem isSq.congr {v : AV} {n : Nat} {M M' : Mat} (h : isSq v n M) (hM : ∀ a b, a < n → b < n → M a b = M' a b) : isSq v n M' := by
  subst h
  unfold isSq
  congr 1
  refine List.map_congr_left fun i hi => ?_
  rw [dc_congr fun x hx => by rw [cRow, hM i x (List.mem_range.1 hi) hx]]
end Go.Proofs.Ytoipleipokpnaaa.Code
end
section
namespace Go.Proofs.Ytoipleipokpnaaa.Code
open Go Go.Ab
variable {pure : Bool} {base bar : Nat} {H : Heap} {Q : AV → Heap → Prop} {K : AV → Heap → List Nat → Prop}
end Go.Proofs.Ytoipleipokpnaaa.Code
end
section
namespace Go.Proofs.Ytoipleipokpnaaa.Code
open Go Go.Ab
variable {pure : Bool} {base bar : Nat} {H : Heap} {Q : AV → Heap → Prop} {K : AV → Heap → List Nat → Prop}
end Go.Proofs.Ytoipleipokpnaaa.Code
end
section
namespace Go.Proofs.Ytoipleipokpnaaa.Code
open Go Go.Ab
variable {pure : Bool} {base bar : Nat} {H : Heap} {Q : AV → Heap → Prop} {K : AV → Heap → List Nat → Prop}
end Go.Proofs.Ytoipleipokpnaaa.Code
end
section
namespace Go.Proofs.Ytoipleipokpnaaa.Code
open Go Go.Ab
end Go.Proofs.Ytoipleipokpnaaa.Code
end
section
/-
  Drawing a tree from a knot on: a plain law. The drawing does not change when the knots are given other numbers.
-/
namespace Go.Proofs.Ytoipleipokpnaaa.Code
/-! strings as lists of bytes, longer ones first -/
def lexL : List Nat → List Nat → Bool
  | [], _ => true
  | _ :: _, [] => false
  | x :: xs, y :: ys => if x = y then lexL xs ys else decide (x < y)
def leS (a b : List Nat) : Bool := if a.length = b.length then lexL a b else decide (b.length < a.length)
theorem lexL_refl : ∀ a, lexL a a = true
  | [] => rfl
  | x :: xs => by simp [lexL, lexL_refl xs]
theorem lexL_anti : ∀ {a b}, lexL a b = true → lexL b a = true → a = b
  | [], [], _, _ => rfl
  | [], _ :: _, _, h => by simp [lexL] at h
  | _ :: _, [], h, _ => by simp [lexL] at h
  | x :: xs, y :: ys, h1, h2 => by
    unfold lexL at h1 h2
    by_cases e : x = y
    · subst e
      rw [if_pos rfl] at h1 h2
      rw [lexL_anti h1 h2]
    · rw [if_neg e] at h1
      rw [if_neg (fun e' => e e'.symm)] at h2
      simp only [decide_eq_true_eq] at h1 h2
      omega
theorem lexL_total : ∀ a b, lexL a b = true ∨ lexL b a = true
  | [], _ => .inl rfl
  | _ :: _, [] => .inr rfl
  | x :: xs, y :: ys => by
    unfold lexL
    by_cases e : x = y
    · subst e; simpa using lexL_total xs ys
    · rw [if_neg e, if_neg (fun e' => e e'.symm)]
      simp only [decide_eq_true_eq]; omega
theorem lexL_trans : ∀ {a b c}, lexL a b = true → lexL b c = true → lexL a c = true
  | [], _, _, _, _ => rfl
  | _ :: _, [], _, h, _ => by simp [lexL] at h
  | _ :: _, _ :: _, [], _, h => by simp [lexL] at h
  | x :: xs, y :: ys, z :: zs, h1, h2 => by
    unfold lexL at *
    by_cases e1 : x = y
    · subst e1
      rw [if_pos rfl] at h1
      by_cases e2 : x = z
      · subst e2
        rw [if_pos rfl] at h2 ⊢
        exact lexL_trans h1 h2
      · rw [if_neg e2] at h2 ⊢; exact h2
    · rw [if_neg e1] at h1
      simp only [decide_eq_true_eq] at h1
      by_cases e2 : y = z
      · subst e2
        rw [if_neg e1]; simpa using h1
      · rw [if_neg e2] at h2
        simp only [decide_eq_true_eq] at h2
        rw [if_neg (by omega)]
        simp only [decide_eq_true_eq]; omega
theorem leS_anti {a b : List Nat} (h1 : leS a b = true) (h2 : leS b a = true) : a = b := by
  unfold leS at h1 h2
  by_cases e : a.length = b.length
  · rw [if_pos e] at h1; rw [if_pos e.symm] at h2
    exact lexL_anti h1 h2
  · rw [if_neg e] at h1; rw [if_neg (fun e' => e e'.symm)] at h2
    simp only [decide_eq_true_eq] at h1 h2; omega
theorem leS_total (a b : List Nat) : (leS a b || leS b a) = true := by
  unfold leS
  by_cases e : a.length = b.length
  · rw [if_pos e, if_pos e.symm, Bool.or_eq_true]; exact lexL_total a b
  · rw [if_neg e, if_neg (fun e' => e e'.symm)]; simp; omega
theorem leS_trans (a b c : List Nat) (h1 : leS a b = true) (h2 : leS b c = true) : leS a c = true := by
  unfold leS at *
  by_cases e1 : a.length = b.length <;> by_cases e2 : b.length = c.length
  · rw [if_pos e1] at h1; rw [if_pos e2] at h2; rw [if_pos (by omega)]; exact lexL_trans h1 h2
  · rw [if_neg e2] at h2; rw [if_neg (by omega)]; simp only [decide_eq_true_eq] at *; omega
  · rw [if_neg e1] at h1; rw [if_neg (by omega)]; simp only [decide_eq_true_eq] at *; omega
  · rw [if_neg e1] at h1; rw [if_neg e2] at h2; simp only [decide_eq_true_eq] at *
    rw [if_neg (by omega)]; simp only [decide_eq_true_eq]; omega
/-- a sorted arrangement is one alone -/
theorem perm_sorted {α : Type} {le : α → α → Prop} (anti : ∀ a b, le a b → le b a → a = b) : ∀ {L M : List α}, L.Perm M → L.Pairwise le → M.Pairwise le → L = M
  | [], M, h, _, _ => h.symm.eq_nil.symm
  | x :: xs, M, h, h1, h2 => by
    cases M with
    | nil => exact absurd h.eq_nil (by simp)
    | cons y ys =>
      obtain ⟨a1, a2⟩ := List.pairwise_cons.1 h1
      obtain ⟨b1, b2⟩ := List.pairwise_cons.1 h2
      have hx : x ∈ y :: ys := h.subset (List.mem_cons_self ..)
      have hy : y ∈ x :: xs := h.symm.subset (List.mem_cons_self ..)
      have e : x = y := by
        rcases List.mem_cons.1 hx with e | hx
        · exact e
        · rcases List.mem_cons.1 hy with e | hy
          · exact e.symm
          · exact anti _ _ (a1 y hy) (b1 x hx)
      subst e
      rw [perm_sorted anti (List.Perm.cons_inv h) a2 b2]
def sortS (l : List (List Nat)) : List (List Nat) := l.mergeSort leS
theorem sortS_perm {l m : List (List Nat)} (h : l.Perm m) : sortS l = sortS m := by
  refine perm_sorted (le := fun a b => leS a b = true) (fun a b => leS_anti) ?_ (List.pairwise_mergeSort leS_trans leS_total l) (List.pairwise_mergeSort leS_trans leS_total m)
  exact (List.mergeSort_perm l leS).trans (h.trans (List.mergeSort_perm m leS).symm)
/-- what hangs on a knot, less what it was reached from -/
def drawF (ch : Nat → List Nat) : Nat → Nat → Int → List Nat
  | 0, _, _ => []
  | t + 1, k, b => 91 :: ((sortS (((ch k).filter fun x : Nat => decide ((x : Int) ≠ b)).map fun x : Nat => drawF ch t x (k : Int))).flatten ++ [93])
/-- other numbers for the knots -/
theorem drawF_named {ch ch' : Nat → List Nat} {o : Nat → Nat} {n : Nat} (hin : ∀ k, k < n → ∀ x ∈ ch k, x < n) (ho : ∀ a b, a < n → b < n → o a = o b → a = b)
    (hch : ∀ k, k < n → (ch' (o k)).Perm ((ch k).map o)) : ∀ (t k : Nat) (b b' : Int), k < n → (b = -1 ∧ b' = -1 ∨ ∃ c, c < n ∧ b = (c : Int) ∧ b' = (o c : Int)) → drawF ch' t (o k) b' = drawF ch t k b
  | 0, _, _, _, _, _ => rfl
  | t + 1, k, b, b', hk, hb => by
    unfold drawF
    congr 2
    congr 1
    refine sortS_perm ?_
    have hp := ((hch k hk).filter fun x : Nat => decide ((x : Int) ≠ b')).map fun x : Nat => drawF ch' t x (o k : Int)
    refine hp.trans ?_
    rw [List.filter_map, List.map_map]
    have e1 : (ch k).filter ((fun x : Nat => decide ((x : Int) ≠ b')) ∘ o) = (ch k).filter fun x : Nat => decide ((x : Int) ≠ b) := by
      refine List.filter_congr fun x hx => ?_
      have hx' := hin k hk x hx
      simp only [Function.comp]
      rcases hb with ⟨rfl, rfl⟩ | ⟨c, hc, rfl, rfl⟩
      · simp
      · by_cases e : x = c
        · subst e; simp
        · have : o x ≠ o c := fun e' => e (ho x c hx' hc e')
          simp only [decide_eq_decide]
          omega
    rw [e1]
    refine List.Perm.of_eq (List.map_congr_left fun x hx => ?_)
    have hx' := hin k hk x (List.mem_filter.1 hx).1
    exact drawF_named hin ho hch t x (k : Int) (o k : Int) hx' (.inr ⟨k, hk, rfl, rfl⟩)
end Go.Proofs.Ytoipleipokpnaaa.Code
end
section
namespace Go.Proofs.Ytoipleipokpnaaa.Code
/-! drawings are told apart -/
inductive Dr : List Nat → Prop
  | mk (L : List (List Nat)) (h : ∀ x ∈ L, Dr x) : Dr (91 :: (L.flatten ++ [93]))
theorem Dr.head {a : List Nat} (h : Dr a) : ∃ r, a = 91 :: r := by
  cases h with
  | mk L h => exact ⟨_, rfl⟩
theorem dr_list {N : Nat} (ih : ∀ a b s s' : List Nat, a.length < N → Dr a → Dr b → a ++ s = b ++ s' → a = b ∧ s = s') : ∀ (L M : List (List Nat)) (s s' : List Nat), (∀ x ∈ L, Dr x) → (∀ x ∈ M, Dr x) → L.flatten.length < N → L.flatten ++ 93 :: s = M.flatten ++ 93 :: s' → L = M ∧ s = s'
  | [], [], s, s', _, _, _, h => by
    simp at h
    exact ⟨rfl, h⟩
  | [], y :: M, s, s', _, hM, _, h => by
    obtain ⟨r, rfl⟩ := (hM y (List.mem_cons_self ..)).head
    simp at h
  | x :: L, [], s, s', hL, _, _, h => by
    obtain ⟨r, rfl⟩ := (hL x (List.mem_cons_self ..)).head
    simp at h
  | x :: L, y :: M, s, s', hL, hM, hN, h => by
    rw [List.flatten_cons, List.flatten_cons, List.append_assoc, List.append_assoc] at h
    rw [List.flatten_cons, List.length_append] at hN
    obtain ⟨e1, e2⟩ := ih x y _ _ (by omega) (hL x (List.mem_cons_self ..)) (hM y (List.mem_cons_self ..)) h
    obtain ⟨e3, e4⟩ := dr_list ih L M s s' (fun z hz => hL z (List.mem_cons_of_mem _ hz)) (fun z hz => hM z (List.mem_cons_of_mem _ hz)) (by omega) e2
    exact ⟨by rw [e1, e3], e4⟩
theorem dr_cancel : ∀ (N : Nat) (a b s s' : List Nat), a.length < N → Dr a → Dr b → a ++ s = b ++ s' → a = b ∧ s = s'
  | 0, _, _, _, _, h, _, _, _ => by omega
  | N + 1, a, b, s, s', hN, ha, hb, h => by
    cases ha with
    | mk L hL =>
      cases hb with
      | mk M hM =>
        simp only [List.cons_append, List.append_assoc, List.nil_append, List.cons.injEq, true_and] at h
        simp only [List.length_cons, List.length_append, List.length_nil] at hN
        obtain ⟨e1, e2⟩ := dr_list (N := N) (dr_cancel N) L M s s' hL hM (by omega) h
        exact ⟨by rw [e1], e2⟩
theorem dr_parts {L M : List (List Nat)} (hL : ∀ x ∈ L, Dr x) (hM : ∀ x ∈ M, Dr x) (h : 91 :: (L.flatten ++ [93]) = 91 :: (M.flatten ++ [93])) : L = M := by
  injection h with _ h
  exact (dr_list (N := L.flatten.length + 1) (dr_cancel _) L M [] [] hL hM (by omega) h).1
theorem sortS_mem {l : List (List Nat)} {x : List Nat} : x ∈ sortS l ↔ x ∈ l := (List.mergeSort_perm l leS).mem_iff
/-- equal drawings have the same parts, in some order -/
theorem drawF_parts {ch ch' : Nat → List Nat} {t t' k k' : Nat} {b b' : Int} (h1 : ∀ x ∈ ch k, (x : Int) ≠ b → Dr (drawF ch t x (k : Int))) (h2 : ∀ x ∈ ch' k', (x : Int) ≠ b' → Dr (drawF ch' t' x (k' : Int)))
    (h : drawF ch (t + 1) k b = drawF ch' (t' + 1) k' b') :
    (((ch k).filter fun x : Nat => decide ((x : Int) ≠ b)).map fun x : Nat => drawF ch t x (k : Int)).Perm (((ch' k').filter fun x : Nat => decide ((x : Int) ≠ b')).map fun x : Nat => drawF ch' t' x (k' : Int)) := by
  unfold drawF at h
  have := dr_parts (fun x hx => by
    rw [sortS_mem] at hx
    obtain ⟨y, hy, rfl⟩ := List.mem_map.1 hx
    obtain ⟨m1, m2⟩ := List.mem_filter.1 hy
    exact h1 y m1 (by simpa using m2)) (fun x hx => by
    rw [sortS_mem] at hx
    obtain ⟨y, hy, rfl⟩ := List.mem_map.1 hx
    obtain ⟨m1, m2⟩ := List.mem_filter.1 hy
    exact h2 y m1 (by simpa using m2)) h
  refine (List.mergeSort_perm _ leS).symm.trans ?_
  have e := List.mergeSort_perm (((ch' k').filter fun x : Nat => decide ((x : Int) ≠ b')).map fun x : Nat => drawF ch' t' x (k' : Int)) leS
  unfold sortS at this
  rw [this]
  exact e
end Go.Proofs.Ytoipleipokpnaaa.Code
end
section
namespace Go.Proofs.Ytoipleipokpnaaa.Code
def maxL (a b : List Nat) : List Nat := if lexL a b then b else a
theorem maxL_le {a b c : List Nat} : lexL (maxL a b) c = true ↔ lexL a c = true ∧ lexL b c = true := by
  unfold maxL
  by_cases h : lexL a b = true
  · rw [if_pos h]; exact ⟨fun e => ⟨lexL_trans h e, e⟩, fun e => e.2⟩
  · rw [if_neg h]
    have h' : lexL b a = true := (lexL_total a b).resolve_left h
    exact ⟨fun e => ⟨e, lexL_trans h' e⟩, fun e => e.1⟩
theorem eq_of_le {a b : List Nat} (h : ∀ c, lexL a c = true ↔ lexL b c = true) : a = b := lexL_anti ((h b).2 (lexL_refl b)) ((h a).1 (lexL_refl a))
theorem maxL_nil (a : List Nat) : maxL [] a = a := by simp [maxL, lexL]
def topL (l : List (List Nat)) : List Nat := l.foldl maxL []
theorem topL_le {l : List (List Nat)} {c : List Nat} : lexL (topL l) c = true ↔ ∀ x ∈ l, lexL x c = true := by
  have : ∀ (l : List (List Nat)) (a : List Nat), lexL (l.foldl maxL a) c = true ↔ lexL a c = true ∧ ∀ x ∈ l, lexL x c = true := by
    intro l
    induction l with
    | nil => intro a; simp
    | cons y r ih =>
      intro a
      rw [List.foldl_cons, ih, maxL_le]
      simp [and_assoc]
  unfold topL
  rw [this]
  simp [lexL]
theorem topL_perm {l m : List (List Nat)} (h : l.Perm m) : topL l = topL m := eq_of_le fun c => by
  rw [topL_le, topL_le]
  exact ⟨fun e x hx => e x (h.symm.subset hx), fun e x hx => e x (h.subset hx)⟩
theorem topL_mem : ∀ {l : List (List Nat)}, l ≠ [] → topL l ∈ l := by
  have : ∀ (l : List (List Nat)) (a : List Nat), l.foldl maxL a = a ∨ l.foldl maxL a ∈ l := by
    intro l
    induction l with
    | nil => intro a; exact .inl rfl
    | cons y r ih =>
      intro a
      rw [List.foldl_cons]
      rcases ih (maxL a y) with e | e
      · rw [e]
        unfold maxL
        split
        · exact .inr (List.mem_cons_self ..)
        · exact .inl rfl
      · exact .inr (List.mem_cons_of_mem _ e)
  intro l hl
  cases l with
  | nil => exact absurd rfl hl
  | cons y r =>
    unfold topL
    rw [List.foldl_cons, maxL_nil]
    rcases this r y with e | e
    · rw [e]; exact List.mem_cons_self ..
    · exact List.mem_cons_of_mem _ e
/-- the shape: the greatest drawing from a middle on -/
def shapeF (ch : Nat → List Nat) (t : Nat) (mid : List Nat) : List Nat := topL (mid.map fun k => drawF ch t k (-1))
theorem shapeF_first {ch : Nat → List Nat} {t k : Nat} {r : List Nat} : shapeF ch t (k :: r) = (r.map fun k => drawF ch t k (-1)).foldl maxL (drawF ch t k (-1)) := by
  unfold shapeF topL
  rw [List.map_cons, List.foldl_cons, maxL_nil]
/-- the shape does not change under other numbers of the knots -/
theorem shapeF_named {ch ch' : Nat → List Nat} {o : Nat → Nat} {n t : Nat} {mid mid' : List Nat} (hin : ∀ k, k < n → ∀ x ∈ ch k, x < n) (ho : ∀ a b, a < n → b < n → o a = o b → a = b)
    (hch : ∀ k, k < n → (ch' (o k)).Perm ((ch k).map o)) (hm : ∀ k ∈ mid, k < n) (hmid : mid'.Perm (mid.map o)) : shapeF ch' t mid' = shapeF ch t mid := by
  unfold shapeF
  rw [topL_perm (hmid.map _), List.map_map]
  congr 1
  exact List.map_congr_left fun k hk => drawF_named hin ho hch t k (-1) (-1) (hm k hk) (.inl ⟨rfl, rfl⟩)
end Go.Proofs.Ytoipleipokpnaaa.Code
end
section
namespace Go.Proofs.Ytoipleipokpnaaa.Code
def ndsF (ch : Nat → List Nat) : Nat → Nat → Int → List Nat
  | 0, _, _ => []
  | t + 1, k, b => k :: (((ch k).filter fun x : Nat => decide ((x : Int) ≠ b)).flatMap fun x : Nat => ndsF ch t x (k : Int))
theorem drawF_len {ch : Nat → List Nat} : ∀ {t k : Nat} {b : Int}, (drawF ch t k b).length = 2 * (ndsF ch t k b).length
  | 0, _, _ => rfl
  | t + 1, k, b => by
    unfold drawF ndsF
    have h1 := fun L : List (List Nat) => (List.mergeSort_perm L leS).flatten.length_eq
    unfold sortS
    rw [List.length_cons, List.length_append, h1]
    have : ∀ L : List Nat, ((L.map fun x : Nat => drawF ch t x (k : Int)).flatten).length = 2 * (L.flatMap fun x : Nat => ndsF ch t x (k : Int)).length := by
      intro L
      induction L with
      | nil => rfl
      | cons x r ih =>
        rw [List.map_cons, List.flatten_cons, List.length_append, ih, drawF_len, List.flatMap_cons, List.length_append]
        omega
    rw [this, List.length_cons]
    simp
    omega
/-- a tree and the lists of its neighbours -/
structure TrC (n : Nat) (f : Nat → Nat → Bool) (D : Nat → Nat → Nat) (ch : Nat → List Nat) : Prop where
  tm : TM (fun x => x < n) f D
  lt : ∀ {x y}, x < n → y < n → D x y < n
  mem : ∀ {k x}, k < n → (x ∈ ch k ↔ f k x = true)
  nd : ∀ {k}, k < n → (ch k).Nodup
/-- a knot that is reached from another one, or that is the root -/
def Down (f : Nat → Nat → Bool) (D : Nat → Nat → Nat) (r k : Nat) (b : Int) : Prop := (b = -1 ∧ k = r) ∨ ∃ c : Nat, b = (c : Int) ∧ f k c = true ∧ D r c + 1 = D r k
variable {n : Nat} {f : Nat → Nat → Bool} {D : Nat → Nat → Nat} {ch : Nat → List Nat}
theorem TrC.down (h : TrC n f D ch) {r k x : Nat} {b : Int} (hr : r < n) (hk : k < n) (hd : Down f D r k b) (hx : x ∈ ch k) (hb : (x : Int) ≠ b) : x < n ∧ f x k = true ∧ D r x = D r k + 1 ∧ Down f D r x (k : Int) := by
  have hf := (h.mem hk).1 hx
  have hf' := h.tm.symF hf
  have e : D r x = D r k + 1 := by
    rcases h.tm.step hr hf with e | e
    · exact e
    · exfalso
      rcases hd with ⟨_, rfl⟩ | ⟨c, rfl, c1, c2⟩
      · rw [h.tm.zero hr] at e; omega
      · have hne : r ≠ k := fun e' => by subst e'; rw [h.tm.zero hr] at e; omega
        obtain ⟨p, _, _, p3⟩ := h.tm.par hr hk hne
        exact hb (by rw [p3 x hf e.symm, p3 c c1 c2])
  exact ⟨(h.tm.inV hf).2.1, hf', e, .inr ⟨k, rfl, hf', e.symm⟩⟩
theorem TrC.nds (h : TrC n f D ch) {r : Nat} (hr : r < n) : ∀ {t k : Nat} {b : Int}, k < n → Down f D r k b → ∀ y ∈ ndsF ch t k b, y < n ∧ D k y + D r k = D r y
  | 0, _, _, _, _ => fun y hy => by cases hy
  | t + 1, k, b, hk, hd => fun y hy => by
    unfold ndsF at hy
    rcases List.mem_cons.1 hy with rfl | hy
    · exact ⟨hk, by rw [h.tm.zero hk]; omega⟩
    · obtain ⟨x, hx, hy⟩ := List.mem_flatMap.1 hy
      obtain ⟨hx, hb⟩ := List.mem_filter.1 hx
      obtain ⟨x1, x2, x3, x4⟩ := h.down hr hk hd hx (of_decide_eq_true hb)
      obtain ⟨y1, y2⟩ := TrC.nds h hr x1 x4 y hy
      refine ⟨y1, ?_⟩
      have t1 := h.tm.tri hr hk _ y1 rfl
      have t2 := h.tm.tri hk x1 _ y1 rfl
      have t3 := h.tm.adj ((h.mem hk).1 hx)
      omega
theorem TrC.nodup (h : TrC n f D ch) {r : Nat} (hr : r < n) : ∀ {t k : Nat} {b : Int}, k < n → Down f D r k b → (ndsF ch t k b).Nodup
  | 0, _, _, _, _ => List.nodup_nil
  | t + 1, k, b, hk, hd => by
    unfold ndsF
    have hd' := fun x (hx : x ∈ ((ch k).filter fun x : Nat => decide ((x : Int) ≠ b))) => h.down hr hk hd (List.mem_filter.1 hx).1 (of_decide_eq_true (List.mem_filter.1 hx).2)
    refine List.nodup_cons.2 ⟨fun hy => ?_, ?_⟩
    · obtain ⟨x, hx, hy⟩ := List.mem_flatMap.1 hy
      obtain ⟨x1, x2, x3, x4⟩ := hd' x hx
      obtain ⟨y1, y2⟩ := h.nds hr x1 x4 k hy
      omega
    · refine List.pairwise_flatMap.2 ⟨fun x hx => ?_, ?_⟩
      · obtain ⟨x1, x2, x3, x4⟩ := hd' x hx
        exact TrC.nodup h hr x1 x4
      · refine List.Pairwise.imp_of_mem ?_ (List.Pairwise.filter _ (h.nd hk))
        intro x x' hx hx' hne y hy y' hy' e
        subst e
        obtain ⟨x1, x2, x3, x4⟩ := hd' x hx
        obtain ⟨z1, z2, z3, z4⟩ := hd' x' hx'
        obtain ⟨y1, y2⟩ := h.nds hr x1 x4 y hy
        obtain ⟨_, y3⟩ := h.nds hr z1 z4 y hy'
        have t1 := h.tm.tri hr hk _ y1 rfl
        have t2 := h.tm.tri hk x1 _ y1 rfl
        have t3 := h.tm.adj (h.tm.symF x2)
        have hyk : y ≠ k := fun e => by subst e; rw [h.tm.sym x1 y1, t3] at y2; omega
        obtain ⟨p, _, _, p3⟩ := h.tm.par y1 hk hyk
        have s1 := h.tm.sym y1 x1
        have s2 := h.tm.sym y1 z1
        have s3 := h.tm.sym y1 hk
        exact hne ((p3 x (h.tm.symF x2) (by omega)).trans (p3 x' (h.tm.symF z2) (by omega)).symm)
theorem nodup_lt : ∀ {n : Nat} {L : List Nat}, L.Nodup → (∀ x ∈ L, x < n) → L.length ≤ n
  | 0, L, _, h => by cases L with
    | nil => exact Nat.le_refl 0
    | cons x r => exact absurd (h x (List.mem_cons_self ..)) (by omega)
  | n + 1, L, h1, h2 => by
    have h3 : (L.erase n).length ≤ n := nodup_lt (h1.erase n) fun x hx => by
      have a := h2 x (List.mem_of_mem_erase hx)
      have b : x ≠ n := fun e => by subst e; exact (List.Nodup.not_mem_erase h1) hx
      omega
    have := List.length_erase (a := n) (l := L)
    split at this <;> omega
theorem TrC.len (h : TrC n f D ch) {r : Nat} (hr : r < n) {t k : Nat} {b : Int} (hk : k < n) (hd : Down f D r k b) : (drawF ch t k b).length ≤ 2 * n := by
  rw [drawF_len]
  have := nodup_lt (h.nodup hr (t := t) hk hd) fun y hy => (h.nds hr hk hd y hy).1
  omega
end Go.Proofs.Ytoipleipokpnaaa.Code
end
section
namespace Go.Proofs.Ytoipleipokpnaaa.Code
open Go Go.Ab
theorem TM.dle {n : Nat} {f f' : Nat → Nat → Bool} {D D' : Nat → Nat → Nat} {o : Nat → Nat} (h : TM (fun x => x < n) f D) (h' : TM (fun x => x < n) f' D') (ho : ∀ x, x < n → o x < n)
    (hf : ∀ x y, f x y = true → f' (o x) (o y) = true) : ∀ (m : Nat) {x y : Nat}, x < n → y < n → D x y = m → D' (o x) (o y) ≤ m
  | 0, x, y, hx, hy, e => by
    obtain rfl := h.eq hx hy e
    rw [h'.zero (ho _ hx)]
    exact Nat.le_refl 0
  | m + 1, x, y, hx, hy, e => by
    have hne : x ≠ y := fun e' => by subst e'; rw [h.zero hx] at e; omega
    obtain ⟨b, b1, b2, _⟩ := h.par hx hy hne
    have h1 := TM.dle h h' ho hf m hx (h.inV b1).2.1 (by omega)
    have h2 := h'.step (ho _ hx) (hf _ _ b1)
    omega
/-- other numbers, and back -/
structure Prm (n : Nat) (o i : Nat → Nat) : Prop where
  lo : ∀ x, x < n → o x < n
  li : ∀ x, x < n → i x < n
  oi : ∀ x, x < n → o (i x) = x
  io : ∀ x, x < n → i (o x) = x
variable {n : Nat} {o i : Nat → Nat} {l : List ZZ}
theorem Prm.inj (h : Prm n o i) {x y : Nat} (hx : x < n) (hy : y < n) (e : o x = o y) : x = y := by rw [← h.io x hx, e, h.io y hy]
theorem Prm.dist {f f' : Nat → Nat → Bool} {D D' : Nat → Nat → Nat} (hp : Prm n o i) (h : TM (fun x => x < n) f D) (h' : TM (fun x => x < n) f' D') (hf : ∀ x y, x < n → y < n → f' (o x) (o y) = f x y) {x y : Nat} (hx : x < n) (hy : y < n) : D' (o x) (o y) = D x y := by
  apply Nat.le_antisymm
  · refine h.dle h' hp.lo (fun a b hab => ?_) _ hx hy rfl
    obtain ⟨a1, b1, _⟩ := h.inV hab
    rw [hf a b a1 b1]; exact hab
  · have := h'.dle h (o := i) hp.li (fun a b hab => ?_) _ (hp.lo x hx) (hp.lo y hy) rfl
    · rw [hp.io x hx, hp.io y hy] at this; exact this
    · obtain ⟨a1, b1, _⟩ := h'.inV hab
      rw [← hf _ _ (hp.li a a1) (hp.li b b1), hp.oi a a1, hp.oi b b1]; exact hab
end Go.Proofs.Ytoipleipokpnaaa.Code
end
section
namespace Go.Proofs.Ytoipleipokpnaaa.Code
open Go Go.Ab
variable {n : Nat} {o i : Nat → Nat} {l l' : List ZZ} {D D' : Nat → Nat → Nat} {w w' : Nat → Nat}
theorem bitsN_nodup {s : Nat} : (bitsN s).Nodup := List.Pairwise.filter _ List.nodup_range
theorem map_nodup (hp : Prm n o i) {L : List Nat} (hL : ∀ x ∈ L, x < n) (h : L.Nodup) : (L.map o).Nodup := by
  refine List.pairwise_map.2 (List.Pairwise.imp_of_mem ?_ h)
  intro a b ha hb hne e
  exact hne (hp.inj (hL a ha) (hL b hb) e)
theorem ren_perm (hp : Prm n o i) {L M : List Nat} (hL : ∀ x ∈ L, x < n) (hM : ∀ x ∈ M, x < n) (nL : L.Nodup) (nM : M.Nodup) (h : ∀ x, x < n → (o x ∈ M ↔ x ∈ L)) : M.Perm (L.map o) := by
  refine (List.perm_ext_iff_of_nodup nM (map_nodup hp hL nL)).2 fun y => ?_
  rw [List.mem_map]
  constructor
  · intro hy
    have hy' := hM y hy
    refine ⟨i y, ?_, hp.oi y hy'⟩
    rw [← h (i y) (hp.li y hy'), hp.oi y hy']; exact hy
  · rintro ⟨x, hx, rfl⟩
    exact (h x (hL x hx)).2 hx
theorem bits_in (hw : Wd n l w) {k x : Nat} (hx : x ∈ bitsN (w k)) : x < n := (hw.inn k x ((mem_bitsN (hw.lt k)).1 hx)).2.1
theorem bits_ren (hp : Prm n o i) (hw : Wd n l w) (hw' : Wd n l' w') (hf : ∀ x y, x < n → y < n → tieB l' (o x) (o y) = tieB l x y) {k : Nat} (hk : k < n) : (bitsN (w' (o k))).Perm ((bitsN (w k)).map o) := by
  refine ren_perm hp (fun x => bits_in hw) (fun x => bits_in hw') bitsN_nodup bitsN_nodup fun x hx => ?_
  rw [mem_bitsN (hw'.lt _), mem_bitsN (hw.lt _), hw'.bit, hw.bit, hf k x hk hx]
theorem rch_ren (hp : Prm n o i) (hD : ∀ x y, x < n → y < n → D' (o x) (o y) = D x y) {x : Nat} (hx : x < n) : rchF n D' (o x) = rchF n D x := by
  unfold rchF
  apply Nat.le_antisymm
  · refine mx_le fun y hy => ?_
    have := hD x (i y) hx (hp.li y hy)
    rw [hp.oi y hy] at this
    rw [this]; exact le_mx (F := fun y => D x y) (hp.li y hy)
  · refine mx_le fun y hy => ?_
    rw [← hD x y hx hy]; exact le_mx (F := fun y => D' (o x) y) (hp.lo y hy)
theorem mn_ren (hp : Prm n o i) (hD : ∀ x y, x < n → y < n → D' (o x) (o y) = D x y) : mnF n (rchF n D') n = mnF n (rchF n D) n := by
  apply Nat.le_antisymm
  · rcases mnF_get (m0 := n) (F := rchF n D) (n := n) with e | ⟨x, hx, e⟩
    · rw [e]
      have : ∀ (F : Nat → Nat) m, mnF n F m ≤ n := fun F m => by
        induction m with
        | zero => exact Nat.le_refl _
        | succ m ih => simp only [mnF]; omega
      exact this _ _
    · rw [e, ← rch_ren hp hD hx]; exact mnF_le (hp.lo x hx)
  · rcases mnF_get (m0 := n) (F := rchF n D') (n := n) with e | ⟨x, hx, e⟩
    · rw [e]
      have : ∀ (F : Nat → Nat) m, mnF n F m ≤ n := fun F m => by
        induction m with
        | zero => exact Nat.le_refl _
        | succ m ih => simp only [mnF]; omega
      exact this _ _
    · have e2 := rch_ren hp hD (hp.li x hx)
      rw [hp.oi x hx] at e2
      rw [e, e2]; exact mnF_le (hp.li x hx)
theorem mid_in {x : Nat} : x ∈ midF n D n ↔ x < n ∧ rchF n D x = mnF n (rchF n D) n := by
  unfold midF
  rw [List.mem_filter, List.mem_range, decide_eq_true_iff]
theorem mid_ren (hp : Prm n o i) (hD : ∀ x y, x < n → y < n → D' (o x) (o y) = D x y) {x : Nat} (hx : x < n) : o x ∈ midF n D' n ↔ x ∈ midF n D n := by
  rw [mid_in, mid_in, mn_ren hp hD, rch_ren hp hD hx]
  exact ⟨fun e => ⟨hx, e.2⟩, fun e => ⟨hp.lo x hx, e.2⟩⟩
theorem mid_perm (hp : Prm n o i) (hD : ∀ x y, x < n → y < n → D' (o x) (o y) = D x y) : (midF n D' n).Perm ((midF n D n).map o) :=
  ren_perm hp (fun x h => (mid_in.1 h).1) (fun x h => (mid_in.1 h).1) (List.Pairwise.filter _ List.nodup_range) (List.Pairwise.filter _ List.nodup_range) fun x hx => mid_ren hp hD hx
def chW (w : Nat → Nat) (k : Nat) : List Nat := bitsN (w k)
theorem shape_ren (hp : Prm n o i) (hD : ∀ x y, x < n → y < n → D' (o x) (o y) = D x y) (hw : Wd n l w) (hw' : Wd n l' w') (hf : ∀ x y, x < n → y < n → tieB l' (o x) (o y) = tieB l x y) : shapeF (chW w') n (midF n D' n) = shapeF (chW w) n (midF n D n) :=
  shapeF_named (n := n) (o := o) (fun k hk x hx => bits_in hw hx) (fun a b ha hb e => hp.inj ha hb e) (fun k hk => bits_ren hp hw hw' hf hk) (fun k hk => (mid_in.1 hk).1) (mid_perm hp hD)
end Go.Proofs.Ytoipleipokpnaaa.Code
end
section
namespace Go.Proofs.Ytoipleipokpnaaa.Code
variable {n n' : Nat} {f f' : Nat → Nat → Bool} {D D' : Nat → Nat → Nat} {ch ch' : Nat → List Nat}
theorem TrC.dr (h : TrC n f D ch) {r : Nat} (hr : r < n) : ∀ {t k : Nat} {b : Int}, k < n → Down f D r k b → t + D r k = n → Dr (drawF ch t k b)
  | 0, k, b, hk, hd, ht => by have := h.lt hr hk; omega
  | t + 1, k, b, hk, hd, ht => by
    unfold drawF
    refine Dr.mk _ fun x hx => ?_
    rw [sortS_mem] at hx
    obtain ⟨y, hy, rfl⟩ := List.mem_map.1 hx
    obtain ⟨m1, m2⟩ := List.mem_filter.1 hy
    obtain ⟨x1, x2, x3, x4⟩ := h.down hr hk hd m1 (of_decide_eq_true m2)
    exact TrC.dr h hr x1 x4 (by omega)
/-- all knots are drawn -/
theorem TrC.all (h : TrC n f D ch) {r : Nat} (hr : r < n) : ∀ {t k : Nat} {b : Int} {y : Nat}, k < n → Down f D r k b → y < n → D k y + D r k = D r y → D k y < t → y ∈ ndsF ch t k b
  | 0, _, _, _, _, _, _, _, ht => by omega
  | t + 1, k, b, y, hk, hd, hy, e, ht => by
    unfold ndsF
    by_cases hne : y = k
    · rw [hne]; exact List.mem_cons_self ..
    · refine List.mem_cons_of_mem _ (List.mem_flatMap.2 ?_)
      obtain ⟨x, x1, x2, _⟩ := h.tm.par hy hk hne
      have hx := (h.tm.inV x1).2.1
      have s1 := h.tm.sym hy hx
      have s2 := h.tm.sym hy hk
      have t1 := h.tm.tri hr hx _ hy rfl
      have t2 := h.tm.step hr x1
      have e3 : D r x = D r k + 1 := by omega
      refine ⟨x, List.mem_filter.2 ⟨(h.mem hk).2 x1, decide_eq_true fun e' => ?_⟩, ?_⟩
      · rcases hd with ⟨rfl, _⟩ | ⟨c, rfl, c1, c2⟩
        · omega
        · have : x = c := by omega
          subst this; omega
      · obtain ⟨_, _, _, d4⟩ := h.down hr hk hd ((h.mem hk).2 x1) (fun e' => by
          rcases hd with ⟨rfl, _⟩ | ⟨c, rfl, c1, c2⟩
          · omega
          · have : x = c := by omega
            subst this; omega)
        exact TrC.all h hr hx d4 hy (by omega) (by omega)
theorem map_perm {α β γ : Type} {g : α → γ} {g' : β → γ} : ∀ {L : List α} {M : List β}, (L.map g).Perm (M.map g') → ∃ M' : List β, M'.Perm M ∧ L.map g = M'.map g'
  | [], M, h => by
    have : M = [] := by simpa using h.symm.eq_nil
    exact ⟨[], by rw [this], rfl⟩
  | x :: L, M, h => by
    have hx : g x ∈ M.map g' := h.subset (by simp)
    obtain ⟨y, hy, e⟩ := List.mem_map.1 hx
    obtain ⟨A, B, rfl⟩ := List.append_of_mem hy
    have h2 : (L.map g).Perm ((A ++ B).map g') := by
      rw [List.map_append, List.map_cons, List.map_cons, e] at h
      rw [List.map_append]
      exact List.Perm.cons_inv (h.trans List.perm_middle)
    obtain ⟨M', p1, p2⟩ := map_perm h2
    exact ⟨y :: M', ((List.Perm.cons y p1).trans List.perm_middle.symm), by rw [List.map_cons, List.map_cons, p2, e]⟩
/-- the pairs of two equal drawings -/
structure Prs (f f' : Nat → Nat → Bool) (D D' : Nat → Nat → Nat) (r r' : Nat) (N N' : List Nat) (k k' : Nat) (P : List (Nat × Nat)) : Prop where
  one : (P.map Prod.fst).Perm N
  two : (P.map Prod.snd).Perm N'
  top : (k, k') ∈ P
  par : ∀ q ∈ P, q = (k, k') ∨ ∃ p ∈ P, f p.1 q.1 = true ∧ f' p.2 q.2 = true ∧ D r p.1 + 1 = D r q.1 ∧ D' r' p.2 + 1 = D' r' q.2
theorem prs_list {r r' t t' k k' : Nat} (h : TrC n f D ch) (h' : TrC n' f' D' ch') (hr : r < n) (hr' : r' < n') (hk : k < n) (hk' : k' < n')
    (ih : ∀ (x x' : Nat), x < n → x' < n' → Down f D r x (k : Int) → Down f' D' r' x' (k' : Int) → t + D r x = n → t' + D' r' x' = n' → drawF ch t x (k : Int) = drawF ch' t' x' (k' : Int) → ∃ P, Prs f f' D D' r r' (ndsF ch t x (k : Int)) (ndsF ch' t' x' (k' : Int)) x x' P) :
    ∀ (L L' : List Nat), (∀ x ∈ L, f k x = true ∧ x < n ∧ D r x = D r k + 1 ∧ Down f D r x (k : Int) ∧ t + D r x = n) → (∀ x ∈ L', f' k' x = true ∧ x < n' ∧ D' r' x = D' r' k' + 1 ∧ Down f' D' r' x (k' : Int) ∧ t' + D' r' x = n') →
    L.map (fun x => drawF ch t x (k : Int)) = L'.map (fun x => drawF ch' t' x (k' : Int)) →
    ∃ P : List (Nat × Nat), (P.map Prod.fst).Perm (L.flatMap fun x => ndsF ch t x (k : Int)) ∧ (P.map Prod.snd).Perm (L'.flatMap fun x => ndsF ch' t' x (k' : Int)) ∧ ∀ q ∈ P, (f k q.1 = true ∧ f' k' q.2 = true ∧ D r k + 1 = D r q.1 ∧ D' r' k' + 1 = D' r' q.2) ∨ ∃ p ∈ P, f p.1 q.1 = true ∧ f' p.2 q.2 = true ∧ D r p.1 + 1 = D r q.1 ∧ D' r' p.2 + 1 = D' r' q.2
  | [], [], _, _, _ => ⟨[], List.Perm.refl _, List.Perm.refl _, fun q hq => by cases hq⟩
  | [], _ :: _, _, _, e => by simp at e
  | _ :: _, [], _, _, e => by simp at e
  | x :: L, x' :: L', hL, hL', e => by
    rw [List.map_cons, List.map_cons] at e
    injection e with e1 e2
    obtain ⟨a1, a2, a3, a4, a5⟩ := hL x (List.mem_cons_self ..)
    obtain ⟨b1, b2, b5, b3, b4⟩ := hL' x' (List.mem_cons_self ..)
    obtain ⟨P, hP⟩ := ih x x' a2 b2 a4 b3 a5 b4 e1
    obtain ⟨P2, p1, p2, p3⟩ := prs_list h h' hr hr' hk hk' ih L L' (fun y hy => hL y (List.mem_cons_of_mem _ hy)) (fun y hy => hL' y (List.mem_cons_of_mem _ hy)) e2
    refine ⟨P ++ P2, ?_, ?_, fun q hq => ?_⟩
    · rw [List.map_append, List.flatMap_cons]; exact hP.one.append p1
    · rw [List.map_append, List.flatMap_cons]; exact hP.two.append p2
    · rcases List.mem_append.1 hq with hq | hq
      · rcases hP.par q hq with rfl | ⟨p, c1, c2⟩
        · exact .inl ⟨a1, b1, a3.symm, b5.symm⟩
        · exact .inr ⟨p, List.mem_append_left _ c1, c2⟩
      · rcases p3 q hq with c | ⟨p, c1, c2⟩
        · exact .inl c
        · exact .inr ⟨p, List.mem_append_right _ c1, c2⟩
theorem prs_ex {r r' : Nat} (h : TrC n f D ch) (h' : TrC n' f' D' ch') (hr : r < n) (hr' : r' < n') : ∀ (t t' k k' : Nat) (b b' : Int), k < n → k' < n' → Down f D r k b → Down f' D' r' k' b' → t + D r k = n → t' + D' r' k' = n' →
    drawF ch t k b = drawF ch' t' k' b' → ∃ P, Prs f f' D D' r r' (ndsF ch t k b) (ndsF ch' t' k' b') k k' P
  | 0, _, k, _, _, _, hk, _, _, _, ht, _, _ => by have := h.lt hr hk; omega
  | t + 1, 0, _, k', _, _, _, hk', _, _, _, ht', _ => by have := h'.lt hr' hk'; omega
  | t + 1, t' + 1, k, k', b, b', hk, hk', hd, hd', ht, ht', e => by
    have d1 := fun x (hx : x ∈ ch k) hb => h.down hr hk hd hx hb
    have d2 := fun x (hx : x ∈ ch' k') hb => h'.down hr' hk' hd' hx hb
    have hp := drawF_parts (fun x hx hb => h.dr hr (d1 x hx hb).1 (d1 x hx hb).2.2.2 (by have := (d1 x hx hb).2.2.1; omega)) (fun x hx hb => h'.dr hr' (d2 x hx hb).1 (d2 x hx hb).2.2.2 (by have := (d2 x hx hb).2.2.1; omega)) e
    obtain ⟨M, m1, m2⟩ := map_perm hp
    obtain ⟨P, p1, p2, p3⟩ := prs_list h h' hr hr' hk hk' (fun x x' hx hx' a1 a2 a3 a4 a5 => prs_ex h h' hr hr' t t' x x' _ _ hx hx' a1 a2 a3 a4 a5) _ M (fun x hx => by
        obtain ⟨c1, c2⟩ := List.mem_filter.1 hx
        obtain ⟨x1, x2, x3, x4⟩ := d1 x c1 (of_decide_eq_true c2)
        exact ⟨h.tm.symF x2, x1, x3, x4, by omega⟩) (fun x hx => by
        have hx2 := m1.mem_iff.1 hx
        obtain ⟨c1, c2⟩ := List.mem_filter.1 hx2
        obtain ⟨x1, x2, x3, x4⟩ := d2 x c1 (of_decide_eq_true c2)
        exact ⟨h'.tm.symF x2, x1, x3, x4, by omega⟩) m2
    refine ⟨(k, k') :: P, ?_, ?_, List.mem_cons_self .., fun q hq => ?_⟩
    · unfold ndsF
      rw [List.map_cons]; exact List.Perm.cons k p1
    · unfold ndsF
      rw [List.map_cons]; exact List.Perm.cons k' (p2.trans (m1.flatMap_right _))
    · rcases List.mem_cons.1 hq with e | hq
      · exact .inl e
      · rcases p3 q hq with ⟨c1, c2, c3⟩ | ⟨p, c1, c2⟩
        · exact .inr ⟨(k, k'), List.mem_cons_self .., c1, c2, c3⟩
        · exact .inr ⟨p, List.mem_cons_of_mem _ c1, c2⟩
end Go.Proofs.Ytoipleipokpnaaa.Code
end
section
namespace Go.Proofs.Ytoipleipokpnaaa.Code
variable {n n' : Nat} {f f' : Nat → Nat → Bool} {D D' : Nat → Nat → Nat} {ch ch' : Nat → List Nat}
def lookP (P : List (Nat × Nat)) (x : Nat) : Nat := ((P.find? fun p => p.1 == x).map Prod.snd).getD 0
theorem lookP_eq : ∀ {P : List (Nat × Nat)}, (P.map Prod.fst).Nodup → ∀ {x y : Nat}, (x, y) ∈ P → lookP P x = y
  | [], _, _, _, h => by cases h
  | p :: P, hn, x, y, h => by
    rw [List.map_cons, List.nodup_cons] at hn
    unfold lookP
    rw [List.find?_cons]
    rcases List.mem_cons.1 h with rfl | h
    · simp
    · have : p.1 ≠ x := fun e => hn.1 (e ▸ List.mem_map.2 ⟨_, h, rfl⟩)
      rw [show (p.1 == x) = false by simpa using this]
      exact lookP_eq hn.2 h
theorem TrC.range (h : TrC n f D ch) {r : Nat} (hr : r < n) : (ndsF ch n r (-1)).Perm (List.range n) := by
  refine (List.perm_ext_iff_of_nodup (h.nodup hr hr (.inl ⟨rfl, rfl⟩)) List.nodup_range).2 fun y => ?_
  rw [List.mem_range]
  constructor
  · exact fun hy => (h.nds hr hr (.inl ⟨rfl, rfl⟩) y hy).1
  · intro hy
    refine h.all hr hr (.inl ⟨rfl, rfl⟩) hy ?_ (h.lt hr hy)
    rw [h.tm.zero hr]; rfl
theorem iso_ex {r r' : Nat} (h : TrC n f D ch) (h' : TrC n' f' D' ch') (hr : r < n) (hr' : r' < n') (e : drawF ch n r (-1) = drawF ch' n' r' (-1)) :
    n = n' ∧ ∃ o i, Prm n o i ∧ ∀ x y, x < n → y < n → f' (o x) (o y) = f x y := by
  obtain ⟨P, hP⟩ := prs_ex h h' hr hr' n n' r r' (-1) (-1) hr hr' (.inl ⟨rfl, rfl⟩) (.inl ⟨rfl, rfl⟩) (by rw [h.tm.zero hr]; omega) (by rw [h'.tm.zero hr']; omega) e
  have p1 := hP.one.trans (h.range hr)
  have p2 := hP.two.trans (h'.range hr')
  have en : n = n' := by
    have a := p1.length_eq
    have b := p2.length_eq
    rw [List.length_map, List.length_range] at a b
    omega
  subst en
  have n1 : (P.map Prod.fst).Nodup := p1.nodup_iff.2 List.nodup_range
  have n2 : ((P.map Prod.swap).map Prod.fst).Nodup := by
    rw [List.map_map, show (Prod.fst ∘ Prod.swap : Nat × Nat → Nat) = Prod.snd from rfl]
    exact p2.nodup_iff.2 List.nodup_range
  have l1 : ∀ {x y}, (x, y) ∈ P → lookP P x = y := fun hxy => lookP_eq n1 hxy
  have l2 : ∀ {x y}, (x, y) ∈ P → lookP (P.map Prod.swap) y = x := fun hxy => lookP_eq n2 (List.mem_map.2 ⟨_, hxy, rfl⟩)
  have m1 : ∀ {x}, x < n → ∃ y, y < n ∧ (x, y) ∈ P := fun {x} hx => by
    obtain ⟨⟨a, b⟩, hq, rfl⟩ := List.mem_map.1 (p1.mem_iff.2 (List.mem_range.2 hx))
    exact ⟨b, List.mem_range.1 (p2.mem_iff.1 (List.mem_map.2 ⟨_, hq, rfl⟩)), hq⟩
  have m2 : ∀ {y}, y < n → ∃ x, x < n ∧ (x, y) ∈ P := fun {y} hy => by
    obtain ⟨⟨a, b⟩, hq, rfl⟩ := List.mem_map.1 (p2.mem_iff.2 (List.mem_range.2 hy))
    exact ⟨a, List.mem_range.1 (p1.mem_iff.1 (List.mem_map.2 ⟨_, hq, rfl⟩)), hq⟩
  have hp : Prm n (lookP P) (lookP (P.map Prod.swap)) := by
    refine ⟨fun x hx => ?_, fun y hy => ?_, fun y hy => ?_, fun x hx => ?_⟩
    · obtain ⟨y, y1, y2⟩ := m1 hx; rw [l1 y2]; exact y1
    · obtain ⟨x, x1, x2⟩ := m2 hy; rw [l2 x2]; exact x1
    · obtain ⟨x, x1, x2⟩ := m2 hy; rw [l2 x2, l1 x2]
    · obtain ⟨y, y1, y2⟩ := m1 hx; rw [l1 y2, l2 y2]
  have go : ∀ {x y}, f x y = true → D r y = D r x + 1 → f' (lookP P x) (lookP P y) = true := fun {x y} hxy hd => by
    obtain ⟨hx, hy, _⟩ := h.tm.inV hxy
    obtain ⟨y', y1, y2⟩ := m1 hy
    rw [l1 y2]
    have hne : r ≠ y := fun e => by subst e; rw [h.tm.zero hr] at hd; omega
    rcases hP.par _ y2 with e | ⟨⟨p, p'⟩, c1, c2, c3, c4, _⟩
    · exact absurd (congrArg Prod.fst e).symm hne
    · obtain ⟨b, _, _, b3⟩ := h.tm.par hr hy hne
      have e1 := b3 p (h.tm.symF c2) c4
      have e2 := b3 x (h.tm.symF hxy) hd.symm
      rw [← e2] at e1
      subst e1
      rw [l1 c1]; exact c3
  have back : ∀ {x y}, f' x y = true → D' r' y = D' r' x + 1 → f (lookP (P.map Prod.swap) x) (lookP (P.map Prod.swap) y) = true := fun {x y} hxy hd => by
    obtain ⟨hx, hy, _⟩ := h'.tm.inV hxy
    obtain ⟨y', y1, y2⟩ := m2 hy
    rw [l2 y2]
    have hne : r' ≠ y := fun e => by subst e; rw [h'.tm.zero hr'] at hd; omega
    rcases hP.par _ y2 with e | ⟨⟨p, p'⟩, c1, c2, c3, _, c4⟩
    · exact absurd (congrArg Prod.snd e).symm hne
    · obtain ⟨b, _, _, b3⟩ := h'.tm.par hr' hy hne
      have e1 := b3 p' (h'.tm.symF c3) c4
      have e2 := b3 x (h'.tm.symF hxy) hd.symm
      rw [← e2] at e1
      subst e1
      rw [l2 c1]; exact c2
  refine ⟨rfl, _, _, hp, fun x y hx hy => ?_⟩
  rw [Bool.eq_iff_iff]
  constructor
  · intro hxy
    rcases h'.tm.step hr' hxy with d | d
    · have := back hxy d
      rwa [hp.io x hx, hp.io y hy] at this
    · have := back (h'.tm.symF hxy) d
      rw [hp.io x hx, hp.io y hy] at this
      exact h.tm.symF this
  · intro hxy
    rcases h.tm.step hr hxy with d | d
    · exact go hxy d
    · exact h'.tm.symF (go (h.tm.symF hxy) d)
end Go.Proofs.Ytoipleipokpnaaa.Code
end
section
namespace Go.Proofs.Ytoipleipokpnaaa.Code
open Go Go.Ab
variable {pure : Bool} {base bar : Nat} {H : Heap} {Q : AV → Heap → Prop} {K : AV → Heap → List Nat → Prop}
/-! comparing drawings -/
theorem k88 {a : Int} (h : Q (.bool false) H) : WpCall E pure base bar 88 [.int .i64 a] H Q := by
  rw [call88]
  simp [go_sem, WpFun, c88]
  exact h
def cmpI (a b : Int) : Int := if a < b then -1 else if b < a then 1 else 0
theorem k83 {a b : Int} (h : Q (.int .i64 (cmpI a b)) H) : WpCall E pure base bar 83 [.int .i64 a, .int .i64 b] H Q := by
  unfold cmpI at h
  rw [call83]
  simp [go_sem, WpFun, c83]
  refine k88 ?_
  simp [go_sem]
  refine k88 ?_
  by_cases h1 : a < b
  · rw [if_pos h1] at h
    simp [go_sem, h1]
    exact h
  · rw [if_neg h1] at h
    by_cases h2 : b < a
    · rw [if_pos h2] at h
      simp [go_sem, h1, h2]
      exact h
    · rw [if_neg h2] at h
      simp [go_sem, h1, h2]
      exact h
theorem k82 {ex : Bool} {a b : Int} (h : Q (.int .i64 (if a = 0 then b else a)) H) : WpCall E pure base bar 82 [.lst 1 ex [.int .i64 a, .int .i64 b]] H Q := by
  rw [call82]
  have e0 : frzAll bar H [.lst 1 ex [.int .i64 a, .int .i64 b]] = some ([.lst 1 ex [.int .i64 a, .int .i64 b]], H) := rfl
  rw [e0]
  have hw1 : IntKind.i64.wrap 1 = 1 := rfl
  have hw2 : IntKind.i64.wrap 2 = 2 := rfl
  simp [go_sem, WpFun, c82]
  rw [wp_round c82_l0.eq_1]
  by_cases h1 : a = 0
  · rw [if_pos h1] at h
    simp [go_sem, aload, h1, hw1]
    try rw [wp_round c82_l0.eq_1]
    by_cases h2 : b = 0
    · rw [h2] at h
      simp [go_sem, aload, h2, hw1, hw2]
      try rw [wp_round c82_l0.eq_1]
      try simp [go_sem]
      exact h
    · simp [go_sem, aload, h2, hw1, hw2]
      exact h
  · rw [if_neg h1] at h
    simp [go_sem, aload, h1]
    exact h
theorem k84 {x y : ByteArray} (h : Q (.int .i64 (Lib.compareBytes x.data.toList y.data.toList)) H) : WpCall E pure base bar 84 [.str x, .str y] H Q := by
  refine (wpcall_known (v := .int .i64 (Lib.compareBytes x.data.toList y.data.toList)) (by rfl) (by rfl) (by rfl)).2 ?_
  exact h
theorem k81 {x y : ByteArray} (hx : x.size < 1000000) (hy : y.size < 1000000) (h : Q (.int .i64 (if cmpI y.size x.size = 0 then Lib.compareBytes x.data.toList y.data.toList else cmpI y.size x.size)) H) : WpCall E pure base bar 81 [.str x, .str y] H Q := by
  rw [call81]
  have e0 : frzAll bar H [.str x, .str y] = some ([.str x, .str y], H) := rfl
  rw [e0]
  simp [go_sem, WpFun, c81, aop, Opd.ev]
  refine k83 ?_
  simp [go_sem]
  refine k84 ?_
  simp [go_sem, aop, Opd.ev, evs, fillA, chunks]
  refine k82 ?_
  simp [go_sem]
  exact h
end Go.Proofs.Ytoipleipokpnaaa.Code
end
section
namespace Go.Proofs.Ytoipleipokpnaaa.Code
open Go Go.Ab
/-! strings of the program as lists of numbers -/
def lstB (s : ByteArray) : List Nat := s.data.toList.map UInt8.toNat
theorem lstB_len {s : ByteArray} : (lstB s).length = s.size := by
  unfold lstB
  rw [List.length_map, Array.length_toList]
  rfl
theorem lstB_inj {s t : ByteArray} (h : lstB s = lstB t) : s = t := by
  have inj : ∀ (a b : List UInt8), a.map UInt8.toNat = b.map UInt8.toNat → a = b := by
    intro a
    induction a with
    | nil => intro b e; cases b with
      | nil => rfl
      | cons y ys => simp at e
    | cons x xs ih => intro b e; cases b with
      | nil => simp at e
      | cons y ys =>
        simp only [List.map_cons, List.cons.injEq] at e
        rw [UInt8.toNat_inj.1 e.1, ih ys e.2]
  have h1 : s.data.toList = t.data.toList := inj _ _ h
  have h2 : s.data = t.data := Array.ext' h1
  cases s; cases t
  simp only at h2
  rw [h2]
theorem cmp_lex : ∀ (a b : List UInt8), Lib.compareBytes a b < 0 ↔ lexL (b.map UInt8.toNat) (a.map UInt8.toNat) = false
  | [], [] => by simp [Lib.compareBytes, lexL]
  | [], y :: ys => by simp [Lib.compareBytes, lexL]
  | x :: xs, [] => by simp [Lib.compareBytes, lexL]
  | x :: xs, y :: ys => by
    have ih := cmp_lex xs ys
    unfold Lib.compareBytes
    simp only [List.map_cons, lexL]
    by_cases h1 : x < y
    · have h1' : x.toNat < y.toNat := UInt8.lt_iff_toNat_lt.1 h1
      rw [if_pos h1, if_neg (by omega)]
      simp; omega
    · have h1' : ¬ x.toNat < y.toNat := fun e => h1 (UInt8.lt_iff_toNat_lt.2 e)
      rw [if_neg h1]
      by_cases h2 : y < x
      · have h2' : y.toNat < x.toNat := UInt8.lt_iff_toNat_lt.1 h2
        rw [if_pos h2, if_neg (by omega)]
        simp; omega
      · have h2' : ¬ y.toNat < x.toNat := fun e => h2 (UInt8.lt_iff_toNat_lt.2 e)
        rw [if_neg h2, if_pos (by omega)]
        exact ih
def sgnB (x y : ByteArray) : Int := if cmpI y.size x.size = 0 then Lib.compareBytes x.data.toList y.data.toList else cmpI y.size x.size
theorem sgnB_lt {x y : ByteArray} : sgnB x y < 0 ↔ leS (lstB y) (lstB x) = false := by
  unfold sgnB leS cmpI
  rw [lstB_len, lstB_len]
  rcases Nat.lt_trichotomy y.size x.size with h | h | h
  · rw [if_pos (show (y.size : Int) < x.size by omega), if_neg (show ¬ y.size = x.size by omega)]
    simp; omega
  · rw [if_neg (show ¬ (y.size : Int) < x.size by omega), if_neg (show ¬ (x.size : Int) < y.size by omega), if_pos h]
    simp only [if_true]
    exact cmp_lex _ _
  · rw [if_neg (show ¬ (y.size : Int) < x.size by omega), if_pos (show (x.size : Int) < y.size by omega), if_neg (show ¬ y.size = x.size by omega)]
    simp; omega
theorem k81s {pure : Bool} {base bar : Nat} {H : Heap} {Q : AV → Heap → Prop} {x y : ByteArray} (hx : x.size < 1000000) (hy : y.size < 1000000) (h : Q (.int .i64 (sgnB x y)) H) : WpCall E pure base bar 81 [.str x, .str y] H Q := k81 hx hy h
end Go.Proofs.Ytoipleipokpnaaa.Code
end
section
namespace Go.Proofs.Ytoipleipokpnaaa.Code
open Go Go.Ab
variable {pure : Bool} {base bar : Nat} {H : Heap} {Q : AV → Heap → Prop} {K : AV → Heap → List Nat → Prop}
/-! insertion sort of drawings -/
def LT (x y : ByteArray) : Prop := sgnB x y < 0
theorem LT_iff {x y : ByteArray} : ¬ LT y x ↔ leS (lstB x) (lstB y) = true := by
  unfold LT
  rw [sgnB_lt]; simp
theorem LT.asymm {x y : ByteArray} (h1 : LT x y) (h2 : LT y x) : False := by
  unfold LT at h1 h2
  rw [sgnB_lt] at h1 h2
  have := leS_total (lstB x) (lstB y)
  rw [h1, h2] at this
  cases this
theorem LT.le {x y z : ByteArray} (h1 : ¬ LT y x) (h2 : ¬ LT z y) : ¬ LT z x := by
  rw [LT_iff] at *
  exact leS_trans _ _ _ h1 h2
def srt (L : List ByteArray) : Prop := L.Pairwise fun p q => ¬ LT q p
def sts (L : List ByteArray) : List AV := L.map AV.str
theorem sts_length {l : List ByteArray} : (sts l).length = l.length := by simp [sts]
theorem sts_part {L : List ByteArray} {i : Nat} (hi : i < L.length) : Ab.part ⟨false, 1⟩ (sts L) i = some (.str L[i]) := by simp [Ab.part, sts, hi]
theorem sts_set {L : List ByteArray} {i : Nat} {p : ByteArray} : setCells (sts L) i [AV.str p] = sts (L.set i p) := by simp [setCells, sts, List.map_set]
theorem st_tops {p : ByteArray} (n : Nat) : AV.top.tops [AV.str p] ≤ n := by simp [AV.top.tops, AV.top]
theorem l93a {id ver n i : Nat} {ex : Bool} {x : ByteArray} {C : List ByteArray} {H0 : Heap} (hid : id < H0.length) (hb : bar ≤ id) (hn : n < 1000) (hx0 : x.size < 1000000) {R : PQ} : ∀ (A B : List ByteArray), (∀ a ∈ A, a.size < 1000000) → A.length + B.length + C.length + 1 = n → srt (A ++ B) → (∀ b ∈ B, LT x b) →
    (∀ S : List ByteArray, S.Perm (A ++ x :: B) → srt S → ∀ v, R (.exit 2) [(0, .vec id ver 0 n 1), (1, .int .i64 0), (2, .int .i64 (n : Nat)), (3, .fn 81 [] []), (8, .int .i64 (i : Nat)), (9, v), (34, .bool false)] (H0.set id (.row ver (sts (S ++ C)) 0 ex))) →
    Wp E base bar (.loop c93_l0) [(0, .vec id ver 0 n 1), (1, .int .i64 0), (2, .int .i64 (n : Nat)), (3, .fn 81 [] []), (8, .int .i64 (i : Nat)), (9, .int .i64 (A.length : Nat))] (H0.set id (.row ver (sts (A ++ x :: B ++ C)) 0 ex)) R := by
  intro A
  obtain ⟨m, hm⟩ : ∃ m, A.length = m := ⟨_, rfl⟩
  induction m generalizing A with
  | zero =>
    intro B hA hl hs hB h
    have : A = [] := List.length_eq_zero_iff.1 hm
    subst this
    have hh := h (x :: B) (List.Perm.refl _) (List.pairwise_cons.2 ⟨fun b hb hlt => LT.asymm hlt (hB b hb), hs⟩)
    rw [wp_round c93_l0.eq_1]
    simp [go_sem]
    exact hh _
  | succ m ih =>
    intro B hA hl hs hB h
    obtain ⟨A', y, rfl⟩ : ∃ A' y, A = A' ++ [y] := by
      rcases List.eq_nil_or_concat A with e | ⟨A', y, e⟩
      · subst e; simp at hm
      · exact ⟨A', y, by rw [e, List.concat_eq_append]⟩
    have hm' : A'.length = m := by simpa using hm
    have hy0 : y.size < 1000000 := hA y (by simp)
    rw [hm]
    have eL : A' ++ [y] ++ x :: B ++ C = A' ++ y :: x :: (B ++ C) := by simp
    have hlen : (A' ++ y :: x :: (B ++ C)).length = n := by simp at hl ⊢; omega
    have hx : (A' ++ y :: x :: (B ++ C))[m + 1]'(by simp; omega) = x := by
      rw [List.getElem_append_right (by omega)]
      simp [hm']
    have hy : (A' ++ y :: x :: (B ++ C))[m]'(by simp; omega) = y := by
      rw [List.getElem_append_right (by omega)]
      simp [hm']
    have hset : ((A' ++ y :: x :: (B ++ C)).set (m + 1) y).set m x = A' ++ x :: (y :: B) ++ C := by
      rw [List.set_append_right _ _ (by omega), List.set_append_right _ _ (by omega)]
      simp [hm']
    have hr1 := sts_part (L := A' ++ y :: x :: (B ++ C)) (i := m + 1) (by omega)
    have hr2 := sts_part (L := A' ++ y :: x :: (B ++ C)) (i := m) (by omega)
    rw [hx] at hr1
    rw [hy] at hr2
    have hs1 := sts_set (L := A' ++ y :: x :: (B ++ C)) (i := m + 1) (p := y)
    have hs2 := sts_set (L := (A' ++ y :: x :: (B ++ C)).set (m + 1) y) (i := m) (p := x)
    rw [hset] at hs2
    have hw : IntKind.i64.wrap (((m + 1 : Nat) : Int) - 1) = ((m : Nat) : Int) := by rw [Go.IntWalk.i64_in _ (by omega)]; omega
    have hpl := sts_length (l := A' ++ y :: x :: (B ++ C))
    rw [hlen] at hpl
    have hpl2 := sts_length (l := (A' ++ y :: x :: (B ++ C)).set (m + 1) y)
    rw [List.length_set, hlen] at hpl2
    have hsA : srt (A' ++ (y :: B)) := by simpa using hs
    have hgo := fun (hyx : LT x y) => ih A' hm' (y :: B) (fun a ha => hA a (by simp [ha])) (by simp at hl ⊢; omega) hsA (fun b hb => by
      rcases List.mem_cons.1 hb with rfl | hb
      · exact hyx
      · exact hB b hb) (fun S hS => h S (hS.trans (by simpa using (List.Perm.append_left A' (List.Perm.swap y x B)))))
    rw [hm'] at hgo
    have hstop : ¬ LT x y → srt (A' ++ [y] ++ x :: B) := fun hno => by
      unfold srt at hs ⊢
      rw [List.pairwise_append] at hs ⊢
      obtain ⟨s1, s2, s3⟩ := hs
      refine ⟨s1, List.pairwise_cons.2 ⟨fun b hb hlt => LT.asymm hlt (hB b hb), s2⟩, fun a ha b hb => ?_⟩
      rcases List.mem_cons.1 hb with rfl | hb
      · rcases List.mem_append.1 ha with ha | ha
        · rw [List.pairwise_append] at s1
          exact LT.le (s1.2.2 a ha y (by simp)) hno
        · rw [List.mem_singleton.1 ha]; exact hno
      · exact s3 a ha b hb
    rw [eL]
    have hg : (H0.set id (.row ver (sts (A' ++ y :: x :: (B ++ C))) 0 ex))[id]? = some (.row ver (sts (A' ++ y :: x :: (B ++ C))) 0 ex) := List.getElem?_set_self hid
    have hset2 : ∀ b c : Blk, (H0.set id b).set id c = H0.set id c := fun b c => by rw [List.set_set]
    have hfin := fun hno v => h _ (List.Perm.refl _) (hstop hno) v
    rw [eL] at hfin
    rw [← hs2, ← hs1] at hgo
    clear hx hy hset hs2 hs1 hpl2 eL
    generalize A' ++ y :: x :: (B ++ C) = L at *
    have i1 : m + 1 < n := by simp at hl; omega
    have i2 : m < n := by omega
    have hA1 : aload (H0.set id (.row ver (sts L) 0 ex)) ⟨false, 1⟩ (.ptr id ver (m + 1)) = some (.str x) := by rw [aload_ptr hg]; exact hr1
    have hA2 : aload (H0.set id (.row ver (sts L) 0 ex)) ⟨false, 1⟩ (.ptr id ver m) = some (.str y) := by rw [aload_ptr hg]; exact hr2
    have c1 : (m + 1) + 1 ≤ (sts L).length := by omega
    have c2 : m + 1 ≤ (sts L).length := by omega
    have c3 : m < (sts L).length := by omega
    have hl0 : (H0.set id (.row ver (sts L) 0 ex)).length = H0.length := by simp
    have hbl : bar ≤ H0.length := by omega
    have hj0 : 0 < m + 1 := by omega
    clear hr1 hr2 hl hpl hlen
    generalize m + 1 = j at *
    rw [wp_round c93_l0.eq_1]
    simp [go_sem, i1, i2, hw, hA1, hA2, hj0]
    refine k81s hx0 hy0 ?_
    by_cases hlt : LT x y
    · have hc : sgnB x y < 0 := hlt
      have hh := hgo hlt
      generalize sgnB x y = z at *
      simp [go_sem, hc, i1, i2, hw, hA1, hA2]
      rw [storeWp_ptr (size := 1) hg rfl rfl (by omega) (by omega) hb (.inr (st_tops _)), hset2]
      have hg2 : (H0.set id (.row ver ((sts L).set j (AV.str y)) 0 ex))[id]? = some (.row ver ((sts L).set j (AV.str y)) 0 ex) := List.getElem?_set_self hid
      simp [go_sem, i1, i2, hw]
      rw [storeWp_ptr (size := 1) (v := .str x) hg2 rfl rfl (by omega) (by rw [List.length_set]; omega) hb (.inr (by exact st_tops _)), hset2]
      simp [go_sem, hw]
      simp only [setCells] at hh
      simpa [setCells, AV.cells] using hh
    · have hc : ¬ sgnB x y < 0 := hlt
      generalize sgnB x y = z at *
      simp [go_sem, hc]
      exact hfin hlt _
end Go.Proofs.Ytoipleipokpnaaa.Code
end
section
namespace Go.Proofs.Ytoipleipokpnaaa.Code
open Go Go.Ab
variable {pure : Bool} {base bar : Nat} {H : Heap} {Q : AV → Heap → Prop} {K : AV → Heap → List Nat → Prop}
theorem l93b {id ver n : Nat} {ex : Bool} {L0 : List ByteArray} {H0 : Heap} (hid : id < H0.length) (hb : bar ≤ id) (hn : n < 1000) (hz : ∀ a ∈ L0, a.size < 1000000) {R : PQ} 
    (h : ∀ S : List ByteArray, S.Perm L0 → srt S → R (.exit 0) [(0, .vec id ver 0 n 1), (1, .int .i64 0), (2, .int .i64 (n : Nat)), (3, .fn 81 [] []), (8, .int .i64 (n : Nat)), (14, .bool false)] (H0.set id (.row ver (sts S) 0 ex))) :
    ∀ (k i : Nat) (L : List ByteArray), i + k = n → 1 ≤ i → L.Perm L0 → L.length = n → srt (L.take i) →
    Wp E base bar (.loop c93_l1) [(0, .vec id ver 0 n 1), (1, .int .i64 0), (2, .int .i64 (n : Nat)), (3, .fn 81 [] []), (8, .int .i64 (i : Nat))] (H0.set id (.row ver (sts L) 0 ex)) R := by
  intro k
  induction k with
  | zero =>
    intro i L hi h1 hp hl hs
    obtain rfl : i = n := by omega
    rw [List.take_of_length_le (by omega)] at hs
    rw [wp_round c93_l1.eq_1]
    simp [go_sem]
    exact h L hp hs
  | succ k ih =>
    intro i L hi h1 hp hl hs
    have hlt : i < L.length := by omega
    have hin : i < n := by omega
    have e1 : L.take i ++ L[i] :: [] ++ L.drop (i + 1) = L := by
      rw [List.append_assoc, List.cons_append, List.nil_append, ← List.drop_eq_getElem_cons hlt, List.take_append_drop]
    have htl : (L.take i).length = i := by rw [List.length_take]; omega
    have hw := i64_suc (show i < 1000000 by omega)
    rw [wp_round c93_l1.eq_1]
    simp [go_sem, hin]
    have hin' := fun (R : PQ) => l93a (base := base) (bar := bar) (ver := ver) (n := n) (i := i) (ex := ex) (x := L[i]) (C := L.drop (i + 1)) hid hb hn (hz _ (hp.subset (List.getElem_mem hlt))) (R := R) (L.take i) [] (fun a ha => hz a (hp.subset (List.mem_of_mem_take ha))) (by simp; omega) (by simpa using hs) (by simp)
    rw [e1, htl] at hin'
    refine hin' _ fun S hS hsS v => ?_
    simp [go_sem, hw]
    have hSl : S.length = i + 1 := by rw [hS.length_eq]; simp; omega
    refine ih (i + 1) _ (by omega) (by omega) ?_ ?_ ?_
    · refine ((List.Perm.append_right _ hS).trans ?_).trans hp
      rw [e1]
    · rw [List.length_append, hSl, List.length_drop]; omega
    · rw [List.take_append_of_le_length (by omega), List.take_of_length_le (by omega)]; exact hsS
theorem k93 {id ver n : Nat} {ex : Bool} {L : List ByteArray} (h : H[id]? = some (.row ver (sts L) 0 ex)) (hl : L.length = n) (h1 : 1 ≤ n) (hn : n < 1000) (hb : bar ≤ id) (hz : ∀ a ∈ L, a.size < 1000000) 
    (k : ∀ S : List ByteArray, S.Perm L → srt S → Q (.tup []) (H.set id (.row ver (sts S) 0 ex))) : WpCall E false base bar 93 [.vec id ver 0 n 1, .int .i64 0, .int .i64 (n : Nat), .fn 81 [] []] H Q := by
  have hid := (List.getElem?_eq_some_iff.1 h).1
  rw [call93]
  have hw : IntKind.i64.wrap 1 = ((1 : Nat) : Int) := rfl
  simp [go_sem, WpFun, c93, hw]
  have hset : H.set id (.row ver (sts L) 0 ex) = H := set_same h
  have := fun (R : PQ) hR => l93b (base := H.length) (bar := bar) (ver := ver) (n := n) (ex := ex) (L0 := L) hid hb hn hz (R := R) hR (n - 1) 1 L (by omega) (by omega) (List.Perm.refl _) hl (by
    obtain _ | ⟨p, L⟩ := L
    · simp at hl; omega
    · simp [srt])
  rw [hset] at this
  refine this _ fun S hS hsS => ?_
  simp [go_sem]
  rw [show (H.set id (.row ver (sts S) 0 ex)).take H.length = H.set id (.row ver (sts S) 0 ex) by rw [List.take_of_length_le (by simp)]]
  exact k S hS hsS
theorem bytesOf_size {l : List Nat} : (bytesOf l).size = l.length := by unfold bytesOf; simp [ByteArray.size]
set_option maxRecDepth 4000 in
theorem c102_size : c102_b0.size = 256 := by
  unfold c102_b0
  rw [bytesOf_size]
  rfl
theorem k102 {n : Nat} (hn : n ≤ 12) (h : ∀ r : Int, Q (.int .i64 r) H) : WpCall E pure base bar 102 [.int .u64 (n : Nat)] H Q := by
  rw [call102]
  have e0 : frzAll bar H [.int .u64 (n : Nat)] = some ([.int .u64 (n : Nat)], H) := rfl
  rw [e0]
  have hw : IntKind.u8.wrap ((n : Nat) : Int) = ((n : Nat) : Int) := by rw [show IntKind.u8.wrap ((n : Nat) : Int) = (n : Int) from Go.IntWalk.u8_in _ (by omega)]
  have hb : n < c102_b0.size := by rw [c102_size]; omega
  obtain ⟨b, hb⟩ : ∃ b, c102_b0[n]? = some b := ⟨_, getElem?_pos c102_b0 n hb⟩
  unfold c102
  generalize c102_b0 = B at *
  simp [go_sem, WpFun, hw, show ¬ (4294967296 : Int) ≤ (n : Int) by omega, show ¬ (65536 : Int) ≤ (n : Int) by omega, show ¬ (256 : Int) ≤ (n : Int) by omega]
  simp [go_sem, aop, Opd.ev, AV.asNat, hb]
  exact h _
theorem k87 {n : Nat} (hn : n ≤ 12) (h : ∀ r : Int, Q (.int .i64 r) H) : WpCall E pure base bar 87 [.int .u64 (n : Nat)] H Q := by
  rw [call87]
  have e0 : frzAll bar H [.int .u64 (n : Nat)] = some ([.int .u64 (n : Nat)], H) := rfl
  rw [e0]
  simp [go_sem, WpFun, c87]
  refine k102 hn fun r => ?_
  simp [go_sem]
  exact h r
theorem k86 {id ver n : Nat} {ex : Bool} {L : List ByteArray} {r : Int} (h : H[id]? = some (.row ver (sts L) 0 ex)) (hl : L.length = n) (h1 : 1 ≤ n) (hn : n ≤ 12) (hb : bar ≤ id) (hz : ∀ a ∈ L, a.size < 1000000) 
    (k : ∀ S : List ByteArray, S.Perm L → srt S → Q (.tup []) (H.set id (.row ver (sts S) 0 ex))) : WpCall E false base bar 86 [.vec id ver 0 n 1, .int .i64 0, .int .i64 (n : Nat), .int .i64 r, .fn 81 [] []] H Q := by
  rw [call86]
  have hw : IntKind.i64.wrap ((n : Nat) : Int) = (n : Nat) := Go.IntWalk.i64_in _ (by omega)
  simp [go_sem, WpFun, c86]
  rw [wp_round c86_l0.eq_1]
  simp [go_sem, hw, show (n : Int) ≤ 12 by omega]
  refine k93 h hl h1 (by omega) hb hz fun S hS hsS => ?_
  simp [go_sem]
  rw [show (H.set id (.row ver (sts S) 0 ex)).take H.length = H.set id (.row ver (sts S) 0 ex) by rw [List.take_of_length_le (by simp)]]
  exact k S hS hsS
theorem k80 {id ver n : Nat} {ex : Bool} {L : List ByteArray} (h : H[id]? = some (.row ver (sts L) 0 ex)) (hl : L.length = n) (h1 : 1 ≤ n) (hn : n ≤ 12) (hb : bar ≤ id) (hz : ∀ a ∈ L, a.size < 1000000) 
    (k : ∀ S : List ByteArray, S.Perm L → srt S → Q (.tup []) (H.set id (.row ver (sts S) 0 ex))) : WpCall E false base bar 80 [.vec id ver 0 n 1, .fn 81 [] []] H Q := by
  rw [call80]
  have hw : IntKind.u64.wrap ((n : Nat) : Int) = ((n : Nat) : Int) := by rw [show IntKind.u64.wrap ((n : Nat) : Int) = (n : Int) from Go.IntWalk.u64_in _ (by omega)]
  simp [go_sem, WpFun, c80, hw]
  refine k87 hn fun r => ?_
  simp [go_sem]
  refine k86 h hl h1 (by omega) hb hz fun S hS hsS => ?_
  simp [go_sem]
  rw [show (H.set id (.row ver (sts S) 0 ex)).take H.length = H.set id (.row ver (sts S) 0 ex) by rw [List.take_of_length_le (by simp)]]
  exact k S hS hsS
theorem k80n (k : Q (.tup []) H) : WpCall E false base bar 80 [.nils, .fn 81 [] []] H Q := by
  rw [call80]
  simp [go_sem, WpFun, c80]
  refine k87 (n := 0) (by omega) fun r => ?_
  simp [go_sem]
  rw [call86]
  simp [go_sem, WpFun, c86]
  rw [wp_round c86_l0.eq_1]
  simp [go_sem]
  rw [call93]
  simp [go_sem, WpFun, c93]
  rw [wp_round c93_l1.eq_1]
  simp [go_sem]
  exact k
end Go.Proofs.Ytoipleipokpnaaa.Code
end
section
namespace Go.Proofs.Ytoipleipokpnaaa.Code
open Go Go.Ab
variable {pure : Bool} {base bar : Nat} {H : Heap} {Q : AV → Heap → Prop} {K : AV → Heap → List Nat → Prop}
/-! strings.Join -/
theorem strsOf_sts : ∀ {L : List ByteArray}, strsOf (sts L) = some L
  | [] => rfl
  | x :: r => by
    have := strsOf_sts (L := r)
    unfold sts at this ⊢
    simp [strsOf, this]
theorem join_flat {xs : List (List UInt8)} : Lib.join xs [] = xs.flatten := by
  induction xs with
  | nil => rfl
  | cons x r ih =>
    unfold Lib.join at ih ⊢
    cases r with
    | nil => simp [List.intercalate]
    | cons y r => simpa [List.intercalate, List.intersperse] using ih
theorem lstB_join {L : List ByteArray} : lstB (joinB L (bytesOf [])) = (L.map lstB).flatten := by
  unfold lstB joinB
  rw [show (bytesOf []).data.toList = [] from rfl, join_flat]
  simp [List.map_flatten, Function.comp_def]
end Go.Proofs.Ytoipleipokpnaaa.Code
end
section
namespace Go.Proofs.Ytoipleipokpnaaa.Code
open Go Go.Ab
variable {pure : Bool} {base bar : Nat} {H : Heap} {Q : AV → Heap → Prop} {K : AV → Heap → List Nat → Prop}
/-! strings under construction, never frozen -/
def OS (k : Nat) (l : List ByteArray) (v : AV) (H : Heap) : Prop := (l = [] ∧ v = .nils) ∨ ∃ id ver, l ≠ [] ∧ k ≤ id ∧ v = .vec id ver 0 l.length 1 ∧ H[id]? = some (.row ver (sts l) 0 false)
theorem sts_append {l m : List ByteArray} : sts (l ++ m) = sts l ++ sts m := by simp [sts]
theorem OS.more {k : Nat} {l : List ByteArray} {v : AV} {G : Heap} (g : OS k l v H) : OS k l v (H ++ G) := by
  rcases g with h | ⟨id, ver, h1, h2, h3, h4⟩
  · exact .inl h
  · exact .inr ⟨id, ver, h1, h2, h3, by rw [List.getElem?_append_left (List.getElem?_eq_some_iff.1 h4).1]; exact h4⟩
theorem OS.str {k : Nat} {l : List ByteArray} {v : AV} {s : ByteArray} {ex : Bool} (g : OS k l v H) (hk : k ≤ H.length) (hb : bar ≤ k) (hbase : base ≤ k) (hlen : l.length < 1000)
    (h : ∀ v' H' tc, OS k (l ++ [s]) v' H' → H.length ≤ H'.length → (∀ j, j < k → H'[j]? = H[j]?) → K v' H' tc) : appWp base bar 1 16 (some v) (some (.lst 1 ex [.str s])) H K := by
  have hz : frzAll bar H [.str s] = some ([.str s], H) := rfl
  have hpl : (sts l).length = l.length := sts_length
  have e2 : sts l ++ [.str s] = sts (l ++ [s]) := by rw [sts_append]; rfl
  simp only [appWp, asrc_lst]
  rw [show [AV.str s].flatMap AV.cells = [.str s] from rfl, hz]
  rcases g with ⟨rfl, rfl⟩ | ⟨id, ver, h1, h2, rfl, h4⟩
  · have := h (.vec H.length 0 0 1 1) (H ++ [.row 0 [.str s] 0 false]) [] (.inr ⟨H.length, 0, by simp, hk, rfl, by simp [sts]⟩) (by simp) fun j hj => List.getElem?_append_left (by omega)
    simpa [aappend, AV.noVec, AV.noVec.noVecs] using this
  · have hid := (List.getElem?_eq_some_iff.1 h4).1
    have := h (.vec id (ver + 1) 0 (l.length + 1) 1) (H.set id (.row (ver + 1) (sts l ++ [.str s]) 0 false)) [id] (.inr ⟨id, ver + 1, by simp, h2, by simp, by rw [List.getElem?_set_self hid, e2]⟩) (by simp) fun j hj => List.getElem?_set_ne (by omega)
    have hle : ¬ (140737488355328 < (l.length + 1) * 16) := by omega
    have htk : (sts l).take (l.length * 1) = sts l := List.take_of_length_le (by omega)
    have c1 : ¬ (sts l).length < 0 + l.length * 1 := by omega
    have c2 : ¬ (0 + (l.length + 1) * 1 ≤ (sts l).length) := by omega
    have hbi : bar ≤ id := by omega
    have hba : base ≤ id := by omega
    have hzl : ([AV.str s]).length = 1 := rfl
    simp only [aappend, h4, hzl, ne_eq, not_true_eq_false, if_false, false_or, c1, c2, htk, hbi, hba]
    simpa [aappend, h4, hle, htk, AV.noVec, AV.noVec.noVecs, hbi, hba] using this
theorem sts_plain {l : List ByteArray} : ∀ c ∈ sts l, Plain c := fun c hc => by
  obtain ⟨s, _, rfl⟩ := List.mem_map.1 hc
  exact Plain.str
theorem OS.frz {k d : Nat} {l : List ByteArray} {v : AV} (g : OS k l v H) (hb : bar ≤ k) : ∃ H', Go.Ab.frz (d + 3) bar H v = some (outL 1 (sts l), H') ∧ H'.length = H.length ∧ (∀ j, j < k → H'[j]? = H[j]?) := by
  have : Own k 1 (sts l) v H := by
    rcases g with ⟨rfl, rfl⟩ | ⟨id, ver, h1, h2, h3, h4⟩
    · exact .inl ⟨rfl, rfl⟩
    · exact .inr ⟨id, ver, 0, fun e => h1 (by
        have := congrArg List.length e
        rw [sts_length] at this
        exact List.length_eq_zero_iff.1 this), h2, Nat.zero_le _, by rw [h3, sts_length, Nat.div_one], h4⟩
  obtain ⟨H', e1, e2, e3, e4⟩ := this.frz (d := d) (bar := bar) Nat.one_pos (Nat.one_dvd _) sts_plain hb
  refine ⟨H', e1, e3, fun j hj => e4 j fun hid => ?_⟩
  have := (this.lt hid).1
  omega
theorem outS {l : List ByteArray} : outL 1 (sts l) = if l = [] then .nils else .lst 1 false (sts l) := by
  cases l with
  | nil => rfl
  | cons x r => rw [if_neg (by simp), outL, if_neg (by simp [sts]), Nat.div_one, chunks_one]
theorem wpcall_known_frz {f : FuncId} {af : AFun} {args args' : List AV} {v : AV} {H' : Heap} (hf : E.funs f = some af) (hr : af.raw = false) (hz : frzAll bar H args = some (args', H'))
    (hk : E.known f args' H' = some { v := v }) (h : Q v H') : WpCall E pure base bar f args H Q := by
  unfold WpCall callWith
  simp only [hf, hr, hz, hk, List.all_nil, List.isEmpty_nil, Bool.or_true, Bool.and_self, if_true, applyUps, List.append_nil, Bool.false_eq_true, if_false]
  exact ⟨0, _, _, rfl, h⟩
/-- Join of strings under construction -/
theorem k85n (h : ∀ s, lstB s = [] → Q (.str s) H) : WpCall E pure base bar 85 [.nils, .str (bytesOf [])] H Q := by
  have hk : E.known 85 [.nils, .str (bytesOf [])] H = some { v := .str (joinB [] (bytesOf [])) } := rfl
  exact (wpcall_known (by rfl) (by rfl) hk).2 (h _ rfl)
theorem k85v {k : Nat} {l : List ByteArray} {v : AV} (g : OS k l v H) (hb : bar ≤ k) (hL : l.length ≤ 1000) (hj : ((l.map lstB).flatten).length ≤ 100000)
    (h : ∀ s H', lstB s = (l.map lstB).flatten → H'.length = H.length → (∀ j, j < k → H'[j]? = H[j]?) → Q (.str s) H') : WpCall E pure base bar 85 [v, .str (bytesOf [])] H Q := by
  obtain ⟨H', f1, f2, f3⟩ := g.frz (d := 5) hb
  rcases g with ⟨rfl, rfl⟩ | ⟨id, ver, h1, h2, rfl, h4⟩
  · exact k85n fun s hs => h s H hs rfl fun _ _ => rfl
  · rw [outS, if_neg h1] at f1
    have e1 : frzAll bar H [.vec id ver 0 l.length 1, .str (bytesOf [])] = some ([.lst 1 false (sts l), .str (bytesOf [])], H') := by
      have : frz 8 bar H' (.str (bytesOf [])) = some (.str (bytesOf []), H') := rfl
      simp [frzAll, frz.frzs, frzsW, f1, this]
    have hk : E.known 85 [.lst 1 false (sts l), .str (bytesOf [])] H' = some { v := .str (joinB l (bytesOf [])) } := by
      have e : E.known 85 [.lst 1 false (sts l), .str (bytesOf [])] H' = joinK [.lst 1 false (sts l), .str (bytesOf [])] := rfl
      have hj' : (Lib.join (l.map (·.data.toList)) (bytesOf []).data.toList).length ≤ 100000 := by
        rw [show (bytesOf []).data.toList = [] from rfl, join_flat]
        have : ∀ L : List ByteArray, ((L.map (·.data.toList)).flatten).length = ((L.map lstB).flatten).length := by
          intro L
          induction L with
          | nil => rfl
          | cons x r ih => simp [lstB, ih] at ih ⊢
        rw [this]
        exact hj
      rw [e]
      unfold joinK
      simp only [strsOf_sts]
      rw [if_pos ⟨Nat.ble_eq_true_of_le hL, Nat.ble_eq_true_of_le hj'⟩]
    exact wpcall_known_frz (af := _) rfl rfl e1 hk (h _ H' lstB_join f2 f3)
end Go.Proofs.Ytoipleipokpnaaa.Code
end
section
namespace Go.Proofs.Ytoipleipokpnaaa.Code
open Go Go.Ab
variable {pure : Bool} {base bar : Nat} {H : Heap} {Q : AV → Heap → Prop} {K : AV → Heap → List Nat → Prop}
/-! wood.drawn -/
theorem l78 {n k t : Nat} {b : Int} {w : Nat → Nat} {ex : Bool} {lv : AV} {L : List Nat} {H0 : Heap} (hL : isL lv L) (hlen : L.length ≤ 9) (hb : bar ≤ H0.length) (hbase : base ≤ H0.length)
    (hrec : ∀ x ∈ L, (x : Int) ≠ b → ∀ (pure : Bool) (base bar : Nat) (H : Heap) (Q : AV → Heap → Prop), bar ≤ H.length → (∀ s, lstB s = drawF (chW w) t x (k : Int) → Q (.str s) H) → WpCall E pure base bar 78 [.lst 1 ex (wc n w), .int .i64 (x : Nat), .int .i64 (k : Nat)] H Q) {R : PQ} :
    ∀ (m i : Nat), i + m = L.length → ∀ (S : List ByteArray) (v : AV) (H : Heap), OS H0.length S v H → S.map lstB = ((L.take i).filter fun x : Nat => decide ((x : Int) ≠ b)).map (fun x : Nat => drawF (chW w) t x (k : Int)) → H0.length ≤ H.length → (∀ j, j < H0.length → H[j]? = H0[j]?) →
    (∀ S v' H', OS H0.length S v' H' → S.map lstB = (L.filter fun x : Nat => decide ((x : Int) ≠ b)).map (fun x : Nat => drawF (chW w) t x (k : Int)) → H0.length ≤ H'.length → (∀ j, j < H0.length → H'[j]? = H0[j]?) → R (.exit 0) [(0, .lst 1 ex (wc n w)), (1, .int .i64 (k : Nat)), (2, .int .i64 b), (7, v'), (14, lv), (15, .int .i64 (L.length : Nat)), (16, .int .i64 (L.length : Nat)), (17, .bool false)] H') →
    Wp E base bar (.loop c78_l0) [(0, .lst 1 ex (wc n w)), (1, .int .i64 (k : Nat)), (2, .int .i64 b), (7, v), (14, lv), (15, .int .i64 (L.length : Nat)), (16, .int .i64 (i : Nat))] H R := by
  intro m
  induction m with
  | zero =>
    intro i hi S v H g hS hH hlow h
    obtain rfl : i = L.length := by omega
    rw [List.take_length] at hS
    rw [wp_round c78_l0.eq_1]
    simp [go_sem]
    exact h S v H g hS hH hlow
  | succ m ih =>
    intro i hi S v H g hS hH hlow h
    have hlt : i < L.length := by omega
    have hix := fun (H : Heap) (K : AV → Heap → List Nat → Prop) => hL.ix (H := H) (K := K) (k := .i64) hlt
    have htk : L.take (i + 1) = L.take i ++ [L[i]] := by rw [List.take_add_one, List.getElem?_eq_getElem hlt]; rfl
    have hr := hrec _ (List.getElem_mem hlt)
    have hnext := ih (i + 1) (by omega)
    rw [htk] at hnext
    have hSl : S.length ≤ 9 := by
      have := congrArg List.length hS
      rw [List.length_map, List.length_map] at this
      have h2 := List.length_filter_le (fun x : Nat => decide ((x : Int) ≠ b)) (L.take i)
      rw [List.length_take] at h2
      omega
    have hw := i64_suc (show i < 1000000 by omega)
    generalize L[i] = x at *
    rw [wp_round c78_l0.eq_1]
    by_cases e : (x : Int) = b
    · simp [go_sem, hlt, hix, aload, e, hw]
      exact hnext S v H g (by simpa [List.filter_append, e] using hS) hH hlow h
    · simp [go_sem, hlt, hix, aload, e]
      refine hr e _ _ _ _ _ (by omega) fun s hs => ?_
      simp [go_sem, aop, evs, Opd.ev, fillA, chunks]
      refine g.str (by omega) (by omega) (by omega) (by omega) fun v' H' tc g' hl' hlow' => ?_
      simp [go_sem, hw]
      exact hnext (S ++ [s]) v' H' g' (by simp [List.filter_append, hS, hs, e]) (by omega) (fun j hj => by rw [hlow' j hj, hlow j hj]) h
theorem lstB_app {a b : ByteArray} : lstB (a ++ b) = lstB a ++ lstB b := by
  unfold lstB
  rw [ByteArray.data_append, Array.toList_append, List.map_append]
theorem srt_sorted {S T : List ByteArray} (hp : S.Perm T) (hs : srt S) : S.map lstB = sortS (T.map lstB) := by
  refine perm_sorted (le := fun a b => leS a b = true) (fun a b => leS_anti) ((hp.map lstB).trans (List.mergeSort_perm _ leS).symm) ?_ (List.pairwise_mergeSort leS_trans leS_total _)
  exact List.pairwise_map.2 (hs.imp fun h => LT_iff.1 h)
theorem size_in {S : List ByteArray} {a : ByteArray} {m : Nat} (ha : a ∈ S) (h : (S.map lstB).flatten.length ≤ m) : (lstB a).length ≤ m := by
  have : (lstB a).length ≤ (S.map lstB).flatten.length := List.Sublist.length_le (List.sublist_flatten_of_mem (List.mem_map.2 ⟨a, ha, rfl⟩))
  omega
theorem k78 {n r : Nat} {f : Nat → Nat → Bool} {D : Nat → Nat → Nat} {w : Nat → Nat} {ex : Bool} (hC : TrC n f D (chW w)) (hn : n ≤ 9) (hw : ∀ i, w i < 512) (hr : r < n) :
    ∀ (t k : Nat) (b : Int), k < n → Down f D r k b → t + D r k = n → ∀ (pure : Bool) (base bar : Nat) (H : Heap) (Q : AV → Heap → Prop), bar ≤ H.length → (∀ s, lstB s = drawF (chW w) t k b → Q (.str s) H) →
    WpCall E pure base bar 78 [.lst 1 ex (wc n w), .int .i64 (k : Nat), .int .i64 b] H Q := by
  intro t
  induction t with
  | zero => intro k b hk hd ht; have := hC.lt hr hk; omega
  | succ t ih =>
    intro k b hk hd ht pure base bar H Q hbar h
    have hdl := hC.len hr (t := t + 1) hk hd
    rw [call78]
    have e0 : frzAll bar H [.lst 1 ex (wc n w), .int .i64 (k : Nat), .int .i64 b] = some ([.lst 1 ex (wc n w), .int .i64 (k : Nat), .int .i64 b], H) := rfl
    rw [e0]
    have hb' := bar_if (pure := pure) hbar
    obtain ⟨p, hp1, hp2⟩ := (RW.lst (n := n) (ex := ex) (w := w) (H := H)).ix hk
    simp [go_sem, WpFun, c78, hp1, hp2]
    refine k58 (hw k) (by omega) ?_
    have hu : isL (outL 1 (nats (bitsN (w k)))) (bitsN (w k)) := isL.out
    generalize outL 1 (nats (bitsN (w k))) = lv at *
    have hln := fun (H : Heap) (K : AV → Heap → List Nat → Prop) => hu.len (H := H) (K := K)
    simp [go_sem, hln]
    refine l78 (H0 := H) (t := t) hu bitsN_len (by omega) (by omega) (fun x hx hne pure base bar H Q hb hq => ?_) (bitsN (w k)).length 0 (by omega) [] .nils H (.inl ⟨rfl, rfl⟩) (by simp) (Nat.le_refl _) (fun _ _ => rfl) fun S v H1 g hS hH hlow => ?_
    · obtain ⟨x1, x2, x3, x4⟩ := hC.down hr hk hd hx hne
      exact ih x (k : Int) x1 x4 (by omega) pure base bar H Q hb hq
    · have eD : drawF (chW w) (t + 1) k b = 91 :: ((sortS (S.map lstB)).flatten ++ [93]) := by rw [hS]; rfl
      have hfl : (S.map lstB).flatten.length ≤ 16 := by
        have h1 := (List.mergeSort_perm (S.map lstB) leS).flatten.length_eq
        have h2 := congrArg List.length eD
        rw [List.length_cons, List.length_append] at h2
        unfold sortS at h2
        simp only [List.length_cons, List.length_nil] at h2
        omega
      have hSb : ∀ a ∈ S, a.size < 1000000 := fun a ha => by
        have := size_in ha hfl
        rw [← lstB_len]; omega
      have hSl : S.length ≤ 9 := by
        have e1 := congrArg List.length hS
        rw [List.length_map, List.length_map] at e1
        have e2 := List.length_filter_le (fun x : Nat => decide ((x : Int) ≠ b)) (bitsN (w k))
        have e3 := bitsN_len (s := w k)
        omega
      have hfin : ∀ (S' : List ByteArray) (H2 : Heap), S'.Perm S → srt S' → H.length ≤ H2.length → (∀ j, j < H.length → H2[j]? = H[j]?) → ∀ (s : ByteArray) (A : List AV) (G : Heap), lstB s = (S'.map lstB).flatten →
          callK false A G (opK E H.length (if pure = true then H.length else bar) [{ dst := some 35, op := AOp.bin BinOp.add (Opd.c (AV.str (bytesOf [91]))) (Opd.t 34), guard := none }, { dst := some 36, op := AOp.bin BinOp.add (Opd.t 35) (Opd.c (AV.str (bytesOf [93]))), guard := none }, { dst := some 6, op := AOp.mv (Opd.t 36), guard := none }]
            (some 34) [(7, v), (33, v)] (regK [6] (thenWp E H.length (if pure = true then H.length else bar) ACode.ret (retWp 0 H.length (if pure = true then H.length else bar) [ARes.tmp 6] Q)))) (.str s) H2 := fun S' H2 hp hs hH2 hlow2 s A G hs2 => by
        rw [srt_sorted hp hs] at hs2
        have hsz : s.size ≤ 16 := by
          rw [← lstB_len, hs2]
          have h1 := (List.mergeSort_perm (S.map lstB) leS).flatten.length_eq
          unfold sortS; omega
        have c1 : (bytesOf [91]).size = 1 := bytesOf_size
        have c2 : (bytesOf [93]).size = 1 := bytesOf_size
        have hk := h (bytesOf [91] ++ s ++ bytesOf [93]) (by
          rw [lstB_app, lstB_app, hs2, eD]; rfl)
        have htake : H2.take H.length = H := take_same (by omega) hlow2
        have n1 : ¬ (9223372036854775807 : Int) < 1 + (s.size : Int) := by omega
        have n2 : ¬ (9223372036854775807 : Int) < 1 + (s.size : Int) + 1 := by omega
        simp [go_sem, abin, c1, c2, n1, n2, ByteArray.size_append, htake]
        exact hk
      simp [go_sem]
      rcases g with ⟨e1, rfl⟩ | ⟨id, ver, h1, h2, rfl, h4⟩
      · refine k80n ?_
        simp [go_sem]
        refine k85n fun s hs => ?_
        exact hfin [] H1 (by rw [e1]) (by simp [srt]) hH hlow s _ _ (by rw [hs]; rfl)
      · refine k80 h4 rfl (by have := List.length_pos_iff.2 h1; omega) (by omega) (by omega) hSb fun S' hS' hsS => ?_
        have hid := (List.getElem?_eq_some_iff.1 h4).1
        simp [go_sem]
        have hl' : S'.length = S.length := hS'.length_eq
        have g2 : OS H.length S' (.vec id ver 0 S.length 1) (H1.set id (.row ver (sts S') 0 false)) := .inr ⟨id, ver, fun e => h1 (by rw [e] at hS'; exact hS'.symm.eq_nil), h2, by rw [hl'], List.getElem?_set_self hid⟩
        refine k85v g2 (by omega) (by omega) ?_ fun s H3 hs hl3 hlow3 => ?_
        · have := (hS'.map lstB).flatten.length_eq
          omega
        · have hl5 : (H1.set id (.row ver (sts S') 0 false)).length = H1.length := List.length_set
          refine hfin S' H3 hS' hsS (by omega) (fun j hj => ?_) s _ _ hs
          rw [hlow3 j hj, List.getElem?_set_ne (by omega), hlow j hj]
end Go.Proofs.Ytoipleipokpnaaa.Code
end
section
namespace Go.Proofs.Ytoipleipokpnaaa.Code
open Go Go.Ab
variable {pure : Bool} {base bar : Nat} {H : Heap} {Q : AV → Heap → Prop} {K : AV → Heap → List Nat → Prop}
/-! the greater one of two strings -/
theorem less_lex : ∀ a b : List UInt8, Op.bytesLess a b = !lexL (b.map UInt8.toNat) (a.map UInt8.toNat)
  | [], [] => by simp [Op.bytesLess, lexL]
  | [], y :: ys => by simp [Op.bytesLess, lexL]
  | x :: xs, [] => by simp [Op.bytesLess, lexL]
  | x :: xs, y :: ys => by
    have ih := less_lex xs ys
    unfold Op.bytesLess
    simp only [List.map_cons, lexL]
    by_cases h1 : x < y
    · have h1' : x.toNat < y.toNat := UInt8.lt_iff_toNat_lt.1 h1
      rw [if_neg (show ¬ y.toNat = x.toNat by omega)]
      simp [h1]; omega
    · have h1' : ¬ x.toNat < y.toNat := fun e => h1 (UInt8.lt_iff_toNat_lt.2 e)
      by_cases h2 : y < x
      · have h2' : y.toNat < x.toNat := UInt8.lt_iff_toNat_lt.1 h2
        rw [if_neg (show ¬ y.toNat = x.toNat by omega)]
        have ne : x ≠ y := fun e => by subst e; omega
        simp [h1, ne, h2']
      · have h2' : ¬ y.toNat < x.toNat := fun e => h2 (UInt8.lt_iff_toNat_lt.2 e)
        obtain rfl : x = y := UInt8.toNat_inj.1 (by omega)
        rw [if_pos rfl]
        simp [ih]
theorem mx_lst {a b : ByteArray} : ∃ s, mxStr true (.str a) (.str b) = some (.str s) ∧ lstB s = maxL (lstB a) (lstB b) := by
  unfold mxStr
  refine ⟨_, rfl, ?_⟩
  simp only [if_true]
  rw [ByteArray.toList_eq, ByteArray.toList_eq, less_lex]
  show lstB (if (!lexL (lstB b) (lstB a)) = true then b else a) = maxL (lstB a) (lstB b)
  unfold maxL
  cases h : lexL (lstB b) (lstB a) with
  | false =>
    have := (lexL_total (lstB a) (lstB b)).resolve_right (by rw [h]; simp)
    rw [this]; rfl
  | true =>
    cases h2 : lexL (lstB a) (lstB b) with
    | false => rfl
    | true => exact lexL_anti h2 h
/-! wood.shape -/
def shW (n : Nat) (w : Nat → Nat) : List Nat := shapeF (chW w) n (bitsN (lastM n w))
theorem l68 {n : Nat} {f : Nat → Nat → Bool} {D : Nat → Nat → Nat} {w : Nat → Nat} {ex : Bool} {lv : AV} {L A0 : List Nat} (hC : TrC n f D (chW w)) (hn : n ≤ 9) (hw : ∀ i, w i < 512) (hL : isL lv L) (hlt : ∀ x ∈ L, x < n) (hlen : L.length ≤ 9) (hb : bar ≤ H.length) {R : PQ} :
    ∀ (m i : Nat), i + m = L.length → ∀ s : ByteArray, lstB s = ((L.take i).map fun k => drawF (chW w) n k (-1)).foldl maxL A0 →
    (∀ s, lstB s = (L.map fun k => drawF (chW w) n k (-1)).foldl maxL A0 → R (.exit 0) [(0, .lst 1 ex (wc n w)), (5, .str s), (23, lv), (24, .int .i64 (L.length : Nat)), (25, .int .i64 (L.length : Nat)), (26, .bool false)] H) →
    Wp E base bar (.loop c68_l0) [(0, .lst 1 ex (wc n w)), (5, .str s), (23, lv), (24, .int .i64 (L.length : Nat)), (25, .int .i64 (i : Nat))] H R := by
  intro m
  induction m with
  | zero =>
    intro i hi s hs h
    obtain rfl : i = L.length := by omega
    rw [List.take_length] at hs
    rw [wp_round c68_l0.eq_1]
    simp [go_sem]
    exact h s hs
  | succ m ih =>
    intro i hi s hs h
    have hli : i < L.length := by omega
    have hix := fun (H : Heap) (K : AV → Heap → List Nat → Prop) => hL.ix (H := H) (K := K) (k := .i64) hli
    have htk : L.take (i + 1) = L.take i ++ [L[i]] := by rw [List.take_add_one, List.getElem?_eq_getElem hli]; rfl
    have hx := hlt _ (List.getElem_mem hli)
    have hnext := ih (i + 1) (by omega)
    rw [htk] at hnext
    have hw1 := i64_suc (show i < 1000000 by omega)
    generalize L[i] = x at *
    rw [wp_round c68_l0.eq_1]
    simp [go_sem, hli, hix, aload]
    refine k78 hC hn hw hx n x (-1) hx (.inl ⟨rfl, rfl⟩) (by rw [hC.tm.zero hx]; omega) _ _ _ _ _ (by omega) fun s2 hs2 => ?_
    obtain ⟨s3, e3, e4⟩ := mx_lst (a := s) (b := s2)
    simp [go_sem, aop, evs, Opd.ev, e3, hw1]
    exact hnext s3 (by rw [e4, hs, hs2]; simp) h
theorem trC_of {n : Nat} {l : List ZZ} {w : Nat → Nat} {D : Nat → Nat → Nat} (hT : TM (fun x => x < n) (tieB l) D) (hw : Wd n l w) (hD : ∀ x y, x < n → y < n → D x y < n) : TrC n (tieB l) D (chW w) :=
  ⟨hT, fun hx hy => hD _ _ hx hy, fun {k x} _ => by unfold chW; rw [mem_bitsN (hw.lt k), hw.bit], fun _ => bitsN_nodup⟩
theorem slice_one {H : Heap} {c : AV} {r : List AV} : aslice H (.slc 1) (.lst 1 false (c :: r)) (some (.int .i64 1)) none none = some (.lst 1 false r) := by
  have e : (AV.int .i64 1).asNat = some 1 := rfl
  simp [aslice, optBound, bound1, e]
theorem k68 {n : Nat} {ex : Bool} {l : List ZZ} {w : Nat → Nat} {D : Nat → Nat → Nat} (hT : TM (fun x => x < n) (tieB l) D) (hw : Wd n l w) (hD : ∀ x y, x < n → y < n → D x y < n) (hn : n ≤ 9) (h1 : 1 ≤ n) (hbar : bar ≤ H.length)
    (h : ∀ s, lstB s = shW n w → Q (.str s) H) : WpCall E pure base bar 68 [.lst 1 ex (wc n w)] H Q := by
  rw [call68]
  have e0 : frzAll bar H [.lst 1 ex (wc n w)] = some ([.lst 1 ex (wc n w)], H) := rfl
  rw [e0]
  have hb' := bar_if (pure := pure) hbar
  have hC := trC_of hT hw hD
  simp [go_sem, WpFun, c68]
  refine k57 hT hw hn h1 (by omega) fun u hu => ?_
  have hp := rdsW_pos (w := w) h1
  have hle : (rdsW n w).length ≤ 9 := rdsM_len
  have hlast : (rdsW n w).length - 1 < (rdsW n w).length := by omega
  have hw1 : IntKind.i64.wrap (((rdsW n w).length : Int) - 1) = (((rdsW n w).length - 1 : Nat) : Int) := by
    rw [Go.IntWalk.i64_in _ (by omega)]; omega
  have hix := fun (H : Heap) (K : AV → Heap → List Nat → Prop) => hu.ix (H := H) (K := K) (k := .i64) hlast
  have eg : (rdsW n w)[(rdsW n w).length - 1] = lastM n w := by
    unfold lastM
    rw [List.getLastD_eq_getLast?, List.getLast?_eq_getElem?, List.getElem?_eq_getElem hlast]; rfl
  rw [eg] at hix
  simp [go_sem, hu.len, hw1, hix, aload]
  refine k58 lastM_lt (by omega) ?_
  have hms := mid_same hn h1 hT hw hD
  have hne : bitsN (lastM n w) ≠ [] := by
    rw [hms]
    obtain ⟨x, hx, e⟩ : ∃ x, x < n ∧ rchF n D x = mnF n (rchF n D) n := by
      rcases mnF_get (m0 := n) (F := rchF n D) (n := n) with e | ⟨x, hx, e⟩
      · have := mnF_le (m0 := n) (F := rchF n D) (n := n) (x := 0) h1
        have : rchF n D 0 ≤ n - 1 := mx_le fun y hy => by have := hD 0 y h1 hy; omega
        omega
      · exact ⟨x, hx, e.symm⟩
    exact List.ne_nil_of_mem (mid_in.2 ⟨hx, e⟩)
  have hml : ∀ x ∈ bitsN (lastM n w), x < n := fun x hx => by rw [hms] at hx; exact (mid_in.1 hx).1
  have hv : isL (outL 1 (nats (bitsN (lastM n w)))) (bitsN (lastM n w)) := isL.out
  have hl9 := bitsN_len (s := lastM n w)
  have hk := h
  unfold shW at hk
  obtain ⟨a, r, ear⟩ : ∃ a r, bitsN (lastM n w) = a :: r := by
    cases e : bitsN (lastM n w) with
    | nil => exact absurd e hne
    | cons a r => exact ⟨a, r, rfl⟩
  rw [ear] at hk hml hl9 ⊢
  have ha := hml a (List.mem_cons_self ..)
  have e7 : outL 1 (nats (a :: r)) = .lst 1 false (nats (a :: r)) := by rw [outL_nats, if_neg (by simp)]
  rw [e7]
  simp [go_sem, nats, aload]
  refine k78 hC hn hw.lt ha n a (-1) ha (.inl ⟨rfl, rfl⟩) (by rw [hT.zero ha]; omega) _ _ _ _ _ (by omega) fun s hs => ?_
  simp [go_sem, aop, Opd.evo, slice_one]
  have hr : isL (.lst 1 false (nats r)) r := .inr ⟨false, rfl⟩
  refine l68 (L := r) (A0 := lstB s) hC hn hw.lt hr (fun x hx => hml x (List.mem_cons_of_mem _ hx)) (by simp at hl9; omega) hb' r.length 0 (by omega) s rfl fun s2 hs2 => ?_
  have hk2 := hk s2 (by rw [hs2, shapeF_first, hs])
  simp [go_sem]
  exact hk2
theorem wood_frz1 {id ver n fz : Nat} {w : Nat → Nat} {ex : Bool} (hid : H[id]? = some (.row ver (wc n w) fz ex)) (hib : bar ≤ id) : ∃ b, frzAll bar H [.vec id ver 0 n 1] = some ([.lst 1 false (wc n w)], H.set id b) := by
  obtain ⟨b, f1⟩ := wood_frz (d := 5) hid hib
  exact ⟨b, by simp [frzAll, frz.frzs, frzsW, f1]⟩
theorem k68v {id ver n fz : Nat} {ex : Bool} {l : List ZZ} {w : Nat → Nat} {D : Nat → Nat → Nat} (hid : H[id]? = some (.row ver (wc n w) fz ex)) (hib : bar ≤ id) (hT : TM (fun x => x < n) (tieB l) D) (hw : Wd n l w) (hD : ∀ x y, x < n → y < n → D x y < n) (hn : n ≤ 9) (h1 : 1 ≤ n)
    (h : ∀ s b, lstB s = shW n w → Q (.str s) (H.set id b)) : WpCall E pure base bar 68 [.vec id ver 0 n 1] H Q := by
  have hlt := (List.getElem?_eq_some_iff.1 hid).1
  obtain ⟨b, e1⟩ := wood_frz1 hid hib
  have k := k68 (pure := pure) (base := base) (bar := bar) (H := H.set id b) (Q := Q) (ex := false) hT hw hD hn h1 (by simp; omega) fun s hs => h s b hs
  have e2 : frzAll bar (H.set id b) [.lst 1 false (wc n w)] = some ([.lst 1 false (wc n w)], H.set id b) := rfl
  rw [call68, e2] at k
  rw [call68, e1]
  exact k
/-- Shape -/
theorem k27 {n : Int} {q : AV} {l : List ZZ} {D : Nat → Nat → Nat} (hD : TrD n l D) (hq : isP q l) (hl : l.length < 1000) (hbar : bar ≤ H.length)
    (h1 : errT n l ≠ 0 → Q (.tup [.str (bytesOf []), .int .i64 (errT n l)]) H)
    (h2 : ∀ (m : Nat) w s, n = m → 1 ≤ m → m ≤ 9 → errT n l = 0 → Wd m l w → lstB s = shW m w → Q (.tup [.str s, .int .i64 0]) H) : WpCall E pure base bar 27 [.agg [.int .i64 n, q]] H Q := by
  rw [call27]
  have e0 : frzAll bar H [.agg [.int .i64 n, q]] = some ([.agg [.int .i64 n, q]], H) := by simp [frzAll, frz.frzs, frzsW, frz_agg, frz_int, hq.frz]
  rw [e0]
  have hb' : (if pure = true then H.length else bar) ≤ H.length := bar_if hbar
  simp [go_sem, WpFun, c27, hq.isTup, hq.cells, aload, AV.isTup, AV.cells]
  refine k49 hq hl (by simp; omega) (fun G he => ?_) (fun m w hm p1 p2 hw he => ?_)
  · have hh := h1 he
    simp [go_sem, he]
    exact hh
  · have hh := h2 m w
    obtain ⟨t1, t2⟩ := hD he m hm
    simp [go_sem, Nat.add_assoc]
    refine k68v (fz := 0) (ex := true) (w := w) (by simp [own_get]) (by omega) t1 hw t2 p2 p1 fun s b hs => ?_
    have hk := hh s hm p1 p2 he hw hs
    simp [go_sem, own_set]
    exact hk
end Go.Proofs.Ytoipleipokpnaaa.Code
end
section
namespace Go.Proofs.Ytoipleipokpnaaa.Code
open Go Go.Ab
variable {pure : Bool} {base bar : Nat} {H : Heap} {Q : AV → Heap → Prop} {K : AV → Heap → List Nat → Prop}
theorem eqWp_str {neg : Bool} {a b : ByteArray} {K : AV → Heap → List Nat → Prop} : eqWp neg .str (some (.str a)) (some (.str b)) H K = K (.bool (if neg then !decide (lstB a = lstB b) else decide (lstB a = lstB b))) H [] := by
  have e : (a.toList == b.toList) = decide (lstB a = lstB b) := by
    rw [ByteArray.toList_eq, ByteArray.toList_eq]
    by_cases h : a = b
    · subst h; simp
    · have h1 : ¬ lstB a = lstB b := fun e => h (lstB_inj e)
      have h2 : ¬ a.data = b.data := fun e => h1 (by unfold lstB; rw [e])
      simp [h1, h2]
  rw [eqWp_def]
  simp only [aeq, e]
/-- Alike, of two trees -/
theorem k24 {n n' : Nat} {q q' : AV} {l l' : List ZZ} {w w' : Nat → Nat} (hT : Tre n l) (hT' : Tre n' l') (hw : Wd n l w) (hw' : Wd n' l' w') (hq : isP q l) (hl : l.length < 1000) (hq' : isP q' l') (hl' : l'.length < 1000) (hbar : bar ≤ H.length)
    (h : Q (.tup [.bool (decide (shW n w = shW n' w')), .int .i64 0]) H) : WpCall E pure base bar 24 [.agg [.int .i64 (n : Nat), q], .agg [.int .i64 (n' : Nat), q']] H Q := by
  rw [call24]
  have e0 : frzAll bar H [.agg [.int .i64 (n : Nat), q], .agg [.int .i64 (n' : Nat), q']] = some ([.agg [.int .i64 (n : Nat), q], .agg [.int .i64 (n' : Nat), q']], H) := by simp [frzAll, frz.frzs, frzsW, frz_agg, frz_int, hq.frz, hq'.frz]
  rw [e0]
  have hb' : (if pure = true then H.length else bar) ≤ H.length := bar_if hbar
  obtain ⟨D, hD⟩ := trD_ex (n := n) (l := l)
  obtain ⟨D', hD'⟩ := trD_ex (n := n') (l := l')
  simp [go_sem, WpFun, c24, hq.isTup, hq.cells, hq'.isTup, hq'.cells, aload, AV.isTup, AV.cells]
  refine k27 hD hq hl (by simp; omega) (fun he => absurd hT.errT he) fun m w1 s em _ _ _ hw1 hs => ?_
  obtain rfl : n = m := by omega
  obtain rfl := wd_unique hw hw1
  simp [go_sem, aload]
  refine k27 hD' hq' hl' (by simp; omega) (fun he => absurd hT'.errT he) fun m w1 s' em _ _ _ hw1' hs' => ?_
  obtain rfl : n' = m := by omega
  obtain rfl := wd_unique hw' hw1'
  rw [← hs, ← hs'] at h
  simp [go_sem, eqWp_str]
  exact h
end Go.Proofs.Ytoipleipokpnaaa.Code
end
section
namespace Go.Proofs.Ytoipleipokpnaaa.Code
open Go Go.Ab
variable {pure : Bool} {base bar : Nat} {H : Heap} {Q : AV → Heap → Prop} {K : AV → Heap → List Nat → Prop}
/-! arguments that are frozen at the call -/
theorem wpcall_frz {f : FuncId} {af : AFun} {args args' : List AV} {H' : Heap} (hf : E.funs f = some af) (hr : af.raw = false) (h1 : frzAll bar H args = some (args', H')) (h2 : frzAll bar H' args' = some (args', H')) (k : WpCall E pure base bar f args' H' Q) : WpCall E pure base bar f args H Q := by
  unfold WpCall callWith at *
  simp only [hf, hr, h1, h2, Bool.false_eq_true, if_false] at *
  exact k
end Go.Proofs.Ytoipleipokpnaaa.Code
end
section
namespace Go.Proofs.Ytoipleipokpnaaa.Code
def leR (a b : List Nat) : Bool := lexL a b
theorem leR_anti {a b : List Nat} (h1 : leR a b = true) (h2 : leR b a = true) : a = b := lexL_anti h1 h2
theorem leR_total (a b : List Nat) : (leR a b || leR b a) = true := by
  rw [Bool.or_eq_true]; exact lexL_total a b
theorem leR_trans (a b c : List Nat) (h1 : leR a b = true) (h2 : leR b c = true) : leR a c = true := lexL_trans h1 h2
def sortR (l : List (List Nat)) : List (List Nat) := l.mergeSort leR
theorem sortR_perm {l m : List (List Nat)} (h : l.Perm m) : sortR l = sortR m := by
  refine perm_sorted (le := fun a b => leR a b = true) (fun a b => leR_anti) ?_ (List.pairwise_mergeSort leR_trans leR_total l) (List.pairwise_mergeSort leR_trans leR_total m)
  exact (List.mergeSort_perm l leR).trans (h.trans (List.mergeSort_perm m leR).symm)
/-- what hangs on a knot, less what it was reached from -/
def drawR (ch : Nat → List Nat) : Nat → Nat → Int → List Nat
  | 0, _, _ => []
  | t + 1, k, b => 40 :: ((sortR (((ch k).filter fun x : Nat => decide ((x : Int) ≠ b)).map fun x : Nat => drawR ch t x (k : Int))).flatten ++ [41])
/-- other numbers for the knots -/
theorem drawR_named {ch ch' : Nat → List Nat} {o : Nat → Nat} {n : Nat} (hin : ∀ k, k < n → ∀ x ∈ ch k, x < n) (ho : ∀ a b, a < n → b < n → o a = o b → a = b)
    (hch : ∀ k, k < n → (ch' (o k)).Perm ((ch k).map o)) : ∀ (t k : Nat) (b b' : Int), k < n → (b = -1 ∧ b' = -1 ∨ ∃ c, c < n ∧ b = (c : Int) ∧ b' = (o c : Int)) → drawR ch' t (o k) b' = drawR ch t k b
  | 0, _, _, _, _, _ => rfl
  | t + 1, k, b, b', hk, hb => by
    unfold drawR
    congr 2
    congr 1
    refine sortR_perm ?_
    have hp := ((hch k hk).filter fun x : Nat => decide ((x : Int) ≠ b')).map fun x : Nat => drawR ch' t x (o k : Int)
    refine hp.trans ?_
    rw [List.filter_map, List.map_map]
    have e1 : (ch k).filter ((fun x : Nat => decide ((x : Int) ≠ b')) ∘ o) = (ch k).filter fun x : Nat => decide ((x : Int) ≠ b) := by
      refine List.filter_congr fun x hx => ?_
      have hx' := hin k hk x hx
      simp only [Function.comp]
      rcases hb with ⟨rfl, rfl⟩ | ⟨c, hc, rfl, rfl⟩
      · simp
      · by_cases e : x = c
        · subst e; simp
        · have : o x ≠ o c := fun e' => e (ho x c hx' hc e')
          simp only [decide_eq_decide]
          omega
    rw [e1]
    refine List.Perm.of_eq (List.map_congr_left fun x hx => ?_)
    have hx' := hin k hk x (List.mem_filter.1 hx).1
    exact drawR_named hin ho hch t x (k : Int) (o k : Int) hx' (.inr ⟨k, hk, rfl, rfl⟩)
inductive DrR : List Nat → Prop
  | mk (L : List (List Nat)) (h : ∀ x ∈ L, DrR x) : DrR (40 :: (L.flatten ++ [41]))
theorem DrR.head {a : List Nat} (h : DrR a) : ∃ r, a = 40 :: r := by
  cases h with
  | mk L h => exact ⟨_, rfl⟩
theorem drR_list {N : Nat} (ih : ∀ a b s s' : List Nat, a.length < N → DrR a → DrR b → a ++ s = b ++ s' → a = b ∧ s = s') : ∀ (L M : List (List Nat)) (s s' : List Nat), (∀ x ∈ L, DrR x) → (∀ x ∈ M, DrR x) → L.flatten.length < N → L.flatten ++ 41 :: s = M.flatten ++ 41 :: s' → L = M ∧ s = s'
  | [], [], s, s', _, _, _, h => by
    simp at h
    exact ⟨rfl, h⟩
  | [], y :: M, s, s', _, hM, _, h => by
    obtain ⟨r, rfl⟩ := (hM y (List.mem_cons_self ..)).head
    simp at h
  | x :: L, [], s, s', hL, _, _, h => by
    obtain ⟨r, rfl⟩ := (hL x (List.mem_cons_self ..)).head
    simp at h
  | x :: L, y :: M, s, s', hL, hM, hN, h => by
    rw [List.flatten_cons, List.flatten_cons, List.append_assoc, List.append_assoc] at h
    rw [List.flatten_cons, List.length_append] at hN
    obtain ⟨e1, e2⟩ := ih x y _ _ (by omega) (hL x (List.mem_cons_self ..)) (hM y (List.mem_cons_self ..)) h
    obtain ⟨e3, e4⟩ := drR_list ih L M s s' (fun z hz => hL z (List.mem_cons_of_mem _ hz)) (fun z hz => hM z (List.mem_cons_of_mem _ hz)) (by omega) e2
    exact ⟨by rw [e1, e3], e4⟩
theorem drR_cancel : ∀ (N : Nat) (a b s s' : List Nat), a.length < N → DrR a → DrR b → a ++ s = b ++ s' → a = b ∧ s = s'
  | 0, _, _, _, _, h, _, _, _ => by omega
  | N + 1, a, b, s, s', hN, ha, hb, h => by
    cases ha with
    | mk L hL =>
      cases hb with
      | mk M hM =>
        simp only [List.cons_append, List.append_assoc, List.nil_append, List.cons.injEq, true_and] at h
        simp only [List.length_cons, List.length_append, List.length_nil] at hN
        obtain ⟨e1, e2⟩ := drR_list (N := N) (drR_cancel N) L M s s' hL hM (by omega) h
        exact ⟨by rw [e1], e2⟩
theorem drR_parts {L M : List (List Nat)} (hL : ∀ x ∈ L, DrR x) (hM : ∀ x ∈ M, DrR x) (h : 40 :: (L.flatten ++ [41]) = 40 :: (M.flatten ++ [41])) : L = M := by
  injection h with _ h
  exact (drR_list (N := L.flatten.length + 1) (drR_cancel _) L M [] [] hL hM (by omega) h).1
theorem sortR_mem {l : List (List Nat)} {x : List Nat} : x ∈ sortR l ↔ x ∈ l := (List.mergeSort_perm l leR).mem_iff
/-- equal drawings have the same parts, in some order -/
theorem drawR_parts {ch ch' : Nat → List Nat} {t t' k k' : Nat} {b b' : Int} (h1 : ∀ x ∈ ch k, (x : Int) ≠ b → DrR (drawR ch t x (k : Int))) (h2 : ∀ x ∈ ch' k', (x : Int) ≠ b' → DrR (drawR ch' t' x (k' : Int)))
    (h : drawR ch (t + 1) k b = drawR ch' (t' + 1) k' b') :
    (((ch k).filter fun x : Nat => decide ((x : Int) ≠ b)).map fun x : Nat => drawR ch t x (k : Int)).Perm (((ch' k').filter fun x : Nat => decide ((x : Int) ≠ b')).map fun x : Nat => drawR ch' t' x (k' : Int)) := by
  unfold drawR at h
  have := drR_parts (fun x hx => by
    rw [sortR_mem] at hx
    obtain ⟨y, hy, rfl⟩ := List.mem_map.1 hx
    obtain ⟨m1, m2⟩ := List.mem_filter.1 hy
    exact h1 y m1 (by simpa using m2)) (fun x hx => by
    rw [sortR_mem] at hx
    obtain ⟨y, hy, rfl⟩ := List.mem_map.1 hx
    obtain ⟨m1, m2⟩ := List.mem_filter.1 hy
    exact h2 y m1 (by simpa using m2)) h
  refine (List.mergeSort_perm _ leR).symm.trans ?_
  have e := List.mergeSort_perm (((ch' k').filter fun x : Nat => decide ((x : Int) ≠ b')).map fun x : Nat => drawR ch' t' x (k' : Int)) leR
  unfold sortR at this
  rw [this]
  exact e
theorem drawR_len {ch : Nat → List Nat} : ∀ {t k : Nat} {b : Int}, (drawR ch t k b).length = 2 * (ndsF ch t k b).length
  | 0, _, _ => rfl
  | t + 1, k, b => by
    unfold drawR ndsF
    have h1 := fun L : List (List Nat) => (List.mergeSort_perm L leR).flatten.length_eq
    unfold sortR
    rw [List.length_cons, List.length_append, h1]
    have : ∀ L : List Nat, ((L.map fun x : Nat => drawR ch t x (k : Int)).flatten).length = 2 * (L.flatMap fun x : Nat => ndsF ch t x (k : Int)).length := by
      intro L
      induction L with
      | nil => rfl
      | cons x r ih =>
        rw [List.map_cons, List.flatten_cons, List.length_append, ih, drawR_len, List.flatMap_cons, List.length_append]
        omega
    rw [this, List.length_cons]
    simp
    omega
variable {n n' : Nat} {f f' : Nat → Nat → Bool} {D D' : Nat → Nat → Nat} {ch ch' : Nat → List Nat}
theorem TrC.lenR (h : TrC n f D ch) {r : Nat} (hr : r < n) {t k : Nat} {b : Int} (hk : k < n) (hd : Down f D r k b) : (drawR ch t k b).length ≤ 2 * n := by
  rw [drawR_len]
  have := nodup_lt (h.nodup hr (t := t) hk hd) fun y hy => (h.nds hr hk hd y hy).1
  omega
theorem TrC.drR (h : TrC n f D ch) {r : Nat} (hr : r < n) : ∀ {t k : Nat} {b : Int}, k < n → Down f D r k b → t + D r k = n → DrR (drawR ch t k b)
  | 0, k, b, hk, hd, ht => by have := h.lt hr hk; omega
  | t + 1, k, b, hk, hd, ht => by
    unfold drawR
    refine DrR.mk _ fun x hx => ?_
    rw [sortR_mem] at hx
    obtain ⟨y, hy, rfl⟩ := List.mem_map.1 hx
    obtain ⟨m1, m2⟩ := List.mem_filter.1 hy
    obtain ⟨x1, x2, x3, x4⟩ := h.down hr hk hd m1 (of_decide_eq_true m2)
    exact TrC.drR h hr x1 x4 (by omega)
theorem prsR_list {r r' t t' k k' : Nat} (h : TrC n f D ch) (h' : TrC n' f' D' ch') (hr : r < n) (hr' : r' < n') (hk : k < n) (hk' : k' < n')
    (ih : ∀ (x x' : Nat), x < n → x' < n' → Down f D r x (k : Int) → Down f' D' r' x' (k' : Int) → t + D r x = n → t' + D' r' x' = n' → drawR ch t x (k : Int) = drawR ch' t' x' (k' : Int) → ∃ P, Prs f f' D D' r r' (ndsF ch t x (k : Int)) (ndsF ch' t' x' (k' : Int)) x x' P) :
    ∀ (L L' : List Nat), (∀ x ∈ L, f k x = true ∧ x < n ∧ D r x = D r k + 1 ∧ Down f D r x (k : Int) ∧ t + D r x = n) → (∀ x ∈ L', f' k' x = true ∧ x < n' ∧ D' r' x = D' r' k' + 1 ∧ Down f' D' r' x (k' : Int) ∧ t' + D' r' x = n') →
    L.map (fun x => drawR ch t x (k : Int)) = L'.map (fun x => drawR ch' t' x (k' : Int)) →
    ∃ P : List (Nat × Nat), (P.map Prod.fst).Perm (L.flatMap fun x => ndsF ch t x (k : Int)) ∧ (P.map Prod.snd).Perm (L'.flatMap fun x => ndsF ch' t' x (k' : Int)) ∧ ∀ q ∈ P, (f k q.1 = true ∧ f' k' q.2 = true ∧ D r k + 1 = D r q.1 ∧ D' r' k' + 1 = D' r' q.2) ∨ ∃ p ∈ P, f p.1 q.1 = true ∧ f' p.2 q.2 = true ∧ D r p.1 + 1 = D r q.1 ∧ D' r' p.2 + 1 = D' r' q.2
  | [], [], _, _, _ => ⟨[], List.Perm.refl _, List.Perm.refl _, fun q hq => by cases hq⟩
  | [], _ :: _, _, _, e => by simp at e
  | _ :: _, [], _, _, e => by simp at e
  | x :: L, x' :: L', hL, hL', e => by
    rw [List.map_cons, List.map_cons] at e
    injection e with e1 e2
    obtain ⟨a1, a2, a3, a4, a5⟩ := hL x (List.mem_cons_self ..)
    obtain ⟨b1, b2, b5, b3, b4⟩ := hL' x' (List.mem_cons_self ..)
    obtain ⟨P, hP⟩ := ih x x' a2 b2 a4 b3 a5 b4 e1
    obtain ⟨P2, p1, p2, p3⟩ := prsR_list h h' hr hr' hk hk' ih L L' (fun y hy => hL y (List.mem_cons_of_mem _ hy)) (fun y hy => hL' y (List.mem_cons_of_mem _ hy)) e2
    refine ⟨P ++ P2, ?_, ?_, fun q hq => ?_⟩
    · rw [List.map_append, List.flatMap_cons]; exact hP.one.append p1
    · rw [List.map_append, List.flatMap_cons]; exact hP.two.append p2
    · rcases List.mem_append.1 hq with hq | hq
      · rcases hP.par q hq with rfl | ⟨p, c1, c2⟩
        · exact .inl ⟨a1, b1, a3.symm, b5.symm⟩
        · exact .inr ⟨p, List.mem_append_left _ c1, c2⟩
      · rcases p3 q hq with c | ⟨p, c1, c2⟩
        · exact .inl c
        · exact .inr ⟨p, List.mem_append_right _ c1, c2⟩
theorem prsR_ex {r r' : Nat} (h : TrC n f D ch) (h' : TrC n' f' D' ch') (hr : r < n) (hr' : r' < n') : ∀ (t t' k k' : Nat) (b b' : Int), k < n → k' < n' → Down f D r k b → Down f' D' r' k' b' → t + D r k = n → t' + D' r' k' = n' →
    drawR ch t k b = drawR ch' t' k' b' → ∃ P, Prs f f' D D' r r' (ndsF ch t k b) (ndsF ch' t' k' b') k k' P
  | 0, _, k, _, _, _, hk, _, _, _, ht, _, _ => by have := h.lt hr hk; omega
  | t + 1, 0, _, k', _, _, _, hk', _, _, _, ht', _ => by have := h'.lt hr' hk'; omega
  | t + 1, t' + 1, k, k', b, b', hk, hk', hd, hd', ht, ht', e => by
    have d1 := fun x (hx : x ∈ ch k) hb => h.down hr hk hd hx hb
    have d2 := fun x (hx : x ∈ ch' k') hb => h'.down hr' hk' hd' hx hb
    have hp := drawR_parts (fun x hx hb => h.drR hr (d1 x hx hb).1 (d1 x hx hb).2.2.2 (by have := (d1 x hx hb).2.2.1; omega)) (fun x hx hb => h'.drR hr' (d2 x hx hb).1 (d2 x hx hb).2.2.2 (by have := (d2 x hx hb).2.2.1; omega)) e
    obtain ⟨M, m1, m2⟩ := map_perm hp
    obtain ⟨P, p1, p2, p3⟩ := prsR_list h h' hr hr' hk hk' (fun x x' hx hx' a1 a2 a3 a4 a5 => prsR_ex h h' hr hr' t t' x x' _ _ hx hx' a1 a2 a3 a4 a5) _ M (fun x hx => by
        obtain ⟨c1, c2⟩ := List.mem_filter.1 hx
        obtain ⟨x1, x2, x3, x4⟩ := d1 x c1 (of_decide_eq_true c2)
        exact ⟨h.tm.symF x2, x1, x3, x4, by omega⟩) (fun x hx => by
        have hx2 := m1.mem_iff.1 hx
        obtain ⟨c1, c2⟩ := List.mem_filter.1 hx2
        obtain ⟨x1, x2, x3, x4⟩ := d2 x c1 (of_decide_eq_true c2)
        exact ⟨h'.tm.symF x2, x1, x3, x4, by omega⟩) m2
    refine ⟨(k, k') :: P, ?_, ?_, List.mem_cons_self .., fun q hq => ?_⟩
    · unfold ndsF
      rw [List.map_cons]; exact List.Perm.cons k p1
    · unfold ndsF
      rw [List.map_cons]; exact List.Perm.cons k' (p2.trans (m1.flatMap_right _))
    · rcases List.mem_cons.1 hq with e | hq
      · exact .inl e
      · rcases p3 q hq with ⟨c1, c2, c3⟩ | ⟨p, c1, c2⟩
        · exact .inr ⟨(k, k'), List.mem_cons_self .., c1, c2, c3⟩
        · exact .inr ⟨p, List.mem_cons_of_mem _ c1, c2⟩
theorem isoR_ex {r r' : Nat} (h : TrC n f D ch) (h' : TrC n' f' D' ch') (hr : r < n) (hr' : r' < n') (e : drawR ch n r (-1) = drawR ch' n' r' (-1)) :
    n = n' ∧ ∃ o i, Prm n o i ∧ ∀ x y, x < n → y < n → f' (o x) (o y) = f x y := by
  obtain ⟨P, hP⟩ := prsR_ex h h' hr hr' n n' r r' (-1) (-1) hr hr' (.inl ⟨rfl, rfl⟩) (.inl ⟨rfl, rfl⟩) (by rw [h.tm.zero hr]; omega) (by rw [h'.tm.zero hr']; omega) e
  have p1 := hP.one.trans (h.range hr)
  have p2 := hP.two.trans (h'.range hr')
  have en : n = n' := by
    have a := p1.length_eq
    have b := p2.length_eq
    rw [List.length_map, List.length_range] at a b
    omega
  subst en
  have n1 : (P.map Prod.fst).Nodup := p1.nodup_iff.2 List.nodup_range
  have n2 : ((P.map Prod.swap).map Prod.fst).Nodup := by
    rw [List.map_map, show (Prod.fst ∘ Prod.swap : Nat × Nat → Nat) = Prod.snd from rfl]
    exact p2.nodup_iff.2 List.nodup_range
  have l1 : ∀ {x y}, (x, y) ∈ P → lookP P x = y := fun hxy => lookP_eq n1 hxy
  have l2 : ∀ {x y}, (x, y) ∈ P → lookP (P.map Prod.swap) y = x := fun hxy => lookP_eq n2 (List.mem_map.2 ⟨_, hxy, rfl⟩)
  have m1 : ∀ {x}, x < n → ∃ y, y < n ∧ (x, y) ∈ P := fun {x} hx => by
    obtain ⟨⟨a, b⟩, hq, rfl⟩ := List.mem_map.1 (p1.mem_iff.2 (List.mem_range.2 hx))
    exact ⟨b, List.mem_range.1 (p2.mem_iff.1 (List.mem_map.2 ⟨_, hq, rfl⟩)), hq⟩
  have m2 : ∀ {y}, y < n → ∃ x, x < n ∧ (x, y) ∈ P := fun {y} hy => by
    obtain ⟨⟨a, b⟩, hq, rfl⟩ := List.mem_map.1 (p2.mem_iff.2 (List.mem_range.2 hy))
    exact ⟨a, List.mem_range.1 (p1.mem_iff.1 (List.mem_map.2 ⟨_, hq, rfl⟩)), hq⟩
  have hp : Prm n (lookP P) (lookP (P.map Prod.swap)) := by
    refine ⟨fun x hx => ?_, fun y hy => ?_, fun y hy => ?_, fun x hx => ?_⟩
    · obtain ⟨y, y1, y2⟩ := m1 hx; rw [l1 y2]; exact y1
    · obtain ⟨x, x1, x2⟩ := m2 hy; rw [l2 x2]; exact x1
    · obtain ⟨x, x1, x2⟩ := m2 hy; rw [l2 x2, l1 x2]
    · obtain ⟨y, y1, y2⟩ := m1 hx; rw [l1 y2, l2 y2]
  have go : ∀ {x y}, f x y = true → D r y = D r x + 1 → f' (lookP P x) (lookP P y) = true := fun {x y} hxy hd => by
    obtain ⟨hx, hy, _⟩ := h.tm.inV hxy
    obtain ⟨y', y1, y2⟩ := m1 hy
    rw [l1 y2]
    have hne : r ≠ y := fun e => by subst e; rw [h.tm.zero hr] at hd; omega
    rcases hP.par _ y2 with e | ⟨⟨p, p'⟩, c1, c2, c3, c4, _⟩
    · exact absurd (congrArg Prod.fst e).symm hne
    · obtain ⟨b, _, _, b3⟩ := h.tm.par hr hy hne
      have e1 := b3 p (h.tm.symF c2) c4
      have e2 := b3 x (h.tm.symF hxy) hd.symm
      rw [← e2] at e1
      subst e1
      rw [l1 c1]; exact c3
  have back : ∀ {x y}, f' x y = true → D' r' y = D' r' x + 1 → f (lookP (P.map Prod.swap) x) (lookP (P.map Prod.swap) y) = true := fun {x y} hxy hd => by
    obtain ⟨hx, hy, _⟩ := h'.tm.inV hxy
    obtain ⟨y', y1, y2⟩ := m2 hy
    rw [l2 y2]
    have hne : r' ≠ y := fun e => by subst e; rw [h'.tm.zero hr'] at hd; omega
    rcases hP.par _ y2 with e | ⟨⟨p, p'⟩, c1, c2, c3, _, c4⟩
    · exact absurd (congrArg Prod.snd e).symm hne
    · obtain ⟨b, _, _, b3⟩ := h'.tm.par hr' hy hne
      have e1 := b3 p' (h'.tm.symF c3) c4
      have e2 := b3 x (h'.tm.symF hxy) hd.symm
      rw [← e2] at e1
      subst e1
      rw [l2 c1]; exact c2
  refine ⟨rfl, _, _, hp, fun x y hx hy => ?_⟩
  rw [Bool.eq_iff_iff]
  constructor
  · intro hxy
    rcases h'.tm.step hr' hxy with d | d
    · have := back hxy d
      rwa [hp.io x hx, hp.io y hy] at this
    · have := back (h'.tm.symF hxy) d
      rw [hp.io x hx, hp.io y hy] at this
      exact h.tm.symF this
  · intro hxy
    rcases h.tm.step hr hxy with d | d
    · exact go hxy d
    · exact h'.tm.symF (go (h.tm.symF hxy) d)
end Go.Proofs.Ytoipleipokpnaaa.Code
end
section
namespace Go.Proofs.Ytoipleipokpnaaa.Code
open Go Go.Ab
def minL (a b : List Nat) : List Nat := if lexL a b then a else b
theorem le_minL {a b c : List Nat} : lexL c (minL a b) = true ↔ lexL c a = true ∧ lexL c b = true := by
  unfold minL
  by_cases h : lexL a b = true
  · rw [if_pos h]; exact ⟨fun e => ⟨e, lexL_trans e h⟩, fun e => e.1⟩
  · rw [if_neg h]
    have h' : lexL b a = true := (lexL_total a b).resolve_left h
    exact ⟨fun e => ⟨lexL_trans e h', e⟩, fun e => e.2⟩
/-- the smallest of some drawings, the first one apart -/
theorem le_fold {l : List (List Nat)} {a c : List Nat} : lexL c (l.foldl minL a) = true ↔ lexL c a = true ∧ ∀ x ∈ l, lexL c x = true := by
  induction l generalizing a with
  | nil => simp
  | cons y r ih =>
    rw [List.foldl_cons, ih, le_minL]
    simp [and_assoc]
theorem fold_mem {l : List (List Nat)} {a : List Nat} : l.foldl minL a = a ∨ l.foldl minL a ∈ l := by
  induction l generalizing a with
  | nil => exact .inl rfl
  | cons y r ih =>
    rw [List.foldl_cons]
    rcases ih (a := minL a y) with e | e
    · rw [e]
      unfold minL
      split
      · exact .inl rfl
      · exact .inr (List.mem_cons_self ..)
    · exact .inr (List.mem_cons_of_mem _ e)
/-- the reference's shape -/
def shR (n : Nat) (w : Nat → Nat) : List Nat := ((List.range' 1 (n - 1)).map fun k => drawR (chW w) n k (-1)).foldl minL (drawR (chW w) n 0 (-1))
theorem shR_le {n : Nat} {w : Nat → Nat} (h1 : 1 ≤ n) {c : List Nat} : lexL c (shR n w) = true ↔ ∀ k, k < n → lexL c (drawR (chW w) n k (-1)) = true := by
  unfold shR
  rw [le_fold]
  constructor
  · rintro ⟨e1, e2⟩ k hk
    rcases Nat.eq_zero_or_pos k with rfl | h
    · exact e1
    · exact e2 _ (List.mem_map.2 ⟨k, List.mem_range'_1.2 (by omega), rfl⟩)
  · intro e
    refine ⟨e 0 h1, fun x hx => ?_⟩
    obtain ⟨k, hk, rfl⟩ := List.mem_map.1 hx
    have := List.mem_range'_1.1 hk
    exact e k (by omega)
theorem shR_get {n : Nat} {w : Nat → Nat} (h1 : 1 ≤ n) : ∃ k, k < n ∧ shR n w = drawR (chW w) n k (-1) := by
  unfold shR
  rcases fold_mem (l := (List.range' 1 (n - 1)).map fun k => drawR (chW w) n k (-1)) (a := drawR (chW w) n 0 (-1)) with e | e
  · exact ⟨0, h1, e⟩
  · obtain ⟨k, hk, e⟩ := List.mem_map.1 e
    have := List.mem_range'_1.1 hk
    exact ⟨k, by omega, e.symm⟩
/-- the same tree but for the numbers -/
def IsoT (n : Nat) (l : List ZZ) (n' : Nat) (l' : List ZZ) : Prop := n = n' ∧ ∃ o i, Prm n o i ∧ ∀ x y, x < n → y < n → tieB l' (o x) (o y) = tieB l x y
variable {n n' : Nat} {l l' : List ZZ} {w w' : Nat → Nat}
theorem shW_iff (ht : Tre n l) (ht' : Tre n' l') (hw : Wd n l w) (hw' : Wd n' l' w') : shW n w = shW n' w' ↔ IsoT n l n' l' := by
  obtain ⟨D, t1, t2⟩ := ht.tm
  obtain ⟨D', t1', t2'⟩ := ht'.tm
  have hms := mid_same ht.nine ht.one t1 hw t2
  have hms' := mid_same ht'.nine ht'.one t1' hw' t2'
  unfold shW
  rw [hms, hms']
  constructor
  · intro e
    have mid_ne : ∀ {n : Nat} {D : Nat → Nat → Nat}, 1 ≤ n → (∀ x y, x < n → y < n → D x y < n) → midF n D n ≠ [] := fun {n D} h1 hD => by
      obtain ⟨x, hx, e⟩ : ∃ x, x < n ∧ rchF n D x = mnF n (rchF n D) n := by
        rcases mnF_get (m0 := n) (F := rchF n D) (n := n) with e | ⟨x, hx, e⟩
        · have := mnF_le (m0 := n) (F := rchF n D) (n := n) (x := 0) h1
          have : rchF n D 0 ≤ n - 1 := mx_le fun y hy => by have := hD 0 y h1 hy; omega
          omega
        · exact ⟨x, hx, e.symm⟩
      exact List.ne_nil_of_mem (mid_in.2 ⟨hx, e⟩)
    have first : ∀ {n : Nat} {w : Nat → Nat} {mid : List Nat}, mid ≠ [] → ∃ r ∈ mid, shapeF (chW w) n mid = drawF (chW w) n r (-1) := fun {n w mid} h => by
      have := topL_mem (l := mid.map fun k => drawF (chW w) n k (-1)) (by simpa using h)
      obtain ⟨r, h1, h2⟩ := List.mem_map.1 this
      exact ⟨r, h1, h2.symm⟩
    obtain ⟨r, r1, r2⟩ := first (n := n) (w := w) (mid_ne ht.one t2)
    obtain ⟨r', r1', r2'⟩ := first (n := n') (w := w') (mid_ne ht'.one t2')
    exact iso_ex (trC_of t1 hw t2) (trC_of t1' hw' t2') (mid_in.1 r1).1 (mid_in.1 r1').1 (by rw [← r2, ← r2', e])
  · rintro ⟨rfl, o, i, hp, hf⟩
    exact (shape_ren hp (fun x y hx hy => hp.dist t1 t1' hf hx hy) hw hw' hf).symm
theorem shR_iff (ht : Tre n l) (ht' : Tre n' l') (hw : Wd n l w) (hw' : Wd n' l' w') : shR n w = shR n' w' ↔ IsoT n l n' l' := by
  obtain ⟨D, t1, t2⟩ := ht.tm
  obtain ⟨D', t1', t2'⟩ := ht'.tm
  constructor
  · intro e
    obtain ⟨r, r1, r2⟩ := shR_get (w := w) ht.one
    obtain ⟨r', r1', r2'⟩ := shR_get (w := w') ht'.one
    exact isoR_ex (trC_of t1 hw t2) (trC_of t1' hw' t2') r1 r1' (by rw [← r2, ← r2', e])
  · rintro ⟨rfl, o, i, hp, hf⟩
    have hd : ∀ k, k < n → drawR (chW w') n (o k) (-1) = drawR (chW w) n k (-1) := fun k hk =>
      drawR_named (n := n) (o := o) (fun k hk x hx => bits_in hw hx) (fun a b ha hb e => hp.inj ha hb e) (fun k hk => bits_ren hp hw hw' hf hk) n k (-1) (-1) hk (.inl ⟨rfl, rfl⟩)
    have eq_of_ge : ∀ {a b : List Nat}, (∀ c, lexL c a = true ↔ lexL c b = true) → a = b := fun {a b} h => lexL_anti ((h a).1 (lexL_refl a)) ((h b).2 (lexL_refl b))
    refine eq_of_ge fun c => ?_
    rw [shR_le ht.one, shR_le ht.one]
    constructor
    · intro e k hk
      have := e (i k) (hp.li k hk)
      rw [← hd _ (hp.li k hk), hp.oi k hk] at this
      exact this
    · intro e k hk
      rw [← hd k hk]
      exact e _ (hp.lo k hk)
theorem shapes_agree (ht : Tre n l) (ht' : Tre n' l') (hw : Wd n l w) (hw' : Wd n' l' w') : decide (shR n w = shR n' w') = decide (shW n w = shW n' w') := by
  rw [decide_eq_decide, shR_iff ht ht' hw hw', shW_iff ht ht' hw hw']
end Go.Proofs.Ytoipleipokpnaaa.Code
end
section
namespace Go.Proofs.Ytoipleipokpnaaa.Code
open Go Go.Ab
variable {pure : Bool} {base bar : Nat} {H : Heap} {Q : AV → Heap → Prop} {K : AV → Heap → List Nat → Prop}
/-! the reference's code of what hangs on a knot -/
theorem l77a {n k t p : Nat} {b : Int} {q : AV} {l : List ZZ} {w : Nat → Nat} {H0 : Heap} (hq : isP q l) (hl : l.length < 1000) (hn : n ≤ 9) (hp : H0[p]? = some (.row 0 [.int .i64 (n : Nat), q] 0 true)) (hself : tieB l k k = false) (hb : bar ≤ H0.length) (hbase : base ≤ H0.length)
    (hrec : ∀ x, x < n → tieB l k x = true → (x : Int) ≠ b → ∀ (pure : Bool) (base bar : Nat) (H : Heap) (Q : AV → Heap → Prop), bar ≤ H.length → (∀ s, lstB s = drawR (chW w) t x (k : Int) → Q (.str s) H) → WpCall E pure base bar 77 [.agg [.int .i64 (n : Nat), q], .int .i64 (x : Nat), .int .i64 (k : Nat)] H Q) {R : PQ} :
    ∀ (m i : Nat), i + m = n → ∀ (S : List ByteArray) (v : AV) (H : Heap), OS H0.length S v H → S.map lstB = ((List.range i).filter fun x : Nat => tieB l k x && decide ((x : Int) ≠ b)).map (fun x : Nat => drawR (chW w) t x (k : Int)) → H0.length ≤ H.length → (∀ j, j < H0.length → H[j]? = H0[j]?) →
    (∀ S v' H', OS H0.length S v' H' → S.map lstB = ((List.range n).filter fun x : Nat => tieB l k x && decide ((x : Int) ≠ b)).map (fun x : Nat => drawR (chW w) t x (k : Int)) → H0.length ≤ H'.length → (∀ j, j < H0.length → H'[j]? = H0[j]?) → R (.exit 0) [(1, .int .i64 (k : Nat)), (2, .int .i64 b), (3, .ptr p 0 0), (7, v'), (8, .int .i64 (n : Nat)), (16, .bool false)] H') →
    Wp E base bar (.loop c77_l0) [(1, .int .i64 (k : Nat)), (2, .int .i64 b), (3, .ptr p 0 0), (7, v), (8, .int .i64 (i : Nat))] H R := by
  intro m
  induction m with
  | zero =>
    intro i hi S v H g hS hH hlow h
    obtain rfl : i = n := by omega
    have hp' : H[p]? = some (.row 0 [.int .i64 (i : Nat), q] 0 true) := by rw [hlow p (List.getElem?_eq_some_iff.1 hp).1]; exact hp
    rw [wp_round c77_l0.eq_1]
    simp [go_sem, aload, hp', Ab.part]
    exact h S v H g hS hH hlow
  | succ m ih =>
    intro i hi S v H g hS hH hlow h
    have hlt : i < n := by omega
    have hp' : H[p]? = some (.row 0 [.int .i64 (n : Nat), q] 0 true) := by rw [hlow p (List.getElem?_eq_some_iff.1 hp).1]; exact hp
    have hnext := ih (i + 1) (by omega)
    rw [List.range_succ] at hnext
    have hSl : S.length ≤ 9 := by
      have := congrArg List.length hS
      rw [List.length_map, List.length_map] at this
      have h2 := List.length_filter_le (fun x : Nat => tieB l k x && decide ((x : Int) ≠ b)) (List.range i)
      rw [List.length_range] at h2
      omega
    have hw := i64_suc (show i < 1000000 by omega)
    rw [wp_round c77_l0.eq_1]
    by_cases e1 : i = k
    · subst e1
      simp [go_sem, aload, hp', Ab.part, hlt, hw]
      exact hnext S v H g (by simpa [List.filter_append, hself] using hS) hH hlow h
    · have e1' : ¬ (i : Int) = (k : Int) := by omega
      by_cases e2 : (i : Int) = b
      · simp [go_sem, aload, hp', Ab.part, hlt, e1, e1', e2, hw]
        subst e2
        simp [go_sem, aload, hp', Ab.part, hlt, e1, e1', hw]
        exact hnext S v H g (by simpa [List.filter_append] using hS) hH hlow h
      · simp [go_sem, aload, hp', Ab.part, hlt, e1, e1', e2]
        refine k54 hq hl ?_
        rw [tieZ_nat]
        cases ht : tieB l k i with
        | false =>
          simp [go_sem, hw]
          exact hnext S v H g (by simpa [List.filter_append, ht] using hS) hH hlow h
        | true =>
          simp [go_sem, aload, hp', Ab.part]
          refine hrec i hlt ht e2 _ _ _ _ _ (by omega) fun s hs => ?_
          simp [go_sem, aop, evs, Opd.ev, fillA, chunks]
          refine g.str (by omega) (by omega) (by omega) (by omega) fun v' H' tc g' hl' hlow' => ?_
          simp [go_sem, hw]
          exact hnext (S ++ [s]) v' H' g' (by simp [List.filter_append, hS, hs, e2, ht]) (by omega) (fun j hj => by rw [hlow' j hj, hlow j hj]) h
/-! sorting by neighbours -/
def LR (x y : ByteArray) : Prop := lexL (lstB y) (lstB x) = false
theorem LR_iff {x y : ByteArray} : ¬ LR y x ↔ leR (lstB x) (lstB y) = true := by unfold LR leR; simp
theorem LR.asymm {x y : ByteArray} (h1 : LR x y) (h2 : LR y x) : False := by
  unfold LR at h1 h2
  rcases lexL_total (lstB x) (lstB y) with h | h
  · rw [h] at h2; cases h2
  · rw [h] at h1; cases h1
theorem LR.le {x y z : ByteArray} (h1 : ¬ LR y x) (h2 : ¬ LR z y) : ¬ LR z x := by
  rw [LR_iff] at *
  exact leR_trans _ _ _ h1 h2
def srR (L : List ByteArray) : Prop := L.Pairwise fun p q => ¬ LR q p
theorem less_R {x y : ByteArray} : Op.bytesLess x.toList y.toList = !lexL (lstB y) (lstB x) := by
  rw [ByteArray.toList_eq, ByteArray.toList_eq, less_lex]; rfl
theorem l77b {id ver n i : Nat} {ex : Bool} {x : ByteArray} {C : List ByteArray} {H0 : Heap} (hid : id < H0.length) (hb : bar ≤ id) (hn : n < 1000) {R : PQ} : ∀ (A B : List ByteArray), A.length + B.length + C.length + 1 = n → srR (A ++ B) → (∀ b ∈ B, LR x b) →
    (∀ S : List ByteArray, S.Perm (A ++ x :: B) → srR S → ∀ v, R (.exit 4) [(7, .vec id ver 0 n 1), (9, .int .i64 (i : Nat)), (10, v), (61, .bool false)] (H0.set id (.row ver (sts (S ++ C)) 0 ex))) →
    Wp E base bar (.loop c77_l1) [(7, .vec id ver 0 n 1), (9, .int .i64 (i : Nat)), (10, .int .i64 (A.length : Nat))] (H0.set id (.row ver (sts (A ++ x :: B ++ C)) 0 ex)) R := by
  intro A
  obtain ⟨m, hm⟩ : ∃ m, A.length = m := ⟨_, rfl⟩
  induction m generalizing A with
  | zero =>
    intro B hl hs hB h
    have : A = [] := List.length_eq_zero_iff.1 hm
    subst this
    have hh := h (x :: B) (List.Perm.refl _) (List.pairwise_cons.2 ⟨fun b hb hlt => LR.asymm hlt (hB b hb), hs⟩)
    rw [wp_round c77_l1.eq_1]
    simp [go_sem]
    exact hh _
  | succ m ih =>
    intro B hl hs hB h
    obtain ⟨A', y, rfl⟩ : ∃ A' y, A = A' ++ [y] := by
      rcases List.eq_nil_or_concat A with e | ⟨A', y, e⟩
      · subst e; simp at hm
      · exact ⟨A', y, by rw [e, List.concat_eq_append]⟩
    have hm' : A'.length = m := by simpa using hm
    rw [hm]
    have eL : A' ++ [y] ++ x :: B ++ C = A' ++ y :: x :: (B ++ C) := by simp
    have hlen : (A' ++ y :: x :: (B ++ C)).length = n := by simp at hl ⊢; omega
    have hx : (A' ++ y :: x :: (B ++ C))[m + 1]'(by simp; omega) = x := by
      rw [List.getElem_append_right (by omega)]
      simp [hm']
    have hy : (A' ++ y :: x :: (B ++ C))[m]'(by simp; omega) = y := by
      rw [List.getElem_append_right (by omega)]
      simp [hm']
    have hset : ((A' ++ y :: x :: (B ++ C)).set (m + 1) y).set m x = A' ++ x :: (y :: B) ++ C := by
      rw [List.set_append_right _ _ (by omega), List.set_append_right _ _ (by omega)]
      simp [hm']
    have hr1 := sts_part (L := A' ++ y :: x :: (B ++ C)) (i := m + 1) (by omega)
    have hr2 := sts_part (L := A' ++ y :: x :: (B ++ C)) (i := m) (by omega)
    rw [hx] at hr1
    rw [hy] at hr2
    have hs1 := sts_set (L := A' ++ y :: x :: (B ++ C)) (i := m + 1) (p := y)
    have hs2 := sts_set (L := (A' ++ y :: x :: (B ++ C)).set (m + 1) y) (i := m) (p := x)
    rw [hset] at hs2
    have hw : IntKind.i64.wrap (((m + 1 : Nat) : Int) - 1) = ((m : Nat) : Int) := by rw [Go.IntWalk.i64_in _ (by omega)]; omega
    have hpl := sts_length (l := A' ++ y :: x :: (B ++ C))
    rw [hlen] at hpl
    have hsA : srR (A' ++ (y :: B)) := by simpa using hs
    have hgo := fun (hyx : LR x y) => ih A' hm' (y :: B) (by simp at hl ⊢; omega) hsA (fun b hb => by
      rcases List.mem_cons.1 hb with rfl | hb
      · exact hyx
      · exact hB b hb) (fun S hS => h S (hS.trans (by simpa using (List.Perm.append_left A' (List.Perm.swap y x B)))))
    rw [hm'] at hgo
    have hstop : ¬ LR x y → srR (A' ++ [y] ++ x :: B) := fun hno => by
      unfold srR at hs ⊢
      rw [List.pairwise_append] at hs ⊢
      obtain ⟨s1, s2, s3⟩ := hs
      refine ⟨s1, List.pairwise_cons.2 ⟨fun b hb hlt => LR.asymm hlt (hB b hb), s2⟩, fun a ha b hb => ?_⟩
      rcases List.mem_cons.1 hb with rfl | hb
      · rcases List.mem_append.1 ha with ha | ha
        · rw [List.pairwise_append] at s1
          exact LR.le (s1.2.2 a ha y (by simp)) hno
        · rw [List.mem_singleton.1 ha]; exact hno
      · exact s3 a ha b hb
    rw [eL]
    have hg : (H0.set id (.row ver (sts (A' ++ y :: x :: (B ++ C))) 0 ex))[id]? = some (.row ver (sts (A' ++ y :: x :: (B ++ C))) 0 ex) := List.getElem?_set_self hid
    have hset2 : ∀ b c : Blk, (H0.set id b).set id c = H0.set id c := fun b c => by rw [List.set_set]
    have hfin := fun hno v => h _ (List.Perm.refl _) (hstop hno) v
    rw [eL] at hfin
    rw [← hs2, ← hs1] at hgo
    clear hx hy hset hs2 hs1 eL
    generalize A' ++ y :: x :: (B ++ C) = L at *
    have i1 : m + 1 < n := by simp at hl; omega
    have i2 : m < n := by omega
    have hA1 : aload (H0.set id (.row ver (sts L) 0 ex)) ⟨false, 1⟩ (.ptr id ver (m + 1)) = some (.str x) := by rw [aload_ptr hg]; exact hr1
    have hA2 : aload (H0.set id (.row ver (sts L) 0 ex)) ⟨false, 1⟩ (.ptr id ver m) = some (.str y) := by rw [aload_ptr hg]; exact hr2
    have hj0 : 0 < m + 1 := by omega
    have hless := less_R (x := x) (y := y)
    have hab : abin .lss (.str x) (.str y) = some (.bool (Op.bytesLess x.toList y.toList)) := rfl
    clear hr1 hr2 hl hlen
    generalize m + 1 = j at *
    rw [wp_round c77_l1.eq_1]
    by_cases hlt : LR x y
    · have hc : Op.bytesLess x.toList y.toList = true := by rw [hless, hlt]; rfl
      have hh := hgo hlt
      simp [go_sem, i1, i2, hw, hA1, hA2, hj0, hab, hc]
      rw [storeWp_ptr (size := 1) hg rfl rfl (by omega) (by omega) hb (.inr (st_tops _)), hset2]
      have hg2 : (H0.set id (.row ver ((sts L).set j (AV.str y)) 0 ex))[id]? = some (.row ver ((sts L).set j (AV.str y)) 0 ex) := List.getElem?_set_self hid
      simp [go_sem, i1, i2, hw]
      rw [storeWp_ptr (size := 1) (v := .str x) hg2 rfl rfl (by omega) (by rw [List.length_set]; omega) hb (.inr (by exact st_tops _)), hset2]
      simp [go_sem, hw]
      simp only [setCells] at hh
      simpa [setCells, AV.cells] using hh
    · have hc : Op.bytesLess x.toList y.toList = false := by
        have : lexL (lstB y) (lstB x) = true := by unfold LR at hlt; simpa using hlt
        rw [hless, this]; rfl
      simp [go_sem, i1, i2, hw, hA1, hA2, hj0, hab, hc]
      exact hfin hlt _
theorem l77c {id ver n : Nat} {ex : Bool} {L0 : List ByteArray} {H0 : Heap} (hid : id < H0.length) (hb : bar ≤ id) (hn : n < 1000) {R : PQ} 
    (h : ∀ S : List ByteArray, S.Perm L0 → srR S → R (.exit 2) [(7, .vec id ver 0 n 1), (9, .int .i64 (n : Nat)), (44, .bool false)] (H0.set id (.row ver (sts S) 0 ex))) :
    ∀ (k i : Nat) (L : List ByteArray), i + k = n → L.Perm L0 → L.length = n → srR (L.take i) →
    Wp E base bar (.loop c77_l2) [(7, .vec id ver 0 n 1), (9, .int .i64 (i : Nat))] (H0.set id (.row ver (sts L) 0 ex)) R := by
  intro k
  induction k with
  | zero =>
    intro i L hi hp hl hs
    obtain rfl : i = n := by omega
    rw [List.take_of_length_le (by omega)] at hs
    rw [wp_round c77_l2.eq_1]
    simp [go_sem]
    exact h L hp hs
  | succ k ih =>
    intro i L hi hp hl hs
    have hlt : i < L.length := by omega
    have hin : i < n := by omega
    have e1 : L.take i ++ L[i] :: [] ++ L.drop (i + 1) = L := by
      rw [List.append_assoc, List.cons_append, List.nil_append, ← List.drop_eq_getElem_cons hlt, List.take_append_drop]
    have htl : (L.take i).length = i := by rw [List.length_take]; omega
    have hw := i64_suc (show i < 1000000 by omega)
    rw [wp_round c77_l2.eq_1]
    simp [go_sem, hin]
    have hin' := fun (R : PQ) => l77b (base := base) (bar := bar) (ver := ver) (n := n) (i := i) (ex := ex) (x := L[i]) (C := L.drop (i + 1)) hid hb hn (R := R) (L.take i) [] (by simp; omega) (by simpa using hs) (by simp)
    rw [e1, htl] at hin'
    refine hin' _ fun S hS hsS v => ?_
    simp [go_sem, hw]
    have hSl : S.length = i + 1 := by rw [hS.length_eq]; simp; omega
    refine ih (i + 1) _ (by omega) ?_ ?_ ?_
    · refine ((List.Perm.append_right _ hS).trans ?_).trans hp
      rw [e1]
    · rw [List.length_append, hSl, List.length_drop]; omega
    · rw [List.take_append_of_le_length (by omega), List.take_of_length_le (by omega)]; exact hsS
/-- all strings in a row -/
theorem l77d {v : AV} {S : List ByteArray} {A0 : List Nat} (hlen : ∀ (H : Heap) (K : AV → Heap → List Nat → Prop), lenWp (some v) H K = K (.int .i64 (S.length : Int)) H []) (hix : ∀ (i : Nat) (hi : i < S.length) (K : AV → Heap → List Nat → Prop), ∃ p, ixaSWp 1 (some v) (some (.int .i64 (i : Int))) H K = K p H [] ∧ aload H ⟨false, 1⟩ p = some (.str S[i]))
    (hS : S.length < 1000) (hsz : A0.length + (S.map lstB).flatten.length ≤ 1000) {R : PQ} : ∀ (k i : Nat), i + k = S.length → ∀ s : ByteArray, lstB s = A0 ++ ((S.take i).map lstB).flatten →
    (∀ s, lstB s = A0 ++ (S.map lstB).flatten → R (.exit 6) [(7, v), (11, .str s), (12, .int .i64 (S.length : Nat)), (83, .bool false)] H) →
    Wp E base bar (.loop c77_l3) [(7, v), (11, .str s), (12, .int .i64 (i : Nat))] H R := by
  intro k
  induction k with
  | zero =>
    intro i hi s hs h
    obtain rfl : i = S.length := by omega
    rw [List.take_length] at hs
    rw [wp_round c77_l3.eq_1]
    simp [go_sem, hlen]
    exact h s hs
  | succ k ih =>
    intro i hi s hs h
    have hlt : i < S.length := by omega
    have htk : S.take (i + 1) = S.take i ++ [S[i]] := by rw [List.take_add_one, List.getElem?_eq_getElem hlt]; rfl
    have hnext := ih (i + 1) (by omega)
    rw [htk] at hnext
    have hw := i64_suc (show i < 1000000 by omega)
    have hle : (((S.take i).map lstB).flatten).length ≤ (S.map lstB).flatten.length := by
      have : (S.map lstB).flatten = ((S.take i).map lstB).flatten ++ ((S.drop i).map lstB).flatten := by
        rw [← List.flatten_append, ← List.map_append, List.take_append_drop]
      rw [this, List.length_append]; omega
    have h2 : (lstB S[i]).length ≤ (S.map lstB).flatten.length := List.Sublist.length_le (List.sublist_flatten_of_mem (List.mem_map.2 ⟨_, List.getElem_mem hlt, rfl⟩))
    have hss : s.size ≤ 1000 := by rw [← lstB_len, hs, List.length_append]; omega
    have hsi : (S[i]).size ≤ 1000 := by rw [← lstB_len]; omega
    rw [wp_round c77_l3.eq_1]
    simp [go_sem, hlen, hlt]
    obtain ⟨p, p1, p2⟩ := hix i hlt _
    rw [p1]
    generalize S[i] = x at *
    have n1 : ¬ (9223372036854775807 : Int) < (s.size : Int) + (x.size : Int) := by omega
    have hab : abin .add (.str s) (.str x) = some (.str (s ++ x)) := by
      simp [abin, n1]
    simp [go_sem, p2, hab, hw]
    exact hnext (s ++ x) (by rw [lstB_app, hs]; simp) h
theorem srR_sorted {S T : List ByteArray} (hp : S.Perm T) (hs : srR S) : S.map lstB = sortR (T.map lstB) := by
  refine perm_sorted (le := fun a b => leR a b = true) (fun a b => leR_anti) ((hp.map lstB).trans (List.mergeSort_perm _ leR).symm) ?_ (List.pairwise_mergeSort leR_trans leR_total _)
  exact List.pairwise_map.2 (hs.imp fun h => LR_iff.1 h)
end Go.Proofs.Ytoipleipokpnaaa.Code
end
section
namespace Go.Proofs.Ytoipleipokpnaaa.Code
open Go Go.Ab
variable {pure : Bool} {base bar : Nat} {H : Heap} {Q : AV → Heap → Prop} {K : AV → Heap → List Nat → Prop}
theorem ch_filter {n k : Nat} {l : List ZZ} {w : Nat → Nat} {b : Int} (hw : Wd n l w) (hn : n ≤ 9) : ((List.range n).filter fun x : Nat => tieB l k x && decide ((x : Int) ≠ b)) = (chW w k).filter fun x : Nat => decide ((x : Int) ≠ b) := by
  unfold chW
  rw [bitsN_range hn (fun x hx => (hw.inn k x hx).2.1), List.filter_filter]
  refine List.filter_congr fun x _ => ?_
  rw [hw.bit, Bool.and_comm]
theorem k77 {n r : Nat} {q : AV} {l : List ZZ} {D : Nat → Nat → Nat} {w : Nat → Nat} (hq : isP q l) (hl : l.length < 1000) (hC : TrC n (tieB l) D (chW w)) (hw : Wd n l w) (hn : n ≤ 9) (hr : r < n) :
    ∀ (t k : Nat) (b : Int), k < n → Down (tieB l) D r k b → t + D r k = n → ∀ (pure : Bool) (base bar : Nat) (H : Heap) (Q : AV → Heap → Prop), bar ≤ H.length → (∀ s, lstB s = drawR (chW w) t k b → Q (.str s) H) →
    WpCall E pure base bar 77 [.agg [.int .i64 (n : Nat), q], .int .i64 (k : Nat), .int .i64 b] H Q := by
  intro t
  induction t with
  | zero => intro k b hk hd ht; have := hC.lt hr hk; omega
  | succ t ih =>
    intro k b hk hd ht pure base bar H Q hbar h
    have hdl := hC.lenR hr (t := t + 1) hk hd
    rw [call77]
    have e0 : frzAll bar H [.agg [.int .i64 (n : Nat), q], .int .i64 (k : Nat), .int .i64 b] = some ([.agg [.int .i64 (n : Nat), q], .int .i64 (k : Nat), .int .i64 b], H) := by simp [frzAll, frz.frzs, frzsW, frz_agg, frz_int, hq.frz]
    rw [e0]
    have hb' := bar_if (pure := pure) hbar
    have hself : tieB l k k = false := by
      cases e : tieB l k k with
      | false => rfl
      | true => exact absurd rfl (hC.tm.inV e).2.2
    simp [go_sem, WpFun, c77, hq.isTup, hq.cells, AV.isTup, AV.cells]
    refine l77a (H0 := H ++ [.row 0 [.int .i64 (n : Nat), q] 0 true]) (p := H.length) (w := w) (t := t) hq hl hn (by simp) hself (by simp; omega) (by simp) (fun x hx htx hne pure base bar H Q hb hq2 => ?_) n 0 (by omega) [] .nils _ (.inl ⟨rfl, rfl⟩) (by simp) (Nat.le_refl _) (fun _ _ => rfl) fun S v H1 g hS hH hlow => ?_
    · obtain ⟨x1, x2, x3, x4⟩ := hC.down hr hk hd ((hC.mem hk).2 htx) hne
      exact ih x (k : Int) x1 x4 (by omega) pure base bar H Q hb hq2
    · rw [ch_filter hw hn] at hS
      have eD : drawR (chW w) (t + 1) k b = 40 :: ((sortR (S.map lstB)).flatten ++ [41]) := by rw [hS]; rfl
      have hfl : (S.map lstB).flatten.length ≤ 16 := by
        have h1 := (List.mergeSort_perm (S.map lstB) leR).flatten.length_eq
        have h2 := congrArg List.length eD
        rw [List.length_cons, List.length_append] at h2
        unfold sortR at h2
        simp only [List.length_cons, List.length_nil] at h2
        omega
      have hSl : S.length ≤ 9 := by
        have e1 := congrArg List.length hS
        rw [List.length_map, List.length_map] at e1
        have e2 := List.length_filter_le (fun x : Nat => decide ((x : Int) ≠ b)) (chW w k)
        have e3 := bitsN_len (s := w k)
        unfold chW at e2
        unfold chW at e1
        omega
      have hlowH : ∀ j, j < H.length → H1[j]? = H[j]? := fun j hj => by
        rw [hlow j (by simp; omega), List.getElem?_append_left hj]
      simp at hH
      have s40 : lstB (bytesOf [40]) = [40] := rfl
      have hfin : ∀ (S' : List ByteArray) (s : ByteArray), S'.Perm S → srR S' → lstB s = [40] ++ (S'.map lstB).flatten → ∃ s2, abin .add (.str s) (.str (bytesOf [41])) = some (.str s2) ∧ lstB s2 = drawR (chW w) (t + 1) k b := fun S' s hp hs hs2 => by
        rw [srR_sorted hp hs] at hs2
        have hsz : s.size ≤ 17 := by
          rw [← lstB_len, hs2]
          have h1 := (List.mergeSort_perm (S.map lstB) leR).flatten.length_eq
          unfold sortR
          rw [List.length_append]
          simp only [List.length_cons, List.length_nil]; omega
        have c2 : (bytesOf [41]).size = 1 := bytesOf_size
        refine ⟨s ++ bytesOf [41], ?_, ?_⟩
        · have : ¬ (9223372036854775807 : Int) < (s.size : Int) + 1 := by omega
          simp [abin, c2, this]
        · rw [lstB_app, hs2, eD]; rfl
      simp [go_sem]
      rcases g with ⟨e1, rfl⟩ | ⟨id, ver, h1, h2, rfl, h4⟩
      · subst e1
        rw [wp_round c77_l2.eq_1]
        simp [go_sem]
        refine l77d (S := []) (A0 := [40]) (fun H K => rfl) (fun i hi => by simp at hi) (by simp) (by simp) 0 0 rfl _ (by rw [s40]; rfl) fun s hs => ?_
        obtain ⟨s2, e2, e3⟩ := hfin [] s (List.Perm.refl _) (by simp [srR]) hs
        have hk := h s2 e3
        have htake : H1.take H.length = H := take_same (by omega) hlowH
        simp [go_sem, e2, htake]
        exact hk
      · have hid := (List.getElem?_eq_some_iff.1 h4).1
        simp at h2
        have hset : H1.set id (.row ver (sts S) 0 false) = H1 := set_same h4
        have hc := fun {R : PQ} hR => l77c (base := H.length) (bar := if pure = true then H.length else bar) (ver := ver) (n := S.length) (ex := false) (L0 := S) hid (by omega) (show S.length < 1000 by omega) (R := R) hR S.length 0 S (by omega) (List.Perm.refl _) rfl (by simp [srR])
        rw [hset] at hc
        refine hc fun S' hS' hsS => ?_
        have hl' : S'.length = S.length := hS'.length_eq
        have hg : (H1.set id (.row ver (sts S') 0 false))[id]? = some (.row ver (sts S') 0 false) := List.getElem?_set_self hid
        have hfl' : (S'.map lstB).flatten.length ≤ 16 := by
          have := (hS'.map lstB).flatten.length_eq
          omega
        simp [go_sem]
        refine l77d (S := S') (A0 := [40]) (fun H K => ?_) (fun i hi K => ?_) (show S'.length < 1000 by omega) (show [40].length + (S'.map lstB).flatten.length ≤ 1000 by simp only [List.length_cons, List.length_nil]; omega) S'.length 0 (by omega) _ (by rw [s40]; simp) fun s hs => ?_
        · rw [hl']; simp [go_sem]
        · have hi' : i < S.length := by omega
          refine ⟨.ptr id ver i, ?_, ?_⟩
          · simp [go_sem, hi']
          · rw [aload_ptr hg]; exact sts_part hi
        · obtain ⟨s2, e2, e3⟩ := hfin S' s hS' hsS hs
          have hk := h s2 e3
          have htake : (H1.set id (.row ver (sts S') 0 false)).take H.length = H := take_same (by simp; omega) fun j hj => by
            rw [List.getElem?_set_ne (by omega), hlowH j hj]
          simp [go_sem, e2, htake]
          exact hk
end Go.Proofs.Ytoipleipokpnaaa.Code
end
section
namespace Go.Proofs.Ytoipleipokpnaaa.Code
open Go Go.Ab
variable {pure : Bool} {base bar : Nat} {H : Heap} {Q : AV → Heap → Prop} {K : AV → Heap → List Nat → Prop}
theorem mn_lst {a b : ByteArray} : ∃ s, mxStr false (.str a) (.str b) = some (.str s) ∧ lstB s = minL (lstB a) (lstB b) := by
  unfold mxStr
  refine ⟨_, rfl, ?_⟩
  simp only [Bool.false_eq_true, if_false]
  have e : (Op.bytesLess a.toList b.toList || a.toList == b.toList) = lexL (lstB a) (lstB b) := by
    rw [less_R, ByteArray.toList_eq, ByteArray.toList_eq]
    cases h : lexL (lstB b) (lstB a) with
    | false =>
      have := (lexL_total (lstB a) (lstB b)).resolve_right (by rw [h]; simp)
      rw [this]; rfl
    | true =>
      cases h2 : lexL (lstB a) (lstB b) with
      | true =>
        have hab := lstB_inj (lexL_anti h2 h)
        subst hab; simp
      | false =>
        have hne : ¬ a.data = b.data := fun e => by
          have : lstB a = lstB b := by unfold lstB; rw [e]
          rw [this, lexL_refl] at h2; cases h2
        simp [hne]
  rw [e]
  unfold minL
  split <;> rfl
/-- the reference's shape -/
theorem l67 {n p : Nat} {q : AV} {l : List ZZ} {D : Nat → Nat → Nat} {w : Nat → Nat} {A0 : List Nat} (hq : isP q l) (hl : l.length < 1000) (hC : TrC n (tieB l) D (chW w)) (hw : Wd n l w) (hn : n ≤ 9) (hp : H[p]? = some (.row 0 [.int .i64 (n : Nat), q] 0 true)) (hb : bar ≤ H.length) {R : PQ} :
    ∀ (m i : Nat), i + m = n → 1 ≤ i → ∀ s : ByteArray, lstB s = ((List.range' 1 (i - 1)).map fun k => drawR (chW w) n k (-1)).foldl minL A0 →
    (∀ s, lstB s = ((List.range' 1 (n - 1)).map fun k => drawR (chW w) n k (-1)).foldl minL A0 → R (.exit 0) [(1, .ptr p 0 0), (3, .str s), (4, .int .i64 (n : Nat)), (10, .bool false)] H) →
    Wp E base bar (.loop c67_l0) [(1, .ptr p 0 0), (3, .str s), (4, .int .i64 (i : Nat))] H R := by
  intro m
  induction m with
  | zero =>
    intro i hi h1 s hs h
    obtain rfl : i = n := by omega
    rw [wp_round c67_l0.eq_1]
    simp [go_sem, aload, hp, Ab.part]
    exact h s hs
  | succ m ih =>
    intro i hi h1 s hs h
    have hlt : i < n := by omega
    have hnext := ih (i + 1) (by omega) (by omega)
    have er : List.range' 1 (i + 1 - 1) = List.range' 1 (i - 1) ++ [i] := by
      rw [show i + 1 - 1 = (i - 1) + 1 by omega, List.range'_concat]
      congr 2; omega
    rw [er] at hnext
    have hw1 := i64_suc (show i < 1000000 by omega)
    rw [wp_round c67_l0.eq_1]
    simp [go_sem, aload, hp, Ab.part, hlt]
    refine k77 hq hl hC hw hn hlt n i (-1) hlt (.inl ⟨rfl, rfl⟩) (by rw [hC.tm.zero hlt]; omega) _ _ _ _ _ (by omega) fun s2 hs2 => ?_
    obtain ⟨s3, e3, e4⟩ := mn_lst (a := s) (b := s2)
    simp [go_sem, aop, evs, Opd.ev, e3, hw1]
    exact hnext s3 (by rw [e4, hs, hs2]; simp) h
theorem k67 {n : Nat} {q : AV} {l : List ZZ} {w : Nat → Nat} (hq : isP q l) (hl : l.length < 1000) (ht : Tre n l) (hw : Wd n l w) (hbar : bar ≤ H.length) (h : ∀ s, lstB s = shR n w → Q (.str s) H) : WpCall E pure base bar 67 [.agg [.int .i64 (n : Nat), q]] H Q := by
  rw [call67]
  have e0 : frzAll bar H [.agg [.int .i64 (n : Nat), q]] = some ([.agg [.int .i64 (n : Nat), q]], H) := by simp [frzAll, frz.frzs, frzsW, frz_agg, frz_int, hq.frz]
  rw [e0]
  have hb' := bar_if (pure := pure) hbar
  obtain ⟨D, t1, t2⟩ := ht.tm
  have hC := trC_of t1 hw t2
  have h1 := ht.one
  simp [go_sem, WpFun, c67, hq.isTup, hq.cells, AV.isTup, AV.cells, aload]
  refine k77 hq hl hC hw ht.nine h1 n 0 (-1) h1 (.inl ⟨rfl, rfl⟩) (by rw [t1.zero h1]; omega) _ _ _ _ _ (by simp; omega) fun s hs => ?_
  simp [go_sem]
  refine l67 (p := H.length) (A0 := lstB s) hq hl hC hw ht.nine (by simp) (by simp; omega) (n - 1) 1 (by omega) (Nat.le_refl 1) s rfl fun s2 hs2 => ?_
  have hk := h s2 (by rw [hs2, hs]; rfl)
  simp [go_sem]
  exact hk
/-- Alike, of the reference -/
theorem k25 {n n' : Int} {q q' : AV} {l l' : List ZZ} (hq : isP q l) (hl : l.length < 1000) (hq' : isP q' l') (hl' : l'.length < 1000) (hbar : bar ≤ H.length)
    (h1 : errT n l ≠ 0 → Q (.tup [.bool false, .int .i64 (errT n l)]) H)
    (h2 : errT n l = 0 → errT n' l' ≠ 0 → Q (.tup [.bool false, .int .i64 (errT n' l')]) H)
    (h3 : ∀ (m m' : Nat) w w', n = m → n' = m' → Tre m l → Tre m' l' → Wd m l w → Wd m' l' w' → Q (.tup [.bool (decide (shW m w = shW m' w')), .int .i64 0]) H) :
    WpCall E pure base bar 25 [.agg [.int .i64 n, q], .agg [.int .i64 n', q']] H Q := by
  rw [call25]
  have e0 : frzAll bar H [.agg [.int .i64 n, q], .agg [.int .i64 n', q']] = some ([.agg [.int .i64 n, q], .agg [.int .i64 n', q']], H) := by simp [frzAll, frz.frzs, frzsW, frz_agg, frz_int, hq.frz, hq'.frz]
  rw [e0]
  have hb' := bar_if (pure := pure) hbar
  simp [go_sem, WpFun, c25, hq.isTup, hq.cells, hq'.isTup, hq'.cells, AV.isTup, AV.cells, aload]
  refine k28 hq hl (by simp; omega) ?_
  by_cases he : errT n l = 0
  · simp [go_sem, he, aload]
    refine k28 hq' hl' (by simp; omega) ?_
    by_cases he' : errT n' l' = 0
    · obtain ⟨m, rfl, _⟩ := errT_ok he
      obtain ⟨m', rfl, _⟩ := errT_ok he'
      have ht := tre_of he
      have ht' := tre_of he'
      obtain ⟨w, hw⟩ := wd_ex ht.nine ht.errL
      obtain ⟨w', hw'⟩ := wd_ex ht'.nine ht'.errL
      have hk := h3 m m' w w' rfl rfl ht ht' hw hw'
      rw [← shapes_agree ht ht' hw hw'] at hk
      simp [go_sem, he', aload]
      refine k67 hq hl ht hw (by simp; omega) fun s hs => ?_
      simp [go_sem, aload, touchA, AV.noVec.noVecs, AV.noVec, hq.noVec, hq'.noVec]
      refine k67 hq' hl' ht' hw' (by simp; omega) fun s' hs' => ?_
      rw [← hs, ← hs'] at hk
      simp [go_sem, aload, touchA, AV.noVec.noVecs, AV.noVec, hq.noVec, hq'.noVec, eqWp_str]
      exact hk
    · have hk := h2 he he'
      generalize errT n' l' = e at *
      simp [go_sem, he', aload]
      exact hk
  · have hk := h1 he
    generalize errT n l = e at *
    simp [go_sem, he, aload]
    exact hk
/-- Alike, of the program -/
theorem k24g {n n' : Int} {q q' : AV} {l l' : List ZZ} (hq : isP q l) (hl : l.length < 1000) (hq' : isP q' l') (hl' : l'.length < 1000) (hbar : bar ≤ H.length)
    (h1 : errT n l ≠ 0 → Q (.tup [.bool false, .int .i64 (errT n l)]) H)
    (h2 : errT n l = 0 → errT n' l' ≠ 0 → Q (.tup [.bool false, .int .i64 (errT n' l')]) H)
    (h3 : ∀ (m m' : Nat) w w', n = m → n' = m' → Tre m l → Tre m' l' → Wd m l w → Wd m' l' w' → Q (.tup [.bool (decide (shW m w = shW m' w')), .int .i64 0]) H) :
    WpCall E pure base bar 24 [.agg [.int .i64 n, q], .agg [.int .i64 n', q']] H Q := by
  by_cases he : errT n l = 0
  · obtain ⟨m, rfl, _⟩ := errT_ok he
    have ht := tre_of he
    obtain ⟨w, hw⟩ := wd_ex ht.nine ht.errL
    by_cases he' : errT n' l' = 0
    · obtain ⟨m', rfl, _⟩ := errT_ok he'
      have ht' := tre_of he'
      obtain ⟨w', hw'⟩ := wd_ex ht'.nine ht'.errL
      exact k24 ht ht' hw hw' hq hl hq' hl' hbar (h3 m m' w w' rfl rfl ht ht' hw hw')
    · rw [call24]
      have e0 : frzAll bar H [.agg [.int .i64 (m : Nat), q], .agg [.int .i64 n', q']] = some ([.agg [.int .i64 (m : Nat), q], .agg [.int .i64 n', q']], H) := by simp [frzAll, frz.frzs, frzsW, frz_agg, frz_int, hq.frz, hq'.frz]
      rw [e0]
      have hb' := bar_if (pure := pure) hbar
      obtain ⟨D, hD⟩ := trD_ex (n := m) (l := l)
      obtain ⟨D', hD'⟩ := trD_ex (n := n') (l := l')
      have hk := h2 he he'
      simp [go_sem, WpFun, c24, hq.isTup, hq.cells, hq'.isTup, hq'.cells, AV.isTup, AV.cells, aload]
      refine k27 hD hq hl (by simp; omega) (fun he => absurd ht.errT he) fun m1 w1 s em _ _ _ hw1 hs => ?_
      simp [go_sem, aload]
      refine k27 hD' hq' hl' (by simp; omega) (fun _ => ?_) fun m1 w1 s' em _ _ he2 hw1' hs' => absurd he2 he'
      generalize errT n' l' = e at *
      simp [go_sem, he']
      exact hk
  · rw [call24]
    have e0 : frzAll bar H [.agg [.int .i64 n, q], .agg [.int .i64 n', q']] = some ([.agg [.int .i64 n, q], .agg [.int .i64 n', q']], H) := by simp [frzAll, frz.frzs, frzsW, frz_agg, frz_int, hq.frz, hq'.frz]
    rw [e0]
    have hb' := bar_if (pure := pure) hbar
    obtain ⟨D, hD⟩ := trD_ex (n := n) (l := l)
    have hk := h1 he
    simp [go_sem, WpFun, c24, hq.isTup, hq.cells, hq'.isTup, hq'.cells, AV.isTup, AV.cells, aload]
    refine k27 hD hq hl (by simp; omega) (fun _ => ?_) fun m1 w1 s' em _ _ he2 hw1' hs' => absurd he2 he
    generalize errT n l = e at *
    simp [go_sem, he]
    exact hk
end Go.Proofs.Ytoipleipokpnaaa.Code
end
section
namespace Go.Proofs.Ytoipleipokpnaaa.Code
open Go Go.Ab
variable {pure : Bool} {base bar : Nat} {H : Heap} {Q : AV → Heap → Prop} {K : AV → Heap → List Nat → Prop}
/-- a tie between what is joined makes no tree -/
theorem swap_no {n k a b : Nat} {l : List ZZ} (hr : Rch (tieB (lessT l k)) a b) : errT n (lessT l k ++ [((a : Int), (b : Int))]) ≠ 0 := fun he => by
  have ht := tre_of he
  obtain ⟨D, hD, _⟩ := ht.tm
  have hl : (lessT l k).length < (lessT l k ++ [((a : Int), (b : Int))]).length := by simp
  have hp : (lessT l k ++ [((a : Int), (b : Int))])[(lessT l k).length] = ((a : Int), (b : Int)) := by simp
  have hless : lessT (lessT l k ++ [((a : Int), (b : Int))]) (lessT l k).length = lessT l k := by
    rw [lessT]
    rw [List.take_left' rfl, List.drop_eq_nil_of_le (by simp), List.append_nil]
  have hxy : tieB (lessT l k ++ [((a : Int), (b : Int))]) a b = true := tieB_iff.2 (.inl (by simp))
  have hf := lessT_tie ht hl hp
  rw [hless] at hf
  have va := (hD.inV hxy).1
  have vb := (hD.inV hxy).2.1
  refine (rch_side hD hxy hf va vb).1 hr (.inl ?_)
  rw [hD.zero va, hD.zero vb, hD.adj hxy]
/-- Swap of a tree that is none -/
theorem k22e {n : Int} {q : AV} {l : List ZZ} {i : Int} {p : ZZ} (hq : isP q l) (hl : l.length < 1000) (hbar : bar ≤ H.length) (he : errT n l ≠ 0) (h : Q (.tup [.agg [.int .i64 0, .nils], .int .i64 (errT n l)]) H) :
    WpCall E pure base bar 22 [.agg [.int .i64 n, q], .int .i64 i, .agg [.int .i64 p.1, .int .i64 p.2]] H Q := by
  rw [call22]
  have e0 : frzAll bar H [.agg [.int .i64 n, q], .int .i64 i, .agg [.int .i64 p.1, .int .i64 p.2]] = some ([.agg [.int .i64 n, q], .int .i64 i, .agg [.int .i64 p.1, .int .i64 p.2]], H) := by simp [frzAll, frz.frzs, frzsW, frz_agg, frz_int, hq.frz]
  rw [e0]
  have hb' := bar_if (pure := pure) hbar
  simp [go_sem, WpFun, c22, aload, AV.isTup, AV.cells, hq.isTup, hq.cells]
  refine k49 hq hl (by simp; omega) (fun G _ => ?_) fun m w hm _ _ hw he2 => absurd he2 he
  generalize errT n l = e at *
  generalize (if pure = true then H.length else bar) = br at *
  have hb2 : br ≤ H.length + 2 := by omega
  simp [go_sem, he, storeWp, astore, AV.isTup, AV.cells, setCells, aload, Ab.part, hb2, frzAll, frz.frzs, frzsW]
  exact h
/-! Swap of the reference -/
theorem lessT_app {T : List ZZ} {x : ZZ} {k : Nat} : lessT (T ++ [x]) k = if T.length = k then lessT T k else lessT T k ++ [x] := by
  unfold lessT
  by_cases e : T.length = k
  · subst e
    rw [if_pos rfl, List.take_left' rfl, List.drop_eq_nil_of_le (by simp), List.take_length, List.drop_eq_nil_of_le (by omega)]
  · rw [if_neg e]
    by_cases h : T.length < k
    · rw [List.take_of_length_le (by simp; omega), List.drop_eq_nil_of_le (by simp; omega), List.take_of_length_le (by omega), List.drop_eq_nil_of_le (by omega)]
      simp
    · rw [List.take_append_of_le_length (by omega), List.drop_append_of_le_length (by omega), List.append_assoc]
theorem lessT_at {l : List ZZ} {k i : Nat} (hi : i < l.length) : lessT (l.take (i + 1)) k = if i = k then lessT (l.take i) k else lessT (l.take i) k ++ [l[i]] := by
  have htk : l.take (i + 1) = l.take i ++ [l[i]] := by rw [List.take_add_one, List.getElem?_eq_getElem hi]; rfl
  have hl : (l.take i).length = i := by rw [List.length_take]; omega
  rw [htk, lessT_app, hl]
theorem l23 {n k p5 p6 : Nat} {q : AV} {l : List ZZ} {G : Heap} {p3 : Nat} (hq : isP q l) (hl : l.length < 1000) (hG : G[p3]? = some (.row 0 [.int .i64 (n : Nat), q] 0 true)) (hbar : bar ≤ G.length) (hbase : base ≤ G.length) {R : PQ} :
    ∀ (m i : Nat), i + m = l.length → ∀ (v : AV) (H : Heap), TrG G n (lessT (l.take i) k) v H →
    (∀ v' H', TrG G n (lessT l k) v' H' → R (.exit 0) [(1, .int .i64 (k : Nat)), (3, .ptr p3 0 0), (5, .ptr p5 0 0), (6, .ptr p6 0 0), (9, .ptr G.length 0 0), (10, .int .i64 (l.length : Nat)), (41, .bool false)] H') →
    Wp E base bar (.loop c23_l0) [(1, .int .i64 (k : Nat)), (3, .ptr p3 0 0), (5, .ptr p5 0 0), (6, .ptr p6 0 0), (9, .ptr G.length 0 0), (10, .int .i64 (i : Nat))] H R := by
  intro m
  induction m with
  | zero =>
    intro i hi v H g h
    obtain rfl : i = l.length := by omega
    rw [List.take_length] at g
    have hbox := g.old hG
    have hqlen := fun (H : Heap) (K : AV → Heap → List Nat → Prop) => hq.len (H := H) (K := K)
    rw [wp_round c23_l0.eq_1]
    simp [go_sem, aload, hbox, Ab.part, hqlen]
    exact h v H g
  | succ m ih =>
    intro i hi v H g h
    have hlt : i < l.length := by omega
    have hbox := g.old hG
    have hget := g.get
    have hqlen := fun (H : Heap) (K : AV → Heap → List Nat → Prop) => hq.len (H := H) (K := K)
    have hix := fun (H : Heap) (K : AV → Heap → List Nat → Prop) => hq.ix (H := H) (K := K) (k := .i64) hlt
    have hnext := ih (i + 1) (by omega)
    rw [lessT_at hlt] at hnext
    have hw := i64_suc (show i < 1000000 by omega)
    have hll : (lessT (l.take i) k).length ≤ l.length := by
      have := (lessT_sub (l := l.take i) (k := k)).length_le
      rw [List.length_take] at this; omega
    obtain ⟨⟨a, b⟩, hp⟩ : ∃ p, l[i] = p := ⟨_, rfl⟩
    rw [hp] at hix hnext
    rw [wp_round c23_l0.eq_1]
    by_cases e : i = k
    · subst e
      rw [if_pos rfl] at hnext
      simp [go_sem, aload, hbox, Ab.part, hqlen, hlt, hw]
      exact hnext v H g h
    · have e' : ¬ (i : Int) = (k : Int) := by omega
      rw [if_neg e] at hnext
      simp [go_sem, aload, hbox, hget, Ab.part, hqlen, hlt, e, e', hix, zc, fillA, setCells, AV.cells, chunks, aop, evs, Opd.ev]
      refine g.add (p := (a, b)) hbar hbase (by omega) fun v' H' tc hg hv1 hv2 g' => ?_
      simp [go_sem, storeWp, astore, hv1, hv2, setCells, hg, hbar, hbase, hw]
      exact hnext v' _ g' h
theorem TrG.own {G : Heap} {n : Nat} {acc : List ZZ} {v : AV} (g : TrG G n acc v H) : Own (G.length + 1) 2 (prs acc) v H := by
  rcases g with ⟨h1, h2, _⟩ | ⟨ver, fz, h1, h2, h3, h4⟩
  · exact .inl ⟨h1, h2⟩
  · exact .inr ⟨_, ver, fz, h1, by simp, h2, h3, by rw [h4]; simp⟩
end Go.Proofs.Ytoipleipokpnaaa.Code
end
section
namespace Go.Proofs.Ytoipleipokpnaaa.Code
open Go Go.Ab
variable {pure : Bool} {base bar : Nat} {H : Heap} {Q : AV → Heap → Prop} {K : AV → Heap → List Nat → Prop}
theorem k23e {n : Int} {q : AV} {l : List ZZ} {i : Int} {p : ZZ} (hq : isP q l) (hl : l.length < 1000) (hbar : bar ≤ H.length) (he : errT n l ≠ 0) (h : Q (.tup [.agg [.int .i64 0, .nils], .int .i64 (errT n l)]) H) :
    WpCall E pure base bar 23 [.agg [.int .i64 n, q], .int .i64 i, .agg [.int .i64 p.1, .int .i64 p.2]] H Q := by
  rw [call23]
  have e0 : frzAll bar H [.agg [.int .i64 n, q], .int .i64 i, .agg [.int .i64 p.1, .int .i64 p.2]] = some ([.agg [.int .i64 n, q], .int .i64 i, .agg [.int .i64 p.1, .int .i64 p.2]], H) := by simp [frzAll, frz.frzs, frzsW, frz_agg, frz_int, hq.frz]
  rw [e0]
  have hb' := bar_if (pure := pure) hbar
  simp [go_sem, WpFun, c23, aload, AV.isTup, AV.cells, hq.isTup, hq.cells]
  refine k28 hq hl (by simp; omega) ?_
  generalize errT n l = e at *
  generalize (if pure = true then H.length else bar) = br at *
  have hb2 : br ≤ H.length + 2 := by omega
  simp [go_sem, he, storeWp, astore, AV.isTup, AV.cells, setCells, aload, Ab.part, hb2, frzAll, frz.frzs, frzsW]
  exact h
theorem k23 {n : Nat} {q : AV} {l : List ZZ} {i : Int} {p : ZZ} (hq : isP q l) (ht : Tre n l) (hbar : bar ≤ H.length)
    (h1 : ¬ (0 ≤ i ∧ i ≤ (l.length : Int) - 1) → Q (.tup [.agg [.int .i64 0, .nils], .int .i64 1]) H)
    (h2 : (0 ≤ i ∧ i ≤ (l.length : Int) - 1) → mayS n p ≠ 0 → Q (.tup [.agg [.int .i64 0, .nils], .int .i64 (mayS n p)]) H)
    (h3 : ∀ (k a b : Nat), i = k → k < l.length → p = ((a : Int), (b : Int)) → a < n → b < n → a ≠ b → Rch (tieB (lessT l k)) a b → Q (.tup [.agg [.int .i64 0, .nils], .int .i64 12]) H)
    (h4 : ∀ (k a b : Nat), i = k → k < l.length → p = ((a : Int), (b : Int)) → a < n → b < n → a ≠ b → ¬ Rch (tieB (lessT l k)) a b → ∀ u, isT u n (tidyF (tieB (lessT l k ++ [((a : Int), (b : Int))])) n) → Q (.tup [u, .int .i64 0]) H) :
    WpCall E pure base bar 23 [.agg [.int .i64 (n : Nat), q], .int .i64 i, .agg [.int .i64 p.1, .int .i64 p.2]] H Q := by
  have h9 := ht.nine
  have hl := ht.len
  rw [call23]
  have e0 : frzAll bar H [.agg [.int .i64 (n : Nat), q], .int .i64 i, .agg [.int .i64 p.1, .int .i64 p.2]] = some ([.agg [.int .i64 (n : Nat), q], .int .i64 i, .agg [.int .i64 p.1, .int .i64 p.2]], H) := by simp [frzAll, frz.frzs, frzsW, frz_agg, frz_int, hq.frz]
  rw [e0]
  have hb' := bar_if (pure := pure) hbar
  have hlen := fun (H : Heap) (K : AV → Heap → List Nat → Prop) => hq.len (H := H) (K := K)
  simp [go_sem, WpFun, c23, aload, AV.isTup, AV.cells, hq.isTup, hq.cells]
  refine k28 hq (by omega) (by simp; omega) ?_
  rw [ht.errT]
  simp [go_sem, k52, aload, Ab.part, hlen]
  rw [Go.IntWalk.i64_in _ (by omega)]
  generalize (if pure = true then H.length else bar) = br at *
  have hb2 : br ≤ H.length + 2 := by omega
  have hb3 : br ≤ H.length + 3 := by omega
  by_cases hi : 0 ≤ i ∧ i ≤ (l.length : Int) - 1
  · obtain ⟨k, rfl⟩ := Int.eq_ofNat_of_zero_le hi.1
    have hk : k < l.length := by omega
    have hkk : (k : Int) ≤ (l.length : Int) - 1 := hi.2
    rw [if_neg (by omega)]
    refine k65 h9 ?_
    by_cases hp : mayS n p = 0
    · obtain ⟨a, b⟩ := p
      obtain ⟨q1, q2, q3, q4, q5⟩ := mayS_ok.1 hp
      simp only at q1 q2 q3 q4 q5
      obtain ⟨a, rfl⟩ := Int.eq_ofNat_of_zero_le q1
      obtain ⟨b, rfl⟩ := Int.eq_ofNat_of_zero_le q2
      simp [go_sem, hp, aload, Ab.part, AV.isTup, AV.cells, storeWp, astore, setCells, fillA, hb2, hb3]
      obtain ⟨G, hG⟩ : ∃ G : Heap, G = H ++ [.row 0 [.int .i64 (n : Nat), q] 0 true, .row 0 [.int .i64 (a : Nat), .int .i64 (b : Nat)] 0 true, .row 0 [.int .i64 0, .nils] 0 true] := ⟨_, rfl⟩
      have hGl : G.length = H.length + 3 := by rw [hG]; simp
      have g0 : TrG G n [] .nils (G ++ [.row 0 [.int .i64 (n : Nat), .nils] 0 true]) := TrG.nil
      have eG : H ++ [.row 0 [.int .i64 (n : Nat), q] 0 true, .row 0 [.int .i64 (a : Nat), .int .i64 (b : Nat)] 0 true, .row 0 [.int .i64 0, .nils] 0 true, .row 0 [.int .i64 (n : Nat), .nils] 0 true] = G ++ [.row 0 [.int .i64 (n : Nat), .nils] 0 true] := by rw [hG, List.append_assoc]; rfl
      have hl23 := fun {R : PQ} hr => l23 (n := n) (base := H.length) (bar := br) (k := k) (p5 := H.length + 1) (p6 := H.length + 2) (p3 := H.length) (G := G) hq (by omega) (by rw [hG]; simp) (by omega) (by omega) (R := R) l.length 0 (by omega) .nils _ (by simpa [lessT] using g0) hr
      rw [hGl] at hl23
      rw [eG]
      refine hl23 fun v H1 g1 => ?_
      have hg1 := g1.get
      rw [hGl] at hg1
      have hx1 : H1[H.length + 1]? = some (.row 0 [.int .i64 (a : Nat), .int .i64 (b : Nat)] 0 true) := g1.old (by rw [hG]; simp)
      have hll := lessT_len hk
      simp [go_sem, aload, hg1, hx1, Ab.part, fillA, setCells, AV.cells, chunks, aop, evs, Opd.ev]
      refine g1.add (p := ((a : Int), (b : Int))) (by omega) (by omega) (by omega) fun v' H2 tc hg hv1 hv2 g2 => ?_
      rw [hGl] at hg g2
      simp [go_sem, storeWp, astore, hv1, hv2, setCells, hg, hb3]
      have hX := g2.get
      rw [hGl] at hX
      have hX6 : (H2.set (H.length + 3) (.row 0 [.int .i64 (n : Nat), v'] 0 true))[H.length + 2]? = some (.row 0 [.int .i64 0, .nils] 0 true) := g2.old (by rw [hG]; simp)
      have hown := g2.own
      have hXl := g2.glen
      rw [hGl] at hown hXl
      have hXlow : ∀ j, j < H.length → (H2.set (H.length + 3) (.row 0 [.int .i64 (n : Nat), v'] 0 true))[j]? = H[j]? := fun j hj => by
        have hjG : G[j]? = some H[j] := by rw [hG, List.getElem?_append_left hj, List.getElem?_eq_getElem hj]
        rw [g2.old hjG, List.getElem?_eq_getElem hj]
      generalize H2.set (H.length + 3) (.row 0 [.int .i64 (n : Nat), v'] 0 true) = X at *
      have hol : (lessT l k ++ [((a : Int), (b : Int))]).length < 1000 := by simp; omega
      obtain ⟨X1, f1, f2, f3, f4⟩ := hown.frz (d := 4) (bar := br) (by decide) ⟨_, prs_length⟩ prs_plain (by omega)
      have hu1 : isP (outL 2 (prs (lessT l k ++ [((a : Int), (b : Int))]))) (lessT l k ++ [((a : Int), (b : Int))]) := isP.out
      have hid : ∀ j, j < H.length + 4 → idOf v' ≠ some j := fun j hj hh => by have := (hown.lt hh).1; omega
      have hX1 : X1[H.length + 3]? = some (.row 0 [.int .i64 (n : Nat), v'] 0 true) := by rw [f4 _ (hid _ (by omega))]; exact hX
      have hX16 : X1[H.length + 2]? = some (.row 0 [.int .i64 0, .nils] 0 true) := by rw [f4 _ (hid _ (by omega))]; exact hX6
      have hX1low : ∀ j, j < H.length → X1[j]? = H[j]? := fun j hj => by rw [f4 _ (hid _ (by omega))]; exact hXlow j hj
      have a1 : frzAll br X [.agg [.int .i64 (n : Nat), v']] = some ([.agg [.int .i64 (n : Nat), outL 2 (prs (lessT l k ++ [((a : Int), (b : Int))]))]], X1) := by simp [frzAll, frz.frzs, frzsW, frz_agg, frz_int, f1]
      have a2 : frzAll br X1 [.agg [.int .i64 (n : Nat), outL 2 (prs (lessT l k ++ [((a : Int), (b : Int))]))]] = some ([.agg [.int .i64 (n : Nat), outL 2 (prs (lessT l k ++ [((a : Int), (b : Int))]))]], X1) := by simp [frzAll, frz.frzs, frzsW, frz_agg, frz_int, hu1.frz]
      simp [go_sem, aload, hX]
      refine wpcall_frz rfl rfl a1 a2 (k28 hu1 hol (by omega) ?_)
      have h6l : H.length + 2 < X1.length := by omega
      by_cases hR : Rch (tieB (lessT l k)) a b
      · have hk3 := h3 k a b rfl hk rfl (by omega) (by omega) (by omega) hR
        have hne := swap_no (n := n) hR
        generalize errT (n : Int) (lessT l k ++ [((a : Int), (b : Int))]) = e at *
        have htake : (X1.set (H.length + 2) (.row 0 [.int .i64 0, .nils] 0 true)).take H.length = H := take_same (by simp; omega) fun j hj => by rw [List.getElem?_set_ne (by omega), hX1low j hj]
        simp [go_sem, hne, storeWp, astore, AV.isTup, AV.cells, setCells, aload, Ab.part, hb2, hX16, List.getElem?_set_self h6l, frzAll, frz.frzs, frzsW, htake]
        exact hk3
      · have hk4 := h4 k a b rfl hk rfl (by omega) (by omega) (by omega) hR
        obtain ⟨⟨x, y⟩, hxy⟩ : ∃ x, l[k] = x := ⟨_, rfl⟩
        have hokl := ht.ok _ (List.getElem_mem hk)
        rw [hxy] at hokl
        obtain ⟨g1, g2, g3, g4, g5⟩ := hokl
        simp only at g1 g2 g3 g4 g5
        obtain ⟨x, rfl⟩ := Int.eq_ofNat_of_zero_le g1
        obtain ⟨y, rfl⟩ := Int.eq_ofNat_of_zero_le g2
        have hT2 := swap_tree ht hk hxy (show a < n by omega) (show b < n by omega) (by omega) hR
        rw [hT2.errT]
        obtain ⟨X2, f1', f2', f3', f4'⟩ := f2.frz (d := 4) (bar := br) (by decide) ⟨_, prs_length⟩ prs_plain (by omega)
        have b1 : frzAll br X1 [.agg [.int .i64 (n : Nat), v']] = some ([.agg [.int .i64 (n : Nat), outL 2 (prs (lessT l k ++ [((a : Int), (b : Int))]))]], X2) := by simp [frzAll, frz.frzs, frzsW, frz_agg, frz_int, f1']
        have b2 : frzAll br X2 [.agg [.int .i64 (n : Nat), outL 2 (prs (lessT l k ++ [((a : Int), (b : Int))]))]] = some ([.agg [.int .i64 (n : Nat), outL 2 (prs (lessT l k ++ [((a : Int), (b : Int))]))]], X2) := by simp [frzAll, frz.frzs, frzsW, frz_agg, frz_int, hu1.frz]
        have hX26 : X2[H.length + 2]? = some (.row 0 [.int .i64 0, .nils] 0 true) := by rw [f4' _ (hid _ (by omega))]; exact hX16
        have hX2low : ∀ j, j < H.length → X2[j]? = H[j]? := fun j hj => by rw [f4' _ (hid _ (by omega))]; exact hX1low j hj
        simp [go_sem, aload, hX1]
        refine wpcall_frz rfl rfl b1 b2 (k66 hu1 hol h9 (fun x y h => (tieB_lt hT2.ok h).2.1) (by omega) fun u hu => ?_)
        have hkk := hk4 u hu
        obtain ⟨q2, hq2, rfl⟩ := hu
        have htake : (X2.set (H.length + 2) (.row 0 [.int .i64 (n : Nat), q2] 0 true)).take H.length = H := take_same (by simp; omega) fun j hj => by rw [List.getElem?_set_ne (by omega), hX2low j hj]
        simp [go_sem, storeWp, astore, AV.isTup, AV.cells, setCells, aload, Ab.part, hb2, hX26, List.getElem?_set_self (show H.length + 2 < X2.length by omega), hq2.isTup, hq2.cells, hq2.frz, hq2.top, AV.top, AV.top.tops, frzAll, frz.frzs, frzsW, frz_agg, frz_int, htake]
        exact hkk
    · have := h2 hi hp
      generalize mayS n p = e at *
      simp [go_sem, storeWp, astore, AV.isTup, AV.cells, setCells, aload, Ab.part, hp, hb2, frzAll, frz.frzs, frzsW]
      exact this
  · rw [if_pos (by omega)]
    have := h1 hi
    simp [go_sem, storeWp, astore, AV.isTup, AV.cells, setCells, aload, Ab.part, hb2, frzAll, frz.frzs, frzsW]
    exact this
end Go.Proofs.Ytoipleipokpnaaa.Code
end
section
namespace Go.Proofs.Ytoipleipokpnaaa.Code
open Go Go.Ab
/-- both Swaps give the same -/
theorem swap_same {n i : Int} {p : ZZ} {q : AV} {l : List ZZ} (hq : isP q l) (hl : l.length < 1000) : ∃ (N : Int) (T : List ZZ) (e : Int), T.length < 1000 ∧
    (∀ (pure : Bool) (base bar : Nat) (H : Heap) (Q : AV → Heap → Prop), bar ≤ H.length → (∀ v, isP v T → Q (.tup [.agg [.int .i64 N, v], .int .i64 e]) H) → WpCall E pure base bar 22 [.agg [.int .i64 n, q], .int .i64 i, .agg [.int .i64 p.1, .int .i64 p.2]] H Q) ∧
    (∀ (pure : Bool) (base bar : Nat) (H : Heap) (Q : AV → Heap → Prop), bar ≤ H.length → (∀ v, isP v T → Q (.tup [.agg [.int .i64 N, v], .int .i64 e]) H) → WpCall E pure base bar 23 [.agg [.int .i64 n, q], .int .i64 i, .agg [.int .i64 p.1, .int .i64 p.2]] H Q) := by
  have hnil : isP .nils [] := .inl ⟨rfl, rfl⟩
  by_cases he : errT n l = 0
  · obtain ⟨m, rfl, _⟩ := errT_ok he
    have ht := tre_of he
    by_cases hi : 0 ≤ i ∧ i ≤ (l.length : Int) - 1
    · obtain ⟨k, rfl⟩ := Int.eq_ofNat_of_zero_le hi.1
      by_cases hp : mayS m p = 0
      · obtain ⟨a, b⟩ := p
        obtain ⟨q1, q2, q3, q4, q5⟩ := mayS_ok.1 hp
        simp only at q1 q2 q3 q4 q5
        obtain ⟨a, rfl⟩ := Int.eq_ofNat_of_zero_le q1
        obtain ⟨b, rfl⟩ := Int.eq_ofNat_of_zero_le q2
        have eqs : ∀ {k' a' b' : Nat}, (k : Int) = (k' : Int) → ((a : Int), (b : Int)) = ((a' : Int), (b' : Int)) → k = k' ∧ a = a' ∧ b = b' := fun h1 h2 => by
          have e1 := congrArg Prod.fst h2
          have e2 := congrArg Prod.snd h2
          simp only at e1 e2
          omega
        by_cases hR : Rch (tieB (lessT l k)) a b
        · refine ⟨0, [], 12, by simp, fun pure base bar H Q hb h => ?_, fun pure base bar H Q hb h => ?_⟩
          · refine k22 hq ht hb (fun h0 => absurd hi h0) (fun _ h0 => absurd hp h0) (fun _ _ _ _ _ _ _ _ _ _ => h _ hnil) (fun k' a' b' e1 _ e2 _ _ _ hno => ?_)
            obtain ⟨rfl, rfl, rfl⟩ := eqs e1 e2
            exact absurd hR hno
          · refine k23 hq ht hb (fun h0 => absurd hi h0) (fun _ h0 => absurd hp h0) (fun _ _ _ _ _ _ _ _ _ _ => h _ hnil) (fun k' a' b' e1 _ e2 _ _ _ hno => ?_)
            obtain ⟨rfl, rfl, rfl⟩ := eqs e1 e2
            exact absurd hR hno
        · have hk : k < l.length := by omega
          obtain ⟨⟨x, y⟩, hxy⟩ : ∃ x, l[k] = x := ⟨_, rfl⟩
          have hokl := ht.ok _ (List.getElem_mem hk)
          rw [hxy] at hokl
          obtain ⟨g1, g2, g3, g4, g5⟩ := hokl
          simp only at g1 g2 g3 g4 g5
          obtain ⟨x, rfl⟩ := Int.eq_ofNat_of_zero_le g1
          obtain ⟨y, rfl⟩ := Int.eq_ofNat_of_zero_le g2
          have hT2 := swap_tree ht hk hxy (show a < m by omega) (show b < m by omega) (by omega) hR
          refine ⟨m, tidyF (tieB (lessT l k ++ [((a : Int), (b : Int))])) m, 0, ?_, fun pure base bar H Q hb h => ?_, fun pure base bar H Q hb h => ?_⟩
          · rw [tidyF_length hT2]
            have := hT2.len
            have := ht.nine
            omega
          · refine k22 hq ht hb (fun h0 => absurd hi h0) (fun _ h0 => absurd hp h0) (fun k' a' b' e1 _ e2 _ _ _ hyes => ?_) (fun k' a' b' e1 _ e2 _ _ _ _ u hu => ?_)
            · obtain ⟨rfl, rfl, rfl⟩ := eqs e1 e2
              exact absurd hyes hR
            · obtain ⟨rfl, rfl, rfl⟩ := eqs e1 e2
              obtain ⟨q2, hq2, rfl⟩ := hu
              exact h _ hq2
          · refine k23 hq ht hb (fun h0 => absurd hi h0) (fun _ h0 => absurd hp h0) (fun k' a' b' e1 _ e2 _ _ _ hyes => ?_) (fun k' a' b' e1 _ e2 _ _ _ _ u hu => ?_)
            · obtain ⟨rfl, rfl, rfl⟩ := eqs e1 e2
              exact absurd hyes hR
            · obtain ⟨rfl, rfl, rfl⟩ := eqs e1 e2
              obtain ⟨q2, hq2, rfl⟩ := hu
              exact h _ hq2
      · refine ⟨0, [], mayS m p, by simp, fun pure base bar H Q hb h => ?_, fun pure base bar H Q hb h => ?_⟩
        · exact k22 hq ht hb (fun h0 => absurd hi h0) (fun _ _ => h _ hnil) (fun k' a' b' _ _ e2 c1 c2 c3 _ => absurd (mayS_ok.2 (by rw [e2]; exact ⟨by simp, by simp, by simp only; omega, by simp only; omega, by simp only; omega⟩)) hp) (fun k' a' b' _ _ e2 c1 c2 c3 _ => absurd (mayS_ok.2 (by rw [e2]; exact ⟨by simp, by simp, by simp only; omega, by simp only; omega, by simp only; omega⟩)) hp)
        · exact k23 hq ht hb (fun h0 => absurd hi h0) (fun _ _ => h _ hnil) (fun k' a' b' _ _ e2 c1 c2 c3 _ => absurd (mayS_ok.2 (by rw [e2]; exact ⟨by simp, by simp, by simp only; omega, by simp only; omega, by simp only; omega⟩)) hp) (fun k' a' b' _ _ e2 c1 c2 c3 _ => absurd (mayS_ok.2 (by rw [e2]; exact ⟨by simp, by simp, by simp only; omega, by simp only; omega, by simp only; omega⟩)) hp)
    · refine ⟨0, [], 1, by simp, fun pure base bar H Q hb h => ?_, fun pure base bar H Q hb h => ?_⟩
      · exact k22 hq ht hb (fun _ => h _ hnil) (fun h0 => absurd h0 hi) (fun k' _ _ e1 _ _ _ _ _ _ => absurd ⟨by omega, by omega⟩ hi) (fun k' _ _ e1 _ _ _ _ _ _ => absurd ⟨by omega, by omega⟩ hi)
      · exact k23 hq ht hb (fun _ => h _ hnil) (fun h0 => absurd h0 hi) (fun k' _ _ e1 _ _ _ _ _ _ => absurd ⟨by omega, by omega⟩ hi) (fun k' _ _ e1 _ _ _ _ _ _ => absurd ⟨by omega, by omega⟩ hi)
  · exact ⟨0, [], errT n l, by simp, fun pure base bar H Q hb h => k22e hq hl hb he (h _ hnil), fun pure base bar H Q hb h => k23e hq hl hb he (h _ hnil)⟩
/-- do two numbers of knots and ties say the same shape -/
def Alk (n : Int) (l : List ZZ) (n' : Int) (l' : List ZZ) (B : Bool) (e : Int) : Prop :=
  (errT n l ≠ 0 → B = false ∧ e = errT n l) ∧ (errT n l = 0 → errT n' l' ≠ 0 → B = false ∧ e = errT n' l') ∧ (errT n l = 0 → errT n' l' = 0 → e = 0 ∧ ∀ (m m' : Nat) w w', n = m → n' = m' → Wd m l w → Wd m' l' w' → B = decide (shW m w = shW m' w'))
theorem alk_ex {n n' : Int} {l l' : List ZZ} : ∃ B e, Alk n l n' l' B e := by
  by_cases he : errT n l = 0
  · by_cases he' : errT n' l' = 0
    · obtain ⟨m, rfl, _⟩ := errT_ok he
      obtain ⟨m', rfl, _⟩ := errT_ok he'
      obtain ⟨w, hw⟩ := wd_ex (tre_of he).nine (tre_of he).errL
      obtain ⟨w', hw'⟩ := wd_ex (tre_of he').nine (tre_of he').errL
      refine ⟨decide (shW m w = shW m' w'), 0, fun h => absurd he h, fun _ h => absurd he' h, fun _ _ => ⟨rfl, fun m1 m1' w1 w1' e1 e2 h1 h2 => ?_⟩⟩
      obtain rfl : m = m1 := by omega
      obtain rfl : m' = m1' := by omega
      rw [wd_unique hw h1, wd_unique hw' h2]
    · exact ⟨false, errT n' l', fun h => absurd he h, fun _ _ => ⟨rfl, rfl⟩, fun _ h => absurd h he'⟩
  · exact ⟨false, errT n l, fun _ => ⟨rfl, rfl⟩, fun h => absurd h he, fun h => absurd h he⟩
theorem k24a {pure : Bool} {base bar : Nat} {H : Heap} {Q : AV → Heap → Prop} {n n' e : Int} {B : Bool} {q q' : AV} {l l' : List ZZ} (ha : Alk n l n' l' B e) (hq : isP q l) (hl : l.length < 1000) (hq' : isP q' l') (hl' : l'.length < 1000) (hbar : bar ≤ H.length) (h : Q (.tup [.bool B, .int .i64 e]) H) :
    WpCall E pure base bar 24 [.agg [.int .i64 n, q], .agg [.int .i64 n', q']] H Q := by
  obtain ⟨a1, a2, a3⟩ := ha
  refine k24g hq hl hq' hl' hbar (fun he => ?_) (fun he he' => ?_) (fun m m' w w' e1 e2 ht ht' hw hw' => ?_)
  · obtain ⟨rfl, rfl⟩ := a1 he; exact h
  · obtain ⟨rfl, rfl⟩ := a2 he he'; exact h
  · subst e1 e2
    obtain ⟨rfl, hB⟩ := a3 ht.errT ht'.errT
    rw [← hB m m' w w' rfl rfl hw hw']; exact h
theorem k25a {pure : Bool} {base bar : Nat} {H : Heap} {Q : AV → Heap → Prop} {n n' e : Int} {B : Bool} {q q' : AV} {l l' : List ZZ} (ha : Alk n l n' l' B e) (hq : isP q l) (hl : l.length < 1000) (hq' : isP q' l') (hl' : l'.length < 1000) (hbar : bar ≤ H.length) (h : Q (.tup [.bool B, .int .i64 e]) H) :
    WpCall E pure base bar 25 [.agg [.int .i64 n, q], .agg [.int .i64 n', q']] H Q := by
  obtain ⟨a1, a2, a3⟩ := ha
  refine k25 hq hl hq' hl' hbar (fun he => ?_) (fun he he' => ?_) (fun m m' w w' e1 e2 ht ht' hw hw' => ?_)
  · obtain ⟨rfl, rfl⟩ := a1 he; exact h
  · obtain ⟨rfl, rfl⟩ := a2 he he'; exact h
  · subst e1 e2
    obtain ⟨rfl, hB⟩ := a3 ht.errT ht'.errT
    rw [← hB m m' w w' rfl rfl hw hw']; exact h
theorem k27a {pure : Bool} {base bar : Nat} {H : Heap} {Q : AV → Heap → Prop} {n : Int} {q : AV} {l : List ZZ} (hq : isP q l) (hl : l.length < 1000) (hbar : bar ≤ H.length)
    (h : ∀ s, (errT n l = 0 → ∀ (m : Nat) w, n = m → Wd m l w → lstB s = shW m w) → Q (.tup [.str s, .int .i64 (errT n l)]) H) : WpCall E pure base bar 27 [.agg [.int .i64 n, q]] H Q := by
  obtain ⟨D, hD⟩ := trD_ex (n := n) (l := l)
  refine k27 hD hq hl hbar (fun he => h _ fun h0 => absurd h0 he) fun m w s em _ _ he hw hs => ?_
  have := h s fun _ m1 w1 e1 hw1 => by
    obtain rfl : m = m1 := by omega
    rw [hs, wd_unique hw hw1]
  rw [he] at this
  exact this
end Go.Proofs.Ytoipleipokpnaaa.Code
end
section
namespace Go.Proofs.Ytoipleipokpnaaa.Code
open Go Go.Ab
set_option maxRecDepth 8000 in
/-- law 4: BranchSwaps -/
theorem swaps_true {n i p1 p2 n' : Int} {q q' : AV} {l l' : List ZZ} (hq : isP q l) (hq' : isP q' l') : ∃ f H', acall E f 4 [.agg [.int .i64 n, q], .int .i64 i, .agg [.int .i64 p1, .int .i64 p2], .agg [.int .i64 n', q']] [] = some (.bool true, H') := by
  have key : WpCall E false 0 0 4 [.agg [.int .i64 n, q], .int .i64 i, .agg [.int .i64 p1, .int .i64 p2], .agg [.int .i64 n', q']] [] (fun v _ => v = .bool true) := by
    rw [call4]
    have e0 : frzAll 0 [] [.agg [.int .i64 n, q], .int .i64 i, .agg [.int .i64 p1, .int .i64 p2], .agg [.int .i64 n', q']] = some ([.agg [.int .i64 n, q], .int .i64 i, .agg [.int .i64 p1, .int .i64 p2], .agg [.int .i64 n', q']], []) := by simp [frzAll, frz.frzs, frzsW, frz_agg, frz_int, hq.frz, hq'.frz]
    rw [e0]
    by_cases h1 : 60 < l.length
    · simp [go_sem, WpFun, c4, hq.isTup, hq.cells, hq'.isTup, hq'.cells, aload, AV.isTup, AV.cells, k10 hq, k10 hq', h1, call11]
    · by_cases h2 : 60 < l'.length
      · simp [go_sem, WpFun, c4, hq.isTup, hq.cells, hq'.isTup, hq'.cells, aload, AV.isTup, AV.cells, k10 hq, k10 hq', h1, h2, call11]
      · obtain ⟨N, T, e, hT, x1, y1⟩ := swap_same (n := n) (i := i) (p := (p1, p2)) hq (by omega)
        obtain ⟨B, eA, hA⟩ := alk_ex (n := n) (n' := n') (l := l) (l' := l')
        have hqt := hq.top
        have hqt' := hq'.top
        have hb3 : Nat.ble 3 4 = true := rfl
        have hb2 : Nat.ble 3 3 = true := rfl
        simp [go_sem, WpFun, c4, hq.isTup, hq.cells, hq'.isTup, hq'.cells, aload, AV.isTup, AV.cells, k10 hq, k10 hq', h1, h2]
        rw [wp_twin]
        simp [go_sem, wptwin_cons, wptwin_nil, twinNext, aload, AV.isTup, AV.cells, AV.top, tops_cons, tops_nil, hqt, hqt', storeWp, astore, setCells, hb2, hb3, hq.isTup, hq.cells, hq'.isTup, hq'.cells]
        refine x1 _ _ _ _ _ (Nat.zero_le _) fun v1 hv1 => ?_
        simp [go_sem, aload, AV.isTup, AV.cells, storeWp, astore, setCells, hv1.isTup, hv1.cells]
        refine y1 _ _ _ _ _ (Nat.zero_le _) fun v2 hv2 => ?_
        simp [go_sem, aload, AV.isTup, AV.cells, storeWp, astore, setCells, hv2.isTup, hv2.cells]
        refine k24a hA hq (by omega) hq' (by omega) (Nat.zero_le _) ?_
        simp [go_sem, aload]
        refine k25a hA hq (by omega) hq' (by omega) (Nat.zero_le _) ?_
        simp [go_sem, aload]
        refine k26 hv1 hv2 hT ?_
        have hbb : (B == B) = true := by cases B <;> rfl
        simp [go_sem, aload, hbb]
        refine k27a hq (by omega) (Nat.zero_le _) fun s hs => ?_
        simp [go_sem, aload]
        refine k27a hq' (by omega) (Nat.zero_le _) fun s' hs' => ?_
        simp [go_sem, aload]
        refine k28 hq (by omega) (Nat.zero_le _) ?_
        simp [go_sem, aload]
        refine k28 hq' (by omega) (Nat.zero_le _) ?_
        simp [go_sem, aload]
        by_cases he : errT n l = 0
        · rw [if_pos he]
          by_cases he' : errT n' l' = 0
          · rw [if_pos he']
            obtain ⟨m, em, _⟩ := errT_ok he
            obtain ⟨m', em', _⟩ := errT_ok he'
            subst em em'
            obtain ⟨w, hw⟩ := wd_ex (tre_of he).nine (tre_of he).errL
            obtain ⟨w', hw'⟩ := wd_ex (tre_of he').nine (tre_of he').errL
            have hB := (hA.2.2 he he').2 m m' w w' rfl rfl hw hw'
            rw [← hs he m w rfl hw, ← hs' he' m' w' rfl hw'] at hB
            rw [eqWp_str, ← hB]
            simp [go_sem, hbb, call11]
          · rw [if_neg he']
            simp [go_sem, call11]
        · rw [if_neg he]
          simp [go_sem, call11]
  obtain ⟨f, v, H', h1, rfl⟩ := key
  exact ⟨f, H', h1⟩
end Go.Proofs.Ytoipleipokpnaaa.Code
end
section
namespace Go.Proofs.Ytoipleipokpnaaa.Code
open Go Go.Ab Go.RowKit Go.ChangeShapes Go.WideShapes
variable {H : Type} {enc : TypeId × Value → H} {P : Program} {W W' : World} {base : Nat} {spare : Nat → Bool} {held : Bool}
/-- a pair of integers -/
theorem pair_vr {t e : TypeId} {v : Value} {d : DataW H} {ps : List MemPlace} {r : Reach} {b0 : Nat}
    (ht : P.underlying t = some (.array 2 e)) (he : P.underlying e = some (.int .i64)) (ce : P.cellsOf e = 1) (ct : P.cellsOf t = 2)
    (hval : Value.okWide P W r b0 t v) (hd : DataW.Trod enc P W 0 spare held t v d ps) :
    ∃ a b : Int, VR (ctx0 W) (.agg [.int .i64 a, .int .i64 b]) v := by
  have hf : flatT P 2 t = true := by
    have g0 : flatT P 1 e = true := by unfold flatT; rw [he]
    unfold flatT; rw [ht]
    simp [ce, ct, g0]
  obtain ⟨ys, hv, hs⟩ := flat_vr (.inr ⟨_, _, ht⟩) hf hval hd
  unfold Sh at hs
  rw [ht] at hs
  obtain ⟨hl, hs⟩ := hs
  rw [ct] at hl
  have each : ∀ i, i < 2 → ∃ a : Int, ys[i]? = some (.int .i64 a) := fun i hi => by
    have := hs i hi
    rw [ce, Nat.mul_one] at this
    unfold Sh at this
    rw [he] at this
    obtain ⟨z, hz, _⟩ := this
    refine ⟨z, ?_⟩
    have h2 : ((ys.drop i).take 1)[0]? = some (.int .i64 z) := by rw [hz]; rfl
    simpa using h2
  obtain ⟨a, ha⟩ := each 0 (by omega)
  obtain ⟨b, hb⟩ := each 1 (by omega)
  refine ⟨a, b, ?_⟩
  have : ys = [.int .i64 a, .int .i64 b] := by
    apply List.ext_getElem?
    intro i
    match i with
    | 0 => rw [ha]; rfl
    | 1 => rw [hb]; rfl
    | i + 2 => rw [List.getElem?_eq_none (by omega)]; rfl
  rw [← this]; exact hv
end Go.Proofs.Ytoipleipokpnaaa.Code
end
