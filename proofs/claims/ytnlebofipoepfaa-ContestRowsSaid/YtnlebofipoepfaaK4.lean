/-
  Parts of the proofs about this chapter, joined: contracts of functions and plain laws.
-/
import Derived.Test.YtnlebofipoepfaaK2
set_option linter.all false
section
namespace Go.Proofs.Ytnlebofipoepfaa.Code
open Go Go.Ab
variable {pure : Bool} {base bar : Nat} {H : Heap} {Q : AV → Heap → Prop}

/-! 57, 18: scores -/
theorem sliceB {id ver n fz : Nat} {w : Nat → Nat} (hid : H[id]? = some (.row ver (bcells n w) fz true)) {m : Nat} (hm : m ≤ 7) :
    aslice H (.arr 7 1) (.ptr id ver 1) none (some (.int .i64 (m : Int))) none = some (.vec id ver 1 m 1) := by
  simp [aslice, hid, bcells_length, optBound, bound1, AV.asNat, hm]

/-- how many each one beat -/
def oftenS (n : Nat) (w : Nat → Nat) : List Nat := (List.range n).map fun a => (bitsOf (w a)).length

theorem l57 {id ver n : Nat} {w : Nat → Nat} {H0 : Heap} (hid : H0[id]? = some (.row ver (bcells n w) 0 true)) (hw : ∀ x, w x < 256) (hn : n ≤ 7) (hb : bar ≤ H0.length) (hbase : base ≤ H0.length) {R : PQ} :
    ∀ (k i : Nat) (v : AV) (H : Heap), i + k = n → Grow 1 (nats ((List.range i).map fun a => (bitsOf (w a)).length)) H0 v H →
    (∀ v' H', Grow 1 (nats (oftenS n w)) H0 v' H' → R (.exit 0) [(3, v'), (13, .vec id ver 1 n 1), (14, .int .i64 (n : Nat)), (15, .int .i64 (n : Nat)), (16, .bool false)] H') →
    Wp E base bar (.loop c57_l0) [(3, v), (13, .vec id ver 1 n 1), (14, .int .i64 (n : Nat)), (15, .int .i64 (i : Nat))] H R := by
  intro k
  induction k with
  | zero =>
    intro i v H hi hg h
    obtain rfl : i = n := by omega
    rw [wp_round c57_l0.eq_1]
    simp [go_sem]
    exact h v H hg
  | succ k ih =>
    intro i v H hi hg h
    have hlt : i < n := by omega
    have hidH : H[id]? = some (.row ver (bcells n w) 0 true) := by
      rcases hg with ⟨_, _, rfl⟩ | ⟨_, _, _, _, _, rfl⟩
      · exact hid
      · exact old_get hid
    rw [wp_round c57_l0.eq_1]
    simp [go_sem, hlt, loadB hidH (show i < 7 by omega), k72 (hw i), aop, chunks]
    refine hg.nat hb hbase (by simp; omega) fun v' H' tc g' => ?_
    simp [go_sem, i64_suc (show i < 1000000 by omega)]
    refine ih (i + 1) v' H' (by omega) ?_ h
    simpa [List.range_succ] using g'

theorem k57 {id ver n : Nat} {w : Nat → Nat} (hid : H[id]? = some (.row ver (bcells n w) 0 true)) (hw : ∀ x, w x < 256) (hn : n ≤ 7) (hb : bar ≤ H.length) (h : Q (outL 1 (nats (oftenS n w))) H) :
    WpCall E pure base bar 57 [.ptr id ver 0] H Q := by
  rw [call57]
  have hb' := bar_ok (pure := pure) hb
  simp [go_sem, WpFun, c57, aop, Opd.evo, loadBN hid, sliceB hid hn] at hb' ⊢
  refine l57 hid hw hn hb' (Nat.le_refl _) n 0 _ _ (by omega) Grow.nil fun v' H' g => ?_
  simp [go_sem]
  refine g.out hb' (Nat.le_refl _) ?_
  simpa using h

theorem oftenS_len {n : Nat} {w : Nat → Nat} : (oftenS n w).length = n := by simp [oftenS]

theorem k18 {n bits : Nat} {q : AV} {l : List ZZ} {f : Nat → Nat → Bool} (hq : isP q l) (hl : l.length < 1000) (hm : MadeC n bits l f) (hbar : bar ≤ H.length)
    (h : ∀ v, isL v (oftenS n (boardF l fun _ => 0)) → Q (.tup [v, .int .i64 0]) H) : WpCall E pure base bar 18 [.agg [.int .i64 (n : Nat), q]] H Q := by
  rw [call18]
  have hb' := bar_ok (pure := pure) hbar
  have hbd := hm.board.1
  have lh : aload (H ++ [Blk.row 0 [.int .i64 (n : Nat), q] 0 true]) ⟨true, 2⟩ (.ptr H.length 0 0) = some (.agg [.int .i64 (n : Nat), q]) := by simp [aload, own_get0, Ab.part]
  simp [go_sem, WpFun, c18, hq.frz, lh] at hb' ⊢
  generalize (if pure = true then H.length else bar) = bar' at hb' ⊢
  refine k56 hq hl (by simp; omega) (fun hc => absurd hm.check hc) (fun m hnm _ _ _ => ?_)
  obtain rfl : n = m := by omega
  have hid : (H ++ [Blk.row 0 [AV.int IntKind.i64 (n : Nat), q] 0 true, Blk.row 0 (bcells n (boardF l fun _ => 0)) 0 true])[H.length + 1]? = some (.row 0 (bcells n (boardF l fun _ => 0)) 0 true) := by simp [own_get]
  simp [go_sem]
  refine k57 hid hbd.lt hm.le (by simp; omega) ?_
  have hv := isL.out (l := oftenS n (boardF l fun _ => 0))
  generalize outL 1 (nats (oftenS n (boardF l fun _ => 0))) = v at hv
  simp [go_sem, hv.frz, hv.top]
  exact h v hv

/-! 20: those who can be called best -/
def isBest (n : Nat) (w : Nat → Nat) (x : Nat) : Bool := fartS w (fartS w (pw x)) == pw n - 1
def bestS (n : Nat) (w : Nat → Nat) : List Nat := (List.range n).filter (isBest n w)
theorem l20 {id ver n : Nat} {w : Nat → Nat} {H0 : Heap} (hid : H0[id]? = some (.row ver (bcells n w) 0 true)) (hbd : BoardW n w) (hb : bar ≤ H0.length) (hbase : base ≤ H0.length) {R : PQ} :
    ∀ (k x : Nat) (v : AV) (H : Heap), x + k = n → Grow 1 (nats ((List.range x).filter (isBest n w))) H0 v H →
    (∀ v' H', Grow 1 (nats (bestS n w)) H0 v' H' → R (.exit 0) [(4, .ptr id ver 0), (6, v'), (19, .int .i64 (n : Nat)), (20, .int .i64 (n : Nat)), (21, .bool false)] H') →
    Wp E base bar (.loop c20_l0) [(4, .ptr id ver 0), (6, v), (19, .int .i64 (n : Nat)), (20, .int .i64 (x : Nat))] H R := by
  intro k
  induction k with
  | zero =>
    intro x v H hx hg h
    obtain rfl : x = n := by omega
    rw [wp_round c20_l0.eq_1]
    simp [go_sem]
    exact h v H hg
  | succ k ih =>
    intro x v H hx hg h
    have hlt : x < n := by omega
    have hn := hbd.le
    have hgl := hg.len
    have hidH := hg.get hid
    have hp : pw x < 128 := Nat.pow_lt_pow_right (by decide) (show x < 7 by omega)
    have hst : (List.range (x + 1)).filter (isBest n w) = (List.range x).filter (isBest n w) ++ if isBest n w x = true then [x] else [] := by
      rw [List.range_succ, List.filter_append]
      cases hc : isBest n w x <;> simp [hc]
    have hdef : isBest n w x = (fartS w (fartS w (pw x)) == pw n - 1) := rfl
    rw [wp_round c20_l0.eq_1]
    simp [go_sem, hlt, shl_u8 (show x < 8 by omega)]
    refine k58 hidH hbd.lt hp (by omega) ?_
    simp [go_sem]
    refine k58 hidH hbd.lt (fart_lt hbd hp) (by omega) ?_
    have h59 := fun (Q : AV → Heap → Prop) => k59 (pure := false) (base := base) (bar := bar) (Q := Q) hidH hn
    generalize hmm : pw n - 1 = m at *
    simp [go_sem, h59, natEq]
    by_cases hc : fartS w (fartS w (pw x)) = m
    · rw [hdef, show (fartS w (fartS w (pw x)) == m) = true by simpa using hc] at hst
      simp [go_sem, hc, aop, fillA, setCells, chunks]
      refine hg.nat hb hbase (by have := List.length_filter_le (isBest n w) (List.range x); simp at this; omega) fun v' H' tc g' => ?_
      simp [go_sem, i64_suc (show x < 1000000 by omega)]
      refine ih (x + 1) v' H' (by omega) ?_ h
      rw [hst]; simpa using g'
    · rw [hdef, show (fartS w (fartS w (pw x)) == m) = false by simpa using hc] at hst
      simp [go_sem, hc, i64_suc (show x < 1000000 by omega)]
      refine ih (x + 1) v H (by omega) ?_ h
      rw [hst]; simpa using hg
theorem k20 {n bits : Nat} {q : AV} {l : List ZZ} {f : Nat → Nat → Bool} (hq : isP q l) (hl : l.length < 1000) (hm : MadeC n bits l f) (hbar : bar ≤ H.length)
    (h : ∀ v, isL v (bestS n (boardF l fun _ => 0)) → Q (.tup [v, .int .i64 0]) H) : WpCall E pure base bar 20 [.agg [.int .i64 (n : Nat), q]] H Q := by
  rw [call20]
  have hb' := bar_ok (pure := pure) hbar
  have hbd := hm.board.1
  have lh : aload (H ++ [Blk.row 0 [.int .i64 (n : Nat), q] 0 true]) ⟨true, 2⟩ (.ptr H.length 0 0) = some (.agg [.int .i64 (n : Nat), q]) := by simp [aload, own_get0, Ab.part]
  simp [go_sem, WpFun, c20, hq.frz, lh] at hb' ⊢
  generalize (if pure = true then H.length else bar) = bar' at hb' ⊢
  refine k56 hq hl (by simp; omega) (fun hc => absurd hm.check hc) (fun m hnm _ _ _ => ?_)
  obtain rfl : n = m := by omega
  have hid : (H ++ [Blk.row 0 [AV.int IntKind.i64 (n : Nat), q] 0 true, Blk.row 0 (bcells n (boardF l fun _ => 0)) 0 true])[H.length + 1]? = some (.row 0 (bcells n (boardF l fun _ => 0)) 0 true) := by simp [own_get]
  simp [go_sem, loadBN hid]
  refine l20 hid hbd (by simp; omega) (by simp) n 0 .nils _ (by omega) Grow.nil fun v' H' g => ?_
  obtain ⟨H2, f1, f2, f3, f4⟩ := g.frz (d := 5) (bar := bar') (by decide) (Nat.one_dvd _) nats_plain (by simp; omega)
  rw [show 5 + 3 = 8 from rfl] at f1
  have e5 : H2.take H.length = H := by
    have := congrArg (List.take H.length) f4
    rw [List.take_take, Nat.min_eq_left (by simp)] at this
    rw [this]; simp
  have hv := isL.out (l := bestS n (boardF l fun _ => 0))
  simp [go_sem, f1, hv.top, e5]
  exact h _ hv
end Go.Proofs.Ytnlebofipoepfaa.Code
end

section
namespace Go.Proofs.Ytnlebofipoepfaa.Code
open Go Go.Ab
variable {pure : Bool} {base bar : Nat} {H : Heap} {Q : AV → Heap → Prop}

theorem eqWp_bool {neg a b : Bool} {K : AV → Heap → List Nat → Prop} : eqWp neg .bool (some (.bool a)) (some (.bool b)) H K = K (.bool (if neg then a != b else a == b)) H [] := by
  cases neg <;> cases a <;> cases b <;> rfl
/-! 55: has a list a number -/
theorem l85 {v : AV} {l : List Nat} {x : Nat} (hv : isL v l) (hl : l.length < 1000) {R : PQ} : ∀ (k i : Nat), i + k = l.length →
    (x ∈ l.drop i → ∀ j : Nat, R .ret [(4, .int .i64 (j : Nat))] H) →
    (x ∉ l.drop i → R (.exit 0) [(0, v), (1, .int .i64 (x : Nat)), (7, .int .i64 (l.length : Nat)), (8, .int .i64 (l.length : Nat)), (9, .bool false)] H) →
    Wp E base bar (.loop c85_l0) [(0, v), (1, .int .i64 (x : Nat)), (7, .int .i64 (l.length : Nat)), (8, .int .i64 (i : Nat))] H R := by
  intro k
  induction k with
  | zero =>
    intro i hi h1 h2
    obtain rfl : i = l.length := by omega
    rw [wp_round c85_l0.eq_1]
    simp [go_sem]
    exact h2 (by simp)
  | succ k ih =>
    intro i hi h1 h2
    have hlt : i < l.length := by omega
    rw [List.drop_eq_getElem_cons hlt, List.mem_cons] at h1 h2
    rw [wp_round c85_l0.eq_1]
    by_cases hx : x = l[i]
    · have := h1 (.inl hx) i
      simp [go_sem, hlt, hv.ix hlt, natEq, ← hx]
      exact this
    · have next := ih (i + 1) (by omega) (fun hm => h1 (.inr hm)) (fun hm => h2 (by rintro (h | h); exact hx h; exact hm h))
      simp [go_sem, hlt, hv.ix hlt, natEq, hx, i64_suc (show i < 1000000 by omega)]
      exact next
theorem k55 {v : AV} {l : List Nat} {x : Nat} (hv : isL v l) (hl : l.length < 1000) (h : Q (.bool (decide (x ∈ l))) H) : WpCall E pure base bar 55 [v, .int .i64 (x : Nat)] H Q := by
  rw [call55]
  simp [go_sem, WpFun, c55, hv.frz]
  rw [call85]
  simp [go_sem, WpFun, c85, hv.frz, hv.len]
  refine l85 (x := x) hv hl l.length 0 (by omega) (fun hm j => ?_) (fun hm => ?_)
  · rw [List.drop_zero] at hm
    rw [decide_eq_true hm] at h
    simp [go_sem]
    exact h
  · rw [List.drop_zero] at hm
    rw [decide_eq_false hm] at h
    simp [go_sem]
    exact h

/-! 54: are the first all met -/
def bools (l : List Bool) : List AV := l.map .bool
theorem l93 {ex : Bool} {l : List Bool} (hl : l.length < 1000) {R : PQ} : ∀ (k i : Nat), i + k = l.length →
    (false ∈ l.drop i → ∀ j : Nat, R .ret [(4, .int .i64 (j : Nat))] H) →
    (false ∉ l.drop i → R (.exit 0) [(0, .lst 1 ex (bools l)), (1, .bool false), (7, .int .i64 (l.length : Nat)), (8, .int .i64 (l.length : Nat)), (9, .bool false)] H) →
    Wp E base bar (.loop c93_l0) [(0, .lst 1 ex (bools l)), (1, .bool false), (7, .int .i64 (l.length : Nat)), (8, .int .i64 (i : Nat))] H R := by
  intro k
  induction k with
  | zero =>
    intro i hi h1 h2
    obtain rfl : i = l.length := by omega
    rw [wp_round c93_l0.eq_1]
    simp [go_sem]
    exact h2 (by simp)
  | succ k ih =>
    intro i hi h1 h2
    have hlt : i < l.length := by omega
    have hget : (bools l)[i]? = some (.bool l[i]) := by simp [bools, List.getElem?_eq_getElem hlt]
    have hld : ∀ b : Bool, aload H ⟨false, 1⟩ (.fp (.bool b)) = some (.bool b) := fun b => rfl
    rw [List.drop_eq_getElem_cons hlt, List.mem_cons] at h1 h2
    rw [wp_round c93_l0.eq_1]
    cases hx : l[i]
    · have := h1 (.inl hx.symm) i
      simp [go_sem, hlt, hget, hx, valWp_some, hld, eqWp_bool]
      exact this
    · have next := ih (i + 1) (by omega) (fun hm => h1 (.inr hm)) (fun hm => h2 (by rintro (h | h); rw [hx] at h; cases h; exact hm h))
      simp [go_sem, hlt, hget, hx, valWp_some, hld, eqWp_bool, i64_suc (show i < 1000000 by omega)]
      exact next
theorem k84 {ex : Bool} {l : List Bool} (hl : l.length < 1000) (h : Q (.bool (decide (false ∈ l))) H) : WpCall E pure base bar 84 [.lst 1 ex (bools l), .bool false] H Q := by
  rw [call84]
  have hbl : (bools l).length = l.length := by simp [bools]
  simp [go_sem, WpFun, c84]
  rw [call93]
  simp [go_sem, WpFun, c93, hbl]
  refine l93 hl l.length 0 (by omega) (fun hm j => ?_) (fun hm => ?_)
  · rw [List.drop_zero] at hm
    rw [decide_eq_true hm] at h
    simp [go_sem]
    exact h
  · rw [List.drop_zero] at hm
    rw [decide_eq_false hm] at h
    simp [go_sem]
    exact h
theorem sliceM {id ver fz : Nat} {m : Nat → Bool} (hid : H[id]? = some (.row ver (mcells m) fz true)) {n : Nat} (hn : n ≤ 7) :
    aslice H (.arr 7 1) (.ptr id ver 0) none (some (.int .i64 (n : Int))) none = some (.vec id ver 0 n 1) := by
  simp [aslice, hid, mcells_length, optBound, bound1, AV.asNat, hn]
theorem frz_first {pure : Bool} {base bar : Nat} {fn : FuncId} {c : AFun} {args args' : List AV} {H H' : Heap} {Q : AV → Heap → Prop}
    (hc : ∀ {args : List AV} {H : Heap}, WpCall E pure base bar fn args H Q ↔ frzWp E pure base bar c Q (frzAll bar H args)) (h1 : frzAll bar H args = some (args', H')) (h2 : frzAll bar H' args' = some (args', H')) (h : WpCall E pure base bar fn args' H' Q) : WpCall E pure base bar fn args H Q := by
  rw [hc, h1]; rw [hc, h2] at h; exact h
theorem k54 {n : Nat} {m : Nat → Bool} (hn : n ≤ 7) (hbar : bar ≤ H.length) (h : Q (.bool ((List.range n).all m)) H) : WpCall E pure base bar 54 [.agg (mcells m), .int .i64 (n : Nat)] H Q := by
  rw [call54]
  have hb' := bar_ok (pure := pure) hbar
  have hid : (H ++ [Blk.row 0 (mcells m) 0 true])[H.length]? = some (.row 0 (mcells m) 0 true) := by simp [own_get0]
  have hcut : (mcells m).take n = bools ((List.range n).map m) := by
    unfold mcells bools
    rw [List.map_map, ← List.map_take, List.take_range, Nat.min_eq_left hn]
    rfl
  simp [go_sem, WpFun, c54, frz_m, aop, Opd.evo, sliceM hid hn] at hb' ⊢
  generalize (if pure = true then H.length else bar) = bar' at hb' ⊢
  have fz := frz_vec (d := 7) (bar := bar') (H := H ++ [Blk.row 0 (mcells m) 0 true]) (id := H.length) (ver := 0) (off := 0) (len := n) (sz := 1) (cs := mcells m) (fz := 0) (ex := true) (xs := bools ((List.range n).map m))
      (H' := (H ++ [Blk.row 0 (mcells m) 0 true]).set H.length (.row 0 (mcells m) (max 0 (0 + n * 1)) true)) hid (by rw [mcells_length]; omega) hb' (by
        rw [List.drop_zero, Nat.mul_one, hcut, plains (d := 5) (fun c hc => by
          simp only [bools, List.mem_map] at hc
          obtain ⟨a, _, rfl⟩ := hc
          exact Plain.bool)])
  have hch : chunks 1 n (bools ((List.range n).map m)) = bools ((List.range n).map m) := by
    have := chunks_one (l := bools ((List.range n).map m))
    have e : (bools ((List.range n).map m)).length = n := by simp [bools]
    rw [e] at this; exact this
  rw [hch] at fz
  refine frz_first call84 (args' := [.lst 1 false (bools ((List.range n).map m)), .bool false]) (by simp [go_sem, fz]; rfl) (by simp [go_sem]) ?_
  refine k84 (by simp; omega) ?_
  have e : decide (false ∈ (List.range n).map m) = !(List.range n).all m := by
    rw [Bool.eq_iff_iff]
    simp
  rw [e]
  simp [go_sem, own_set0]
  exact h

/-! a list that is still owned -/
def Wv (l : List Nat) (v : AV) (H : Heap) : Prop := (l = [] ∧ v = .nils) ∨ ∃ id ver fz, l ≠ [] ∧ v = .vec id ver 0 l.length 1 ∧ H[id]? = some (.row ver (nats l) fz false)
theorem Wv.of_grow {l : List Nat} {H0 : Heap} {v : AV} (g : Grow 1 (nats l) H0 v H) : Wv l v H := by
  rcases g with ⟨h1, rfl, rfl⟩ | ⟨ver, fz, h1, h2, rfl, rfl⟩
  · exact .inl ⟨by simpa [nats_eq_nil] using h1, rfl⟩
  · exact .inr ⟨H0.length, ver, fz, by simpa [nats_eq_nil] using h1, by rw [nats_length]; simp, by simp⟩
theorem Wv.len {l : List Nat} {v : AV} (h : Wv l v H) {K : AV → Heap → List Nat → Prop} : lenWp (some v) H K = K (.int .i64 (l.length : Int)) H [] := by
  rcases h with ⟨rfl, rfl⟩ | ⟨id, ver, fz, h1, rfl, h2⟩ <;> rfl
theorem Wv.frz {l : List Nat} {v : AV} (h : Wv l v H) : ∃ v' H', frz 8 0 H v = some (v', H') ∧ isL v' l ∧ Wv l v H' := by
  rcases h with ⟨rfl, rfl⟩ | ⟨id, ver, fz, h1, rfl, h2⟩
  · exact ⟨.nils, H, rfl, .nil, .inl ⟨rfl, rfl⟩⟩
  · have e := frz_vec (d := 7) (bar := 0) (H := H) (id := id) (ver := ver) (off := 0) (len := l.length) (sz := 1) (cs := nats l) (fz := fz) (ex := false) (xs := nats l)
      (H' := H.set id (.row ver (nats l) (max fz (0 + l.length * 1)) false)) h2 (by rw [nats_length]; omega) (Nat.zero_le _) (by
        rw [List.drop_zero, List.take_of_length_le (by rw [nats_length]; omega), plains nats_plain])
    have hch : chunks 1 l.length (nats l) = nats l := by
      have := chunks_one (l := nats l)
      rw [nats_length] at this; exact this
    rw [hch] at e
    exact ⟨_, _, e, .lst (ex := false), .inr ⟨id, ver, max fz (0 + l.length * 1), h1, rfl, set_get h2⟩⟩
theorem Wv.ix {l : List Nat} {v : AV} (h : Wv l v H) {i : Nat} (hi : i < l.length) : ∃ p, (∀ K : AV → Heap → List Nat → Prop, ixaSWp 1 (some v) (some (.int .i64 (i : Int))) H K = K p H []) ∧ aload H ⟨false, 1⟩ p = some (.int .i64 ((l[i] : Nat) : Int)) := by
  rcases h with ⟨rfl, rfl⟩ | ⟨id, ver, fz, h1, rfl, h2⟩
  · simp at hi
  · refine ⟨.ptr id ver i, fun K => ?_, ?_⟩
    · simp [ixaSWp_vec, hi]
    · rw [aload_ptr h2, part_one, nats_get hi]
end Go.Proofs.Ytnlebofipoepfaa.Code
end
