/-
  Parts of the proofs about this chapter, joined: contracts of functions and plain laws.
-/
import Derived.Test.YtnlebofipoepfaaK7
set_option linter.all false
section
namespace Go.Proofs.Ytnlebofipoepfaa.Code
open Go Go.Ab
variable {pure : Bool} {base bar : Nat} {H : Heap} {Q : AV → Heap → Prop}

/-! 25 and 26: chains, of contests in general -/
theorem k25e {n x y : Int} {q : AV} {l : List ZZ} (hq : isP q l) (hl : l.length < 1000) (hc : checkS n l ≠ 0) (hbar : bar ≤ H.length) (h : Q (.tup [.nils, .int .i64 (checkS n l)]) H) : WpCall E pure base bar 25 [.agg [.int .i64 n, q], .int .i64 x, .int .i64 y] H Q := by
  rw [call25]
  have hb' := bar_ok (pure := pure) hbar
  have e0 : H ++ [.row 0 [.int .i64 n, q] 0 true] = HI H n q := rfl
  simp [go_sem, WpFun, c25, hq.frz, e0, HI_h] at hb' ⊢
  refine k56 hq hl (by rw [HI_len]; omega) (fun _ => ?_) (fun m _ _ _ hc' => absurd hc' hc)
  simp [go_sem, hc, HI_take]
  exact h
theorem k25n {n : Nat} {x y : Int} {q : AV} {l : List ZZ} (hq : isP q l) (hl : l.length < 1000) (hm : OkC n l) (hxy : x < 0 ∨ y < 0 ∨ (n : Int) ≤ x ∨ (n : Int) ≤ y) (hbar : bar ≤ H.length) (h : Q (.tup [.nils, .int .i64 2]) H) : WpCall E pure base bar 25 [.agg [.int .i64 (n : Int), q], .int .i64 x, .int .i64 y] H Q := by
  rw [call25]
  have hb' := bar_ok (pure := pure) hbar
  have e0 : H ++ [.row 0 [.int .i64 (n : Int), q] 0 true] = HI H n q := rfl
  simp [go_sem, WpFun, c25, hq.frz, e0, HI_h] at hb' ⊢
  refine k56 hq hl (by rw [HI_len]; omega) (fun hc => absurd hm.check hc) (fun m hnm _ _ _ => ?_)
  obtain rfl : n = m := by omega
  have hid : (HI H (n : Int) q ++ [Blk.row 0 (bcells n (boardF l fun _ => 0)) 0 true])[H.length + 1]? = some (.row 0 (bcells n (boardF l fun _ => 0)) 0 true) := by simp [HI, own_get]
  have htk : (HI H (n : Int) q ++ [Blk.row 0 (bcells n (boardF l fun _ => 0)) 0 true]).take H.length = H := by simp [HI]
  rw [HI_len]
  generalize HI H (n : Int) q ++ [Blk.row 0 (bcells n (boardF l fun _ => 0)) 0 true] = X at *
  simp [go_sem, loadBN hid, aop, htk]
  by_cases c1 : (0 : Int) ≤ (if y < x then y else x)
  · rw [if_pos c1, if_pos (by split at c1 <;> split <;> omega)]
    exact h
  · rw [if_neg c1]
    exact h
set_option maxRecDepth 4000 in
theorem k25g {n x y : Nat} {q : AV} {l : List ZZ} (hq : isP q l) (hl : l.length < 1000) (hm : OkC n l) (hx : x < n) (hy : y < n) (hbar : bar ≤ H.length)
    (h1 : reachR (bitL l) n x n y = false → Q (.tup [.nils, .int .i64 12]) H)
    (h2 : ∀ L v d, isL v L → ChainP (bitL l) n y x d L → L.length = d + 1 → isLv (bitL l) n y x d → Q (.tup [v, .int .i64 0]) H) : WpCall E pure base bar 25 [.agg [.int .i64 (n : Nat), q], .int .i64 (x : Nat), .int .i64 (y : Nat)] H Q := by
  rw [call25]
  have hb' := bar_ok (pure := pure) hbar
  have hn := hm.le
  obtain ⟨hbd, hbit⟩ := hm.board
  have hd   : ∀ x y, bitL l x y = true → x < n ∧ y < n := fun x y hxy => hm.dom x y hxy
  have lh : aload (H ++ [Blk.row 0 [.int .i64 (n : Nat), q] 0 true]) ⟨true, 2⟩ (.ptr H.length 0 0) = some (.agg [.int .i64 (n : Nat), q]) := by simp [aload, own_get0, Ab.part]
  simp [go_sem, WpFun, c25, hq.frz, lh] at hb' ⊢
  generalize (if pure = true then H.length else bar) = bar' at hb' ⊢
  refine k56 hq hl (by simp; omega) (fun hc => absurd hm.check hc) (fun m hnm _ _ _ => ?_)
  obtain rfl : n = m := by omega
  have hid : (H ++ [Blk.row 0 [AV.int IntKind.i64 (n : Nat), q] 0 true, Blk.row 0 (bcells n (boardF l fun _ => 0)) 0 true])[H.length + 1]? = some (.row 0 (bcells n (boardF l fun _ => 0)) 0 true) := by simp [own_get]
  have hk64 := reach_all hx hbd hbit (j := y)
  obtain ⟨g, hg⟩ := reach_w hbd
  have hgx := hg.lt x (by omega)
  have hgb := hg.bit x y (by omega)
  have c1 : (0 : Int) ≤ (if y < x then (y : Int) else (x : Int)) := by split <;> omega
  have c2 : ¬ ((n : Int) ≤ if x < y then (y : Int) else (x : Int)) := by split <;> omega
  simp [go_sem, loadBN hid, aop]
  rw [if_pos c1, if_neg c2]
  refine k64g hid hbd hg (by omega) (by simp; omega) ?_
  cases hr : reachR (bitL l) n x n y
  · have e : (g x).testBit y = false := by
      cases he : (g x).testBit y
      · rfl
      · rw [hk64.2 (hgb.1 he)] at hr; cases hr
    simp [go_sem, k65 (show g x < 256 by omega), e]
    exact h1 hr
  · have e : (g x).testBit y = true := hgb.2 (hk64.1 hr)
    simp [go_sem, k65 (show g x < 256 by omega), e, shl_u8 (show y < 8 by omega)]
    have z7 : [AV.int .i64 0, .int .i64 0, .int .i64 0, .int .i64 0, .int .i64 0, .int .i64 0, .int .i64 0] = fcells 7 (fun _ => 0) := rfl
    rw [z7]
    obtain ⟨H3, hH3⟩ : ∃ H3, H3 = H ++ [Blk.row 0 [AV.int IntKind.i64 (n : Nat), q] 0 true, Blk.row 0 (bcells n (boardF l fun _ => 0)) 0 true, .row 0 (fcells 7 fun _ => 0) 0 true] := ⟨_, rfl⟩
    have q1 : H3[H.length + 1]? = some (Blk.row 0 (bcells n (boardF l fun _ => 0)) 0 true) := by rw [hH3]; simp [own_get]
    have q2 : H3[H.length + 2]? = some (Blk.row 0 (fcells 7 fun _ => 0) 0 true) := by rw [hH3]; simp [own_get]
    have q3 : H3.length = H.length + 3 := by rw [hH3]; simp
    have q4 : H3.take H.length = H := by rw [hH3]; simp
    have e3 : H3 = H3.set (H.length + 2) (.row 0 (fcells 7 fun _ => 0) 0 true) := by
      rw [hH3, own_set]; rfl
    rw [← hH3, e3]
    refine l25b (g := bitL l) q1 q2 (by omega) (by omega) hn hbd hd hbit hx hy hr (fun k s lv hkn hK hkr => ?_) n 0 (pw y) (fun _ => 0) (by omega) (Known.zero hy hn rfl)
    have q5 : (H3.set (H.length + 2) (.row 0 (fcells 7 lv) 0 true))[H.length + 1]? = some (Blk.row 0 (bcells n (boardF l fun _ => 0)) 0 true) := by rw [List.getElem?_set_ne (by omega)]; exact q1
    have q6 : (H3.set (H.length + 2) (.row 0 (fcells 7 lv) 0 true))[H.length + 2]? = some (.row 0 (fcells 7 lv) 0 true) := set_get q2
    have q7 : (H3.set (H.length + 2) (.row 0 (fcells 7 lv) 0 true)).length = H.length + 3 := by simp [q3]
    have q8 : (H3.set (H.length + 2) (.row 0 (fcells 7 lv) 0 true)).take H.length = H := by rw [List.take_set_of_le (by omega), q4]
    generalize H3.set (H.length + 2) (.row 0 (fcells 7 lv) 0 true) = H4 at *
    have hlx := hK.lev x ((hK.bit x).2 ⟨hx, hkr⟩)
    simp [go_sem, aop, fillA, setCells, chunks]
    refine l25d (bar := bar') (base := H.length) (x := x) (d := lv x) (g := bitL l) q5 q6 hn hbd hd hbit hK (hlx.le hkr) (by omega) (by omega) (by omega) (fun L v Hc hc hlen hgr => ?_) (lv x) [x] _ H4 (by simp; omega) (ChainP.one hx hlx) (.inl ⟨by simp, rfl, rfl⟩)
    obtain ⟨qv, H5, f1, f2, f3⟩ := hgr.frz (bar := bar') (by omega)
    have f4 : H5.take H.length = H := by
      have := congrArg (List.take H.length) f3
      rw [List.take_take, q7, Nat.min_eq_left (by omega), q8] at this
      exact this
    simp [go_sem, f1, f2.top, f4]
    exact h2 L qv (lv x) f2 hc hlen hlx
theorem k26 {n x y : Int} {q : AV} {l : List ZZ} (hq : isP q l) (hl : l.length < 1000) (hbar : bar ≤ H.length)
    (h1 : checkS n l ≠ 0 → Q (.tup [.nils, .int .i64 (checkS n l)]) H)
    (h2 : checkS n l = 0 → (x < 0 ∨ y < 0 ∨ n ≤ x ∨ n ≤ y) → Q (.tup [.nils, .int .i64 2]) H)
    (h3 : ∀ m a b : Nat, n = m → x = a → y = b → a < m → b < m → OkC m l → chainF l m a b m 0 = [] → Q (.tup [.nils, .int .i64 12]) H)
    (h4 : ∀ m a b : Nat, n = m → x = a → y = b → a < m → b < m → OkC m l → chainF l m a b m 0 ≠ [] → ∀ v, isL v (chainF l m a b m 0) → Q (.tup [v, .int .i64 0]) H) :
    WpCall E pure base bar 26 [.agg [.int .i64 n, q], .int .i64 x, .int .i64 y] H Q := by
  rw [call26]
  have hb' := bar_ok (pure := pure) hbar
  have e0 : H ++ [.row 0 [.int .i64 n, q] 0 true] = HI H n q := rfl
  simp [go_sem, WpFun, c26, hq.frz, e0, HI_h, HI_n, k24 hq hl] at hb' ⊢
  generalize (if pure = true then H.length else bar) = bar' at hb' ⊢
  by_cases hc : checkS n l = 0
  · obtain ⟨m, rfl, hok⟩ := OkC.of hc
    have hm7 := hok.le
    obtain ⟨mm, hmm, hpn⟩ : ∃ k : Int, k = (m : Int) - 1 ∧ IntKind.i64.wrap ((m : Int) - 1) = k := ⟨_, rfl, i64_pred (by omega)⟩
    by_cases cx : within 0 mm x = true
    · by_cases cy : within 0 mm y = true
      · have cx' := cx
        have cy' := cy
        simp [within] at cx' cy'
        obtain ⟨a, rfl⟩ := Int.eq_ofNat_of_zero_le (show 0 ≤ x by omega)
        obtain ⟨b, rfl⟩ := Int.eq_ofNat_of_zero_le (show 0 ≤ y by omega)
        simp [go_sem, hc, HI_n, HI_h, hpn, k62, cx, cy]
        refine k60 (most := m) hq hl hok.le hok.le (by rw [HI_len]; omega) (fun v hv hvn hne => ?_) fun he => ?_
        · simp [go_sem, eqWp_nil hv hvn, hv.frz, hv.top, HI_take]
          exact h4 m a b rfl rfl rfl (by omega) (by omega) hok hne v hv
        · simp [go_sem, eqWp_nil0, HI_take]
          exact h3 m a b rfl rfl rfl (by omega) (by omega) hok he
      · have cy' : within 0 mm y = false := by simpa using cy
        simp [within] at cx cy
        simp [go_sem, hc, HI_n, HI_h, hpn, k62, show within 0 mm x = true by simp [within]; omega, cy', HI_take]
        exact h2 hc (by omega)
    · have cx' : within 0 mm x = false := by simpa using cx
      simp [within] at cx
      simp [go_sem, hc, HI_n, HI_h, hpn, k62, cx', HI_take]
      exact h2 hc (by omega)
  · simp [go_sem, hc, HI_take]
    exact h1 hc
/-- a chain found greedily is the first one -/
theorem chain_greedy {f : Nat → Nat → Bool} {n y : Nat} (hdom : ∀ x y, f x y = true → x < n ∧ y < n) : ∀ (d : Nat) {x : Nat} {L : List Nat}, ChainP f n y x d L → L.length = d + 1 → L = x :: greedy f n y d x := by
  intro d x L hc hlen
  have key : ∀ k i, i + k = d → L.drop i = L.getD i 0 :: greedy f n y k (L.getD i 0) := by
    intro k
    induction k with
    | zero =>
      intro i hi
      rw [List.drop_eq_getElem_cons (show i < L.length by omega), List.drop_eq_nil_of_le (by omega)]
      rw [List.getD_eq_getElem?_getD, List.getElem?_eq_getElem (by omega)]
      rfl
    | succ k ih =>
      intro i hi
      have hlt : i < L.length := by omega
      have hb := hc.beat (i + 1) (by omega) (by omega)
      have hle := hc.least (i + 1) (by omega) (by omega)
      have hlv := (hc.lv (i + 1) (by omega)).2.1
      rw [show i + 1 - 1 = i by omega] at hb hle
      rw [show d - (i + 1) = k by omega] at hle hlv
      have hx : (List.range' 0 n).find? (fun z => f (L.getD i 0) z && reachR f n z k y) = some (L.getD (i + 1) 0) := by
        rw [List.find?_range'_eq_some]
        refine ⟨?_, ?_, fun z hz => ?_⟩
        · rw [hb, hlv.1]; rfl
        · have := (hdom _ _ hb).2
          rw [List.mem_range'_1]; omega
        · intro hz2
          cases hf : f (L.getD i 0) z
          · simp
          · rw [hle z hz2 hf]; rfl
      have hgi : L.getD i 0 = L[i] := by rw [List.getD_eq_getElem?_getD, List.getElem?_eq_getElem hlt]; rfl
      rw [greedy.eq_2, hx, List.drop_eq_getElem_cons hlt, ih (i + 1) (by omega), hgi]
  have := key d 0 (by omega)
  rw [List.drop_zero, hc.first] at this
  exact this
end Go.Proofs.Ytnlebofipoepfaa.Code
end

section
namespace Go.Proofs.Ytnlebofipoepfaa.Code
open Go Go.Ab
variable {pure : Bool} {base bar : Nat} {H : Heap} {Q : AV → Heap → Prop}

/-! 83: a list without room -/
theorem k83 {sv : AV} {s : List Nat} (hs : isL sv s) (h0 : s = [] → sv = .nils) (hQ : ∀ c, Gro s H c H → Q c H) : WpCall E pure base bar 83 [sv] H Q := by
  rw [call83]
  by_cases he : s = []
  · obtain rfl := h0 he
    have := hQ .nils (.inr (by rw [he]; exact .nil))
    simp [go_sem, WpFun, c83, aop, Opd.evo, aslice, optBound, bound1, AV.asNat]
    exact this
  · rcases hs with ⟨rfl, h⟩ | ⟨ex, rfl⟩
    · exact absurd h he
    · have hl : (nats s).length = s.length := nats_length
      simp [go_sem, WpFun, c83, aop, Opd.evo, aslice, optBound, bound1, AV.asNat, tops_nats]
      exact hQ _ (.inl ⟨he, rfl, rfl⟩)

/-! 67: the first way through all, searched -/
def rowS (f : Nat → Nat → Bool) (g : Nat → Bool) : Nat → List Nat → Nat → Option (List Nat)
  | 0, s, _ => if g (lastN s) = true then some s else none
  | k + 1, s, left => (bitsOf left).findSome? fun x => if (s.isEmpty || f (lastN s) x) = true then rowS f g k (s ++ [x]) (clr left (pw x)) else none
def Ext (H Hc : Heap) : Prop := H.length ≤ Hc.length ∧ ∀ j, j < H.length → Hc[j]? = H[j]?
theorem Ext.refl : Ext H H := ⟨Nat.le_refl _, fun _ _ => rfl⟩
theorem Ext.trans {A B C : Heap} (h1 : Ext A B) (h2 : Ext B C) : Ext A C := ⟨Nat.le_trans h1.1 h2.1, fun j hj => (h2.2 j (Nat.lt_of_lt_of_le hj h1.1)).trans (h1.2 j hj)⟩
theorem Ext.get {A B : Heap} (h : Ext A B) {i : Nat} {b : Blk} (hi : A[i]? = some b) : B[i]? = some b := by
  rw [h.2 i (List.getElem?_eq_some_iff.1 hi).1]; exact hi
theorem Ext.take {A B : Heap} (h : Ext A B) : B.take A.length = A := by
  apply List.ext_getElem?
  intro j
  rw [List.getElem?_take]
  by_cases hj : j < A.length
  · rw [if_pos hj, h.2 j hj]
  · rw [if_neg hj, List.getElem?_eq_none (by omega)]
theorem Gro.ext {l : List Nat} {H0 H : Heap} {v : AV} (g : Gro l H0 v H) : Ext H0 H := ⟨g.len, fun j hj => by rw [g.get (List.getElem?_eq_getElem hj), List.getElem?_eq_getElem hj]⟩
theorem Gro.frz2 {l : List Nat} {H0 H : Heap} {v : AV} (g : Gro l H0 v H) (hb : bar ≤ H0.length) : ∃ q H', Go.Ab.frz 8 bar H v = some (q, H') ∧ isL q l ∧ Ext H0 H' := by
  rcases g with ⟨hne, rfl, rfl⟩ | g
  · refine ⟨_, _, ?_, isL.lst (ex := true), Ext.refl⟩
    exact (isL.lst (ex := true) (l := l)).frz
  · obtain ⟨H', h1, h2, h3, h4⟩ := g.frz (d := 5) (bar := bar) (by omega) (Nat.one_dvd _) nats_plain hb
    refine ⟨_, H', h1, isL.out, ?_, fun j hj => ?_⟩
    · have := congrArg List.length h4
      rw [List.length_take] at this; omega
    · have := congrArg (fun L : Heap => L[j]?) h4
      simpa [List.getElem?_take, hj] using this
/-- a function that says of a curler whether a row may end so -/
structure GoalAt (fid : FuncId) (caps : List AV) (g : Nat → Bool) (Hg : Heap) : Prop where
  top : AV.top.tops caps ≤ Hg.length
  call : ∀ {pure : Bool} {base bar : Nat} {H : Heap} {Q : AV → Heap → Prop} {x : Nat}, x < 7 → Ext Hg H → bar ≤ H.length → Q (.bool (g x)) H → WpCall E pure base bar fid (.int .i64 (x : Nat) :: caps) H Q
def Rec67 (Hg : Heap) (ib ver : Nat) (w : Nat → Nat) (fid : FuncId) (caps : List AV) (g : Nat → Bool) (k : Nat) : Prop := ∀ (s : List Nat) (sv : AV) (left : Nat) (H : Heap) (pure : Bool) (base bar : Nat) (Q : AV → Heap → Prop), isL sv s → (s = [] → sv = .nils) → (∀ x ∈ s, x < 7) → s.length + k ≤ 100 → left < 128 → (bitsOf left).length = k →
  (k = 0 → s ≠ []) → Ext Hg H → bar ≤ H.length → (∀ L v, rowS (fun a b => (w a).testBit b) g k s left = some L → isL v L → Q (.tup [v, .bool true]) H) → (rowS (fun a b => (w a).testBit b) g k s left = none → ∀ v s', isL v s' → Q (.tup [v, .bool false]) H) →
  WpFun E pure base bar c67 [.ptr ib ver 0, sv, .int .u8 (left : Nat), .fn fid [] caps] H Q
theorem lastN_mem {s : List Nat} (h : s ≠ []) : lastN s ∈ s := by
  have := List.length_pos_iff.2 h
  rw [← (lastN_get h).2 (by omega)]
  exact List.getElem_mem _
section
variable {Hg : Heap} {ib ver fz n : Nat} {ex : Bool} {w : Nat → Nat} {fid : FuncId} {caps : List AV} {g : Nat → Bool}
set_option maxRecDepth 4000 in
theorem l67 (hid : Hg[ib]? = some (.row ver (bcells n w) fz ex)) (hw : ∀ x, w x < 256) (hgo : GoalAt fid caps g Hg) {k : Nat} (hrec : Rec67 Hg ib ver w fid caps g k) {s : List Nat} {sv : AV} {left : Nat} (hs : isL sv s) (hs0 : s = [] → sv = .nils) (hs7 : ∀ x ∈ s, x < 7) (hsl : s.length + (k + 1) ≤ 100) (hl7 : left < 128)
    (hcard : (bitsOf left).length = k + 1) (hext : Ext Hg H) (hbar : bar ≤ H.length) {lv : AV} (hlv : isL lv (bitsOf left)) {R : PQ} :
    ∀ (d i : Nat), i + d = (bitsOf left).length →
    (∀ L v Hd, ((bitsOf left).drop i).findSome? (fun x => if (s.isEmpty || (w (lastN s)).testBit x) = true then rowS (fun a b => (w a).testBit b) g k (s ++ [x]) (clr left (pw x)) else none) = some L → isL v L → Ext H Hd → R .ret [(8, v), (9, .bool true)] Hd) →
    (((bitsOf left).drop i).findSome? (fun x => if (s.isEmpty || (w (lastN s)).testBit x) = true then rowS (fun a b => (w a).testBit b) g k (s ++ [x]) (clr left (pw x)) else none) = none → R (.exit 0) [(0, .ptr ib ver 0), (1, sv), (2, .int .u8 (left : Nat)), (3, .fn fid [] caps), (26, lv), (27, .int .i64 ((bitsOf left).length : Nat)), (28, .int .i64 ((bitsOf left).length : Nat)), (29, .bool false)] H) →
    Wp E base bar (.loop c67_l0) [(0, .ptr ib ver 0), (1, sv), (2, .int .u8 (left : Nat)), (3, .fn fid [] caps), (26, lv), (27, .int .i64 ((bitsOf left).length : Nat)), (28, .int .i64 (i : Nat))] H R := by
  intro d
  induction d with
  | zero =>
    intro i hi h1 h2
    obtain rfl : i = (bitsOf left).length := by omega
    rw [wp_round c67_l0.eq_1]
    simp [go_sem]
    exact h2 (by simp)
  | succ d ih =>
    intro i hi h1 h2
    have hlt : i < (bitsOf left).length := by omega
    have hid' := hext.get hid
    have hib := (List.getElem?_eq_some_iff.1 hid').1
    have htop : AV.top.tops caps ≤ H.length := Nat.le_trans hgo.top hext.1
    rw [List.drop_eq_getElem_cons hlt, List.findSome?_cons] at h1 h2
    have hx8 : (bitsOf left)[i] < 7 := bit_lt (n := 7) hl7 (bits_mem.1 (List.getElem_mem hlt)).2
    have hcl : (bitsOf (clr left (pw (bitsOf left)[i]))).length = k := by
      have := bits_cut left (by omega) (bitsOf left)[i] (by omega)
      rw [if_pos (bits_mem.1 (List.getElem_mem hlt)).2] at this
      omega
    have hb8 : (bitsOf left).length ≤ 8 := bits_len left
    have hix : ∀ {H : Heap} {K : AV → Heap → List Nat → Prop}, ixaSWp 1 (some lv) (some (.int .i64 (i : Int))) H K = K (.fp (.int .i64 ((bitsOf left)[i] : Nat))) H [] := fun {H K} => hlv.ix hlt
    have hz := i64_suc (show i < 1000000 by omega)
    have next := ih (i + 1) (by omega)
    generalize (bitsOf left)[i] = x at *
    generalize (bitsOf left).length = len at *
    have e1 : IntKind.i64.wrap ((s.length : Int) - 1) = ((s.length - 1 : Nat) : Int) ∨ s = [] := by
      by_cases he : s = []
      · exact .inr he
      · have := List.length_pos_iff.2 he
        left
        rw [show (s.length : Int) - 1 = ((s.length - 1 : Nat) : Int) by omega, i64_nat (by omega)]
    have hix2 : s ≠ [] → ∀ {H : Heap} {K : AV → Heap → List Nat → Prop}, ixaSWp 1 (some sv) (some (.int .i64 ((s.length - 1 : Nat) : Int))) H K = K (.fp (.int .i64 (lastN s : Nat))) H [] := fun he {H K} => by
      have := List.length_pos_iff.2 he
      rw [hs.ix (by omega), (lastN_get he).2]
    have hl7' : s ≠ [] → lastN s < 7 := fun he => hs7 _ (lastN_mem he)
    rw [wp_round c67_l0.eq_1]
    by_cases hc : (s.isEmpty || (w (lastN s)).testBit x) = true
    · simp only [hc, if_true] at h1 h2
      have hcond : s = [] ∨ (s ≠ [] ∧ (w (lastN s)).testBit x = true) := by
        by_cases he : s = []
        · exact .inl he
        · right
          refine ⟨he, ?_⟩
          rw [Bool.or_eq_true] at hc
          rcases hc with hc | hc
          · exact absurd (List.isEmpty_iff.1 hc) he
          · exact hc
      rcases hcond with he | ⟨he, hb⟩
      case' inl => simp [go_sem, hlt, hix, hs.len, he]
      case' inr =>
        have hl0 : ¬ s.length = 0 := fun h => he (List.length_eq_zero_iff.1 h)
        have e1' := e1.resolve_right he
        have hix2' := fun (H : Heap) (K : AV → Heap → List Nat → Prop) => hix2 he (H := H) (K := K)
        generalize s.length - 1 = m at *
        simp [go_sem, hlt, hix, hs.len, he, hl0, e1', hix2', k66 hid' hw (hl7' he), hb]
      all_goals
        refine k83 hs hs0 fun c gc => ?_
        simp [go_sem, hs.noVec, aop, fillA, setCells, chunks]
        refine gc.nat hbar (Nat.le_refl _) (by omega) fun v2 H2 tc2 g2 => ?_
        obtain ⟨q2, H3, f1, f2, f3⟩ := g2.frz2 (bar := bar) hbar
        have hcl7 : clr left (pw x) < 128 := Nat.lt_of_le_of_lt Nat.and_le_left hl7
        simp [go_sem, shl_u8 (show x < 8 by omega), andNot_u8 (show left < 256 by omega) (pw_lt (show x < 8 by omega)), call67, f1]
        refine hrec (s ++ [x]) q2 (clr left (pw x)) H3 true _ bar _ f2 (fun hc => absurd hc (by simp)) (fun y hy => by
          rcases List.mem_append.1 hy with hy | hy
          · exact hs7 y hy
          · rw [List.mem_singleton] at hy; omega) (by simp; omega) hcl7 hcl (fun _ => by simp) (hext.trans f3) (Nat.le_trans hbar f3.1) (fun L v hL hv => ?_) (fun hn v s' hv => ?_)
        · rw [hL] at h1
          simp [go_sem, hv.isTup]
          exact h1 L v H3 rfl hv f3
        · rw [hn] at h1 h2
          simp [go_sem, hv.isTup, hs.top, hlv.top, f3.take, hz]
          refine ⟨by omega, ?_⟩
          exact next h1 h2
    · simp only [hc] at h1 h2
      have he : s ≠ [] := fun he => hc (by rw [he]; rfl)
      have hb : (w (lastN s)).testBit x = false := by
        cases hb : (w (lastN s)).testBit x
        · rfl
        · exact absurd (by rw [hb, Bool.or_true]) hc
      have hl0 : ¬ s.length = 0 := fun h => he (List.length_eq_zero_iff.1 h)
      have e1' := e1.resolve_right he
      have hix2' := fun (H : Heap) (K : AV → Heap → List Nat → Prop) => hix2 he (H := H) (K := K)
      generalize s.length - 1 = m at *
      simp [go_sem, hlt, hix, hs.len, he, hl0, e1', hix2', k66 hid' hw (hl7' he), hb, hs.top, hlv.top, hz]
      refine ⟨by omega, ?_⟩
      exact next h1 h2
end
end Go.Proofs.Ytnlebofipoepfaa.Code
end

section
namespace Go.Proofs.Ytnlebofipoepfaa.Code
open Go Go.Ab
variable {pure : Bool} {base bar : Nat} {H : Heap} {Q : AV → Heap → Prop}

theorem bits_nil {left : Nat} (hl : left < 256) (h : (bitsOf left).length = 0) : left = 0 := by
  apply Nat.eq_of_testBit_eq
  intro i
  rw [Nat.zero_testBit]
  cases hi : left.testBit i
  · rfl
  · have := bits_mem.2 ⟨bit_lt (n := 8) hl hi, hi⟩
    rw [List.length_eq_zero_iff.1 h] at this; simp at this
section
variable {Hg : Heap} {ib ver fz n : Nat} {ex : Bool} {w : Nat → Nat} {fid : FuncId} {caps : List AV} {g : Nat → Bool}
set_option maxRecDepth 4000 in
theorem f67 (hid : Hg[ib]? = some (.row ver (bcells n w) fz ex)) (hw : ∀ x, w x < 256) (hgo : GoalAt fid caps g Hg) : ∀ k, Rec67 Hg ib ver w fid caps g k
  | 0 => fun s sv left H pure base bar Q hs hs0 hs7 hsl hl7 hcard hne hext hbar h1 h2 => by
    have hb' := bar_ok (pure := pure) hbar
    obtain rfl := bits_nil (show left < 256 by omega) hcard
    have he : s ≠ [] := hne rfl
    have hpos := List.length_pos_iff.2 he
    have e1 : IntKind.i64.wrap ((s.length : Int) - 1) = ((s.length - 1 : Nat) : Int) := by
      rw [show (s.length : Int) - 1 = ((s.length - 1 : Nat) : Int) by omega, i64_nat (by omega)]
    have hix : ∀ {H : Heap} {K : AV → Heap → List Nat → Prop}, ixaSWp 1 (some sv) (some (.int .i64 ((s.length - 1 : Nat) : Int))) H K = K (.fp (.int .i64 (lastN s : Nat))) H [] := fun {H K} => by rw [hs.ix (by omega), (lastN_get he).2]
    have hl7' : lastN s < 7 := hs7 _ (lastN_mem he)
    generalize s.length - 1 = m at *
    unfold rowS at h1 h2
    simp [go_sem, WpFun, c67, hs.len, e1, hix] at hb' ⊢
    refine hgo.call hl7' hext (by omega) ?_
    cases hg : g (lastN s)
    · rw [hg] at h2
      simp [go_sem, hs.isTup, hs.frz, hs.top]
      exact h2 (by simp) sv s hs
    · rw [hg] at h1
      simp [go_sem, hs.isTup, hs.frz, hs.top]
      exact h1 s sv (by simp) hs
  | k + 1 => fun s sv left H pure base bar Q hs hs0 hs7 hsl hl7 hcard hne hext hbar h1 h2 => by
    have hb' := bar_ok (pure := pure) hbar
    have hne0 : ¬ ((left : Nat) : Int) = 0 := fun h0 => by
      have : left = 0 := by omega
      subst this
      rw [bits_zero] at hcard; cases hcard
    have hne1 : ¬ left = 0 := fun h => hne0 (by rw [h]; rfl)
    simp [go_sem, WpFun, c67, hne0, hne1] at hb' ⊢
    generalize (if pure = true then H.length else bar) = bar' at hb' ⊢
    refine k71 (by omega) (by omega) ?_
    have hlv := isL.out (l := bitsOf left)
    generalize outL 1 (nats (bitsOf left)) = lv at hlv
    simp [go_sem, hlv.len]
    refine l67 hid hw hgo (f67 hid hw hgo k) hs hs0 hs7 hsl hl7 hcard hext hb' hlv (bitsOf left).length 0 (by omega) (fun L v Hd hL hv hx => ?_) fun hn => ?_
    · rw [List.drop_zero] at hL
      simp [go_sem, hv.isTup, hv.frz, hv.top, hx.take]
      exact h1 L v hL hv
    · rw [List.drop_zero] at hn
      simp [go_sem]
      exact h2 hn .nils [] isL.nil
theorem k67 {k : Nat} {s : List Nat} {sv : AV} {left : Nat} (hid : H[ib]? = some (.row ver (bcells n w) fz ex)) (hw : ∀ x, w x < 256) (hgo : GoalAt fid caps g H) (hs : isL sv s) (hs0 : s = [] → sv = .nils) (hs7 : ∀ x ∈ s, x < 7) (hsl : s.length ≤ 90) (hl7 : left < 128) (hcard : (bitsOf left).length = k) (hne : k = 0 → s ≠ []) (hbar : bar ≤ H.length)
    (h1 : ∀ L v, rowS (fun a b => (w a).testBit b) g k s left = some L → isL v L → Q (.tup [v, .bool true]) H) (h2 : rowS (fun a b => (w a).testBit b) g k s left = none → ∀ v s', isL v s' → Q (.tup [v, .bool false]) H) :
    WpCall E pure base bar 67 [.ptr ib ver 0, sv, .int .u8 (left : Nat), .fn fid [] caps] H Q := by
  rw [call67]
  have hb8 := bits_len left
  simp [go_sem, hs.frz]
  exact f67 hid hw hgo k s sv left H pure base bar Q hs hs0 hs7 (by omega) hl7 hcard hne Ext.refl hbar h1 h2
end

/-! 27: the first row -/
theorem k68 {x : Nat} (h : Q (.bool true) H) : WpCall E pure base bar 68 [.int .i64 (x : Nat)] H Q := by
  rw [call68]
  simp [go_sem, WpFun, c68]
  exact h
theorem goal68 : GoalAt 68 [] (fun _ => true) H := ⟨by simp [AV.top.tops], fun _ _ _ h => k68 h⟩
theorem bits_all {n : Nat} (hn : n ≤ 7) : (bitsOf (pw n - 1)).length = n := by
  have : ∀ n, n ≤ 7 → (bitsOf (pw n - 1)).length = n := by decide
  exact this n hn
theorem k27e {n : Int} {q : AV} {l : List ZZ} (hq : isP q l) (hl : l.length < 1000) (hc : checkS n l ≠ 0) (hbar : bar ≤ H.length) (h : Q (.tup [.nils, .int .i64 (checkS n l)]) H) : WpCall E pure base bar 27 [.agg [.int .i64 n, q]] H Q := by
  rw [call27]
  have hb' := bar_ok (pure := pure) hbar
  have e0 : H ++ [.row 0 [.int .i64 n, q] 0 true] = HI H n q := rfl
  simp [go_sem, WpFun, c27, hq.frz, e0, HI_h] at hb' ⊢
  refine k56 hq hl (by rw [HI_len]; omega) (fun _ => ?_) (fun m _ _ _ hc' => absurd hc' hc)
  simp [go_sem, hc, HI_take]
  exact h
theorem k27 {n : Nat} {q : AV} {l : List ZZ} (hq : isP q l) (hl : l.length < 1000) (hm : OkC n l) (hbar : bar ≤ H.length)
    (h1 : ∀ L v, rowS (bitL l) (fun _ => true) n [] (pw n - 1) = some L → isL v L → Q (.tup [v, .int .i64 0]) H) (h2 : rowS (bitL l) (fun _ => true) n [] (pw n - 1) = none → False) :
    WpCall E pure base bar 27 [.agg [.int .i64 (n : Int), q]] H Q := by
  rw [call27]
  have hb' := bar_ok (pure := pure) hbar
  have e0 : H ++ [.row 0 [.int .i64 (n : Int), q] 0 true] = HI H n q := rfl
  obtain ⟨hbd, hbit⟩ := hm.board
  have hn := hm.le
  have hpos := hm.pos
  simp [go_sem, WpFun, c27, hq.frz, e0, HI_h] at hb' ⊢
  generalize (if pure = true then H.length else bar) = bar' at hb' ⊢
  refine k56 hq hl (by rw [HI_len]; omega) (fun hc => absurd hm.check hc) (fun m hnm _ _ _ => ?_)
  obtain rfl : n = m := by omega
  have hid : (HI H (n : Int) q ++ [Blk.row 0 (bcells n (boardF l fun _ => 0)) 0 true])[H.length + 1]? = some (.row 0 (bcells n (boardF l fun _ => 0)) 0 true) := by simp [HI, own_get]
  have htk : (HI H (n : Int) q ++ [Blk.row 0 (bcells n (boardF l fun _ => 0)) 0 true]).take H.length = H := by simp [HI]
  have hlen : (HI H (n : Int) q ++ [Blk.row 0 (bcells n (boardF l fun _ => 0)) 0 true]).length = H.length + 2 := by simp [HI]
  rw [HI_len]
  generalize HI H (n : Int) q ++ [Blk.row 0 (bcells n (boardF l fun _ => 0)) 0 true] = X at *
  have hf : (fun a b => (boardF l (fun _ => 0) a).testBit b) = bitL l := by funext a b; exact hbit a b
  have hpn : pw n - 1 < 128 := by
    have : ∀ n, n ≤ 7 → pw n - 1 < 128 := by decide
    exact this n hn
  have hba := bits_all hn
  have h59 := fun (P : Bool) (B C : Nat) (Q : AV → Heap → Prop) => k59 (pure := P) (base := B) (bar := C) (Q := Q) hid hn
  generalize pw n - 1 = m at *
  simp [go_sem, h59]
  refine k67 (s := []) (k := n) (g := fun _ => true) hid hbd.lt goal68 isL.nil (fun _ => rfl) (by simp) (by simp) hpn hba (by omega) (by omega) (fun L v hL hv => ?_) fun hn => ?_
  · rw [hf] at hL
    simp [go_sem, hv.isTup, hv.frz, hv.top, htk]
    exact h1 L v hL hv
  · rw [hf] at hn
    exact (h2 hn).elim

/-! 29: the first ring -/
theorem k70 {ib ver fz x n i4 : Nat} {ex ex4 : Bool} {w : Nat → Nat} (h4 : H[i4]? = some (.row 0 [.ptr ib ver 0] 0 ex4)) (hid : H[ib]? = some (.row ver (bcells n w) fz ex)) (hw : ∀ x, w x < 256) (hx : x < 7) (h : Q (.bool ((w x).testBit 0)) H) :
    WpCall E pure base bar 70 [.int .i64 (x : Nat), .ptr i4 0 0] H Q := by
  rw [call70]
  have l4 : aload H ⟨false, 1⟩ (.ptr i4 0 0) = some (.ptr ib ver 0) := by rw [aload_ptr h4]; rfl
  simp [go_sem, WpFun, c70, l4]
  refine (k66 hid hw hx (y := 0)).2 ?_
  simpa [go_sem] using h
end Go.Proofs.Ytnlebofipoepfaa.Code
end

section
namespace Go.Proofs.Ytnlebofipoepfaa.Code
open Go Go.Ab
variable {pure : Bool} {base bar : Nat} {H : Heap} {Q : AV → Heap → Prop}

theorem k29e {n : Int} {q : AV} {l : List ZZ} (hq : isP q l) (hl : l.length < 1000) (hc : checkS n l ≠ 0) (hbar : bar ≤ H.length) (h : Q (.tup [.nils, .int .i64 (checkS n l)]) H) : WpCall E pure base bar 29 [.agg [.int .i64 n, q]] H Q := by
  rw [call29]
  have hb' := bar_ok (pure := pure) hbar
  have e0 : H ++ [.row 0 [.int .i64 n, q] 0 true] = HI H n q := rfl
  simp [go_sem, WpFun, c29, hq.frz, e0, HI_h] at hb' ⊢
  generalize (if pure = true then H.length else bar) = bar' at hb' ⊢
  refine k56 hq hl (by rw [HI_len]; omega) (fun _ => ?_) (fun m _ _ _ hc' => absurd hc' hc)
  simp [go_sem, hc, HI_len]
  rw [storeWp_ptr (size := 1) (ver := 0) (cs := [.nilp]) (fz := 0) (ex := true) (by simp [HI, own_get]) rfl rfl (by omega) (by simp) (by omega) (.inl (by omega))]
  simp [go_sem, hc, HI]
  exact h
theorem k29 {n : Nat} {q : AV} {l : List ZZ} (hq : isP q l) (hl : l.length < 1000) (hm : OkC n l) (hbar : bar ≤ H.length)
    (h1 : ∀ L v, 2 < n → rowS (bitL l) (fun x => bitL l x 0) (n - 1) [0] (clr (pw n - 1) 1) = some L → isL v L → Q (.tup [v, .int .i64 0]) H)
    (h2 : (2 < n → rowS (bitL l) (fun x => bitL l x 0) (n - 1) [0] (clr (pw n - 1) 1) = none) → Q (.tup [.nils, .int .i64 12]) H) :
    WpCall E pure base bar 29 [.agg [.int .i64 (n : Int), q]] H Q := by
  rw [call29]
  have hb' := bar_ok (pure := pure) hbar
  have e0 : H ++ [.row 0 [.int .i64 (n : Int), q] 0 true] = HI H n q := rfl
  obtain ⟨hbd, hbit⟩ := hm.board
  have hn := hm.le
  have hpos := hm.pos
  simp [go_sem, WpFun, c29, hq.frz, e0, HI_h] at hb' ⊢
  generalize (if pure = true then H.length else bar) = bar' at hb' ⊢
  refine k56 hq hl (by rw [HI_len]; omega) (fun hc => absurd hm.check hc) (fun m hnm _ _ _ => ?_)
  obtain rfl : n = m := by omega
  simp [go_sem, HI_len]
  simp only [Nat.add_assoc, Nat.reduceAdd]
  rw [storeWp_ptr (size := 1) (ver := 0) (cs := [.nilp]) (fz := 0) (ex := true) (by simp [HI, own_get]) rfl rfl (by omega) (by simp) (by omega) (.inl (by omega))]
  obtain ⟨X, hX⟩ : ∃ X, X = (HI H (n : Int) q ++ [Blk.row 0 (bcells n (boardF l fun _ => 0)) 0 true, Blk.row 0 [AV.nilp] 0 true]).set (H.length + 2) (.row 0 (setCells [.nilp] 0 (AV.cells (.ptr (H.length + 1) 0 0))) 0 true) := ⟨_, rfl⟩
  have hid : X[H.length + 1]? = some (.row 0 (bcells n (boardF l fun _ => 0)) 0 true) := by rw [hX]; simp [HI, own_get, own_set]
  have hi4 : X[H.length + 2]? = some (.row 0 [.ptr (H.length + 1) 0 0] 0 true) := by rw [hX]; simp [HI, own_get, own_set, AV.cells, setCells]
  have htk : X.take H.length = H := by rw [hX]; simp [HI, own_set]
  have hlen : X.length = H.length + 3 := by rw [hX]; simp [HI]
  rw [← hX]
  clear hX
  have lp : aload X ⟨false, 1⟩ (.ptr (H.length + 2) 0 0) = some (.ptr (H.length + 1) 0 0) := by rw [aload_ptr hi4]; rfl
  have ln : aload X ⟨false, 1⟩ (.ptr (H.length + 1) 0 0) = some (.int .i64 (n : Nat)) := loadBN hid
  by_cases h2n : 2 < n
  · have hf : (fun a b => (boardF l (fun _ => 0) a).testBit b) = bitL l := by funext a b; exact hbit a b
    have hpn : ∀ n, n ≤ 7 → pw n - 1 < 128 ∧ clr (pw n - 1) 1 < 128 ∧ (1 ≤ n → (bitsOf (clr (pw n - 1) 1)).length = n - 1) := by decide
    obtain ⟨p1, p2, p3⟩ := hpn n hn
    have p3 := p3 hpos
    have h59 := fun (P : Bool) (B C : Nat) (Q : AV → Heap → Prop) => k59 (pure := P) (base := B) (bar := C) (Q := Q) hid hn
    generalize pw n - 1 = m at *
    have ha : abin .andNot (.int .u8 (m : Nat)) (.int .u8 1) = some (.int .u8 (clr m 1 : Nat)) := andNot_u8 (a := m) (b := 1) (by omega) (by decide)
    generalize clr m 1 = m1 at *
    have hgo : GoalAt 70 [.ptr (H.length + 2) 0 0] (fun x => bitL l x 0) X := ⟨by simp [tops_cons, tops_nil, top_ptr]; omega, fun {pure base bar H' Q x} hx hext _ hQ =>
      k70 (hext.get hi4) (hext.get hid) hbd.lt hx (by rw [hbit]; exact hQ)⟩
    simp [go_sem, lp, ln, h2n, show (2 : Int) < (n : Int) by omega, h59, ha, aop, fillA, setCells, chunks]
    refine k67 (s := [0]) (sv := .lst 1 true [.int .i64 0]) (k := n - 1) hid hbd.lt hgo (.inr ⟨true, rfl⟩) (by simp) (by simp) (by simp) p2 p3 (fun _ => by simp) (by omega) (fun L v hL hv => ?_) fun hno v s' hv => ?_
    · rw [hf] at hL
      simp [go_sem, hv.isTup, hv.frz, hv.top, htk]
      exact h1 L v h2n hL hv
    · rw [hf] at hno
      simp [go_sem, hv.isTup, htk]
      exact h2 fun _ => hno
  · simp [go_sem, lp, ln, h2n, show ¬ (2 : Int) < (n : Int) by omega, htk]
    exact h2 fun h => absurd h h2n
end Go.Proofs.Ytnlebofipoepfaa.Code
end

section
namespace Go.Proofs.Ytnlebofipoepfaa.Code
open Go Go.Ab
variable {pure : Bool} {base bar : Nat} {H : Heap} {Q : AV → Heap → Prop}

/-! a list copied, and one number more -/
def Cp (s : List Nat) (H0 : Heap) (c : AV) (H : Heap) : Prop := (s = [] ∧ c = .lst 1 true [] ∧ H = H0) ∨ (s ≠ [] ∧ c = .vec H0.length 0 0 s.length 1 ∧ H = H0 ++ [.row 0 (nats s) 0 false])
theorem app_copy1 {sv : AV} {s : List Nat} {K : AV → Heap → List Nat → Prop} (hs : isL sv s) (hl : s.length < 1000) (h : ∀ c H1, Cp s H c H1 → c.isTup = false → c.noVec = c.noVec → K c H1 []) : appWp base bar 1 8 (some (.lst 1 true [])) (some sv) H K := by
  refine app_lst0 hs (by omega) (fun hb0 => ?_) fun hb0 => ?_
  · exact h _ _ (.inl ⟨hb0, rfl, rfl⟩) rfl rfl
  · exact h _ _ (.inr ⟨hb0, rfl, rfl⟩) rfl rfl
theorem app_copy2 {s : List Nat} {H0 : Heap} {c : AV} {ex : Bool} {x : Nat} {K : AV → Heap → List Nat → Prop} (g : Cp s H0 c H) (hb : bar ≤ H0.length) (hbase : base ≤ H0.length) (hl : s.length < 1000)
    (h : ∀ v H2 tc, Own H0.length 1 (nats (s ++ [x])) v H2 → Ext H0 H2 → (∀ i ∈ tc, H0.length ≤ i) → K v H2 tc) : appWp base bar 1 8 (some c) (some (.lst 1 ex [.int .i64 (x : Int)])) H K := by
  rcases g with ⟨rfl, rfl, rfl⟩ | ⟨hne, rfl, rfl⟩
  · refine app_lst0 (b := [x]) (.inr ⟨ex, rfl⟩) (by simp) (fun hc => by simp at hc) (fun _ => ?_)
    exact h _ _ _ (.inr ⟨H.length, 0, 0, by simp [nats], by omega, by simp, by simp [nats], by simp⟩) ⟨by simp, fun j hj => by rw [List.getElem?_append_left hj]⟩ (by simp)
  · have o1 : Own H0.length 1 (nats s) (.vec H0.length 0 0 s.length 1) (H0 ++ [.row 0 (nats s) 0 false]) :=
      .inr ⟨H0.length, 0, 0, by simpa [nats_eq_nil] using hne, by omega, by simp, by simp [nats_length], by simp⟩
    refine o1.app (xs := [.int .i64 (x : Int)]) (by simp) (by decide) (Nat.one_dvd _) (fun c hc => by simp [AV.cells] at hc; subst hc; exact Plain.int) rfl (Nat.one_dvd _) (by omega) (by omega) (by simp [nats_length, AV.cells]; omega) fun v2 H2 tc2 o2 k2 => ?_
    refine h v2 H2 tc2 ?_ ⟨?_, fun j hj => ?_⟩ fun i hi => ?_
    · rw [nats_append, nats_one]
      simpa [AV.cells] using o2
    · have := k2.len; simp at this; omega
    · rw [k2.same j (by simp; omega) (by simp [idOf]; omega), List.getElem?_append_left hj]
    · have := k2.tc i hi
      simp [idOf] at this; omega

/-! 69: all rows -/
def rowsR (f : Nat → Nat → Bool) (n : Nat) : Nat → List Nat → List (List Nat)
  | 0, s => [s]
  | k + 1, s => (List.range' 0 n).flatMap fun (x : Nat) => if (!s.contains x && (s.isEmpty || f (lastN s) x)) = true then rowsR f n k (s ++ [x]) else []
theorem rowsR_len {f : Nat → Nat → Bool} {n : Nat} (hn : n ≤ 7) : ∀ (k : Nat) (s : List Nat), (rowsR f n k s).length ≤ 7 ^ k
  | 0, s => by simp [rowsR]
  | k + 1, s => by
    have := flatMap_len (m := 7 ^ k) (f := fun (x : Nat) => if (!s.contains x && (s.isEmpty || f (lastN s) x)) = true then rowsR f n k (s ++ [x]) else []) (List.range' 0 n) fun x _ => by
      split
      · exact rowsR_len hn k _
      · simp
    simp only [List.length_range'] at this
    have h2 : n * 7 ^ k ≤ 7 * 7 ^ k := Nat.mul_le_mul_right _ hn
    rw [Nat.pow_succ, Nat.mul_comm (7 ^ k) 7]
    exact Nat.le_trans this h2
def Rec69 (n : Nat) (q : AV) (l : List ZZ) (k : Nat) : Prop := ∀ (s : List Nat) (sv : AV) (H : Heap) (pure : Bool) (base bar : Nat) (Q : AV → Heap → Prop), isL sv s → s.length + k = n → bar ≤ H.length →
  (∀ v, isLL v (rowsR (bitL l) n k s) → Q v H) → WpFun E pure base bar c69 [.agg [.int .i64 (n : Int), q], sv] H Q

set_option maxRecDepth 4000 in
theorem l69 {n : Nat} {q : AV} {l : List ZZ} (hq : isP q l) (hl : l.length < 1000) (hn : n ≤ 7) {sv : AV} {s : List Nat} (hs : isL sv s) {k : Nat} (hsl : s.length + (k + 1) = n) (hrec : Rec69 n q l k) (hbar : bar ≤ H.length) {R : PQ} :
    ∀ (d x : Nat) (acc : List (List Nat)) (vs : List AV) (ov : AV) (Hc : Heap), x + d = n → Pre H n q Hc → Own (H.length + 1) 1 vs ov Hc → allL vs acc → acc.length ≤ x * 7 ^ k →
    (∀ vs' ov' Hc', Pre H n q Hc' → Own (H.length + 1) 1 vs' ov' Hc' → allL vs' (acc ++ (List.range' x d).flatMap fun (x : Nat) => if (!s.contains x && (s.isEmpty || bitL l (lastN s) x)) = true then rowsR (bitL l) n k (s ++ [x]) else []) →
      R (.exit 0) [(1, sv), (2, .ptr H.length 0 0), (5, ov'), (6, .int .i64 (n : Nat)), (17, .bool false)] Hc') →
    Wp E H.length bar (.loop c69_l0) [(1, sv), (2, .ptr H.length 0 0), (5, ov), (6, .int .i64 (x : Nat))] Hc R := by
  have e1 : IntKind.i64.wrap ((s.length : Int) - 1) = ((s.length - 1 : Nat) : Int) ∨ s = [] := by
    by_cases he : s = []
    · exact .inr he
    · have := List.length_pos_iff.2 he
      left
      rw [show (s.length : Int) - 1 = ((s.length - 1 : Nat) : Int) by omega, i64_nat (by omega)]
  have hix2 : s ≠ [] → ∀ {H : Heap} {K : AV → Heap → List Nat → Prop}, ixaSWp 1 (some sv) (some (.int .i64 ((s.length - 1 : Nat) : Int))) H K = K (.fp (.int .i64 (lastN s : Nat))) H [] := fun he {H K} => by
    have := List.length_pos_iff.2 he
    rw [hs.ix (by omega), (lastN_get he).2]
  intro d
  induction d with
  | zero =>
    intro x acc vs ov Hc hx hp ho ha hal h
    obtain rfl : x = n := by omega
    rw [wp_round c69_l0.eq_1]
    simp [go_sem, hp.n]
    exact h vs ov Hc hp ho (by simpa using ha)
  | succ d ih =>
    intro x acc vs ov Hc hx hp ho ha hal h
    have hxn : x < n := by omega
    have hp8 : 7 ^ k ≤ 7 ^ 7 := Nat.pow_le_pow_right (by decide) (by omega)
    have hx8 : x * 7 ^ k ≤ 7 * 7 ^ 7 := Nat.mul_le_mul (by omega) hp8
    have hpl := hp.1
    have h87 := fun (P : Bool) (B C : Nat) (H : Heap) (Q : AV → Heap → Prop) => k87 (pure := P) (base := B) (bar := C) (H := H) (Q := Q) hs (by omega) (x := x)
    have h63 := fun (P : Bool) (B C : Nat) (H : Heap) (Q : AV → Heap → Prop) => k63 (pure := P) (base := B) (bar := C) (H := H) (Q := Q) hq hl (a := (lastN s : Int)) (b := (x : Int))
    rw [wp_round c69_l0.eq_1]
    simp only [List.range'_succ, List.flatMap_cons, ← List.append_assoc] at h
    have hz := i64_suc (show x < 1000000 by omega)
    have hns := hs.noVec
    by_cases m1 : x ∈ s
    · have hc1 : s.contains x = true := by simpa using m1
      rw [hc1] at h
      simp only [Bool.not_true, Bool.false_and, Bool.false_eq_true, if_false, List.append_nil] at h
      simp [go_sem, hp.n, hxn, h87, m1, hp.q, hz, hns]
      exact ih (x + 1) acc vs ov Hc (by omega) hp ho ha (Nat.le_trans hal (Nat.mul_le_mul_right _ (by omega))) h
    · have hc1 : s.contains x = false := by simpa using m1
      rw [hc1] at h
      simp only [Bool.not_false, Bool.true_and] at h
      by_cases hc : (s.isEmpty || bitL l (lastN s) x) = true
      · simp only [hc, if_true] at h
        have hcond : s = [] ∨ (s ≠ [] ∧ beatZ l (lastN s) x = true) := by
          by_cases he : s = []
          · exact .inl he
          · right
            refine ⟨he, ?_⟩
            rw [Bool.or_eq_true] at hc
            rcases hc with hc | hc
            · exact absurd (List.isEmpty_iff.1 hc) he
            · exact hc
        rcases hcond with he | ⟨he, hb⟩
        case' inl => simp [go_sem, hp.n, hxn, h87, m1, hp.q, hp.h, hs.len, hns, he, aop, chunks, own_get]
        case' inr =>
          have hl0 : ¬ s.length = 0 := fun h => he (List.length_eq_zero_iff.1 h)
          have e1' := e1.resolve_right he
          have hix2' := fun (H : Heap) (K : AV → Heap → List Nat → Prop) => hix2 he (H := H) (K := K)
          generalize hmm : s.length - 1 = m at *
          simp [go_sem, hp.n, hxn, h87, m1, hp.q, hp.h, hs.len, hns, he, hl0, e1', hix2', h63, hb, aop, chunks, own_get]
        all_goals
          refine app_copy1 hs (by omega) fun c H1 gc ct _ => ?_
          simp [go_sem, aop, chunks]
          refine app_copy2 gc (by omega) (by omega) (by omega) fun v2 H2 tc2 o2 x2 ht2 => ?_
          have hc2 : H.length ∉ tc2 := fun hc => by
            have := ht2 _ hc
            omega
          obtain ⟨H3, f1, f2, f3, f4⟩ := o2.frz (d := 5) (bar := bar) (by decide) (Nat.one_dvd _) nats_plain (by omega)
          rw [show 5 + 3 = 8 from rfl] at f1
          have same3 : ∀ j, j < Hc.length → H3[j]? = Hc[j]? := fun j hj => by
            rw [f4 j (by intro hc; have := (o2.lt hc).1; omega)]
            exact x2.2 j hj
          have hl3 := x2.1
          have hp3 : Pre H n q H3 := hp.next (by omega) fun j hj => same3 j (by omega)
          have o3 : Own (H.length + 1) 1 vs ov H3 := ho.mono fun j hj => same3 j (ho.lt hj).2
          simp [go_sem, call69, hq.frz, f1]
          refine hrec (s ++ [x]) _ H3 true _ bar _ isL.out (by simp; omega) (by omega) fun r hr => ?_
          have hrl := rowsR_len (f := bitL l) hn k (s ++ [x])
          simp [go_sem]
          rcases hr with ⟨rfl, he⟩ | ⟨ex, ws, rfl, hw⟩
          · refine o3.app_nil (by decide) (Nat.one_dvd _) (by rw [ha.length]; omega) ?_
            simp [go_sem, hc2, hz]
            rw [he] at h
            refine ih (x + 1) acc vs ov H3 (by omega) hp3 o3 ha (Nat.le_trans hal (Nat.mul_le_mul_right _ (by omega))) ?_
            simpa using h
          · refine o3.app (by omega) (by decide) (Nat.one_dvd _) (by rw [hw.flat]; exact hw.plain) (by rw [hw.flat]; exact hw.noVecs) (Nat.one_dvd _) (by omega) (by omega) (by
              rw [hw.flat, List.length_append, ha.length, hw.length]
              have : 7 ^ 7 = 823543 := by decide
              omega) fun v4 H4 tc4 o4 k4 => ?_
            rw [hw.flat] at o4
            have hp4 : Pre H n q H4 := hp3.next k4.len fun j hj => k4.same j (by omega) fun hc => by have := (o3.lt hc).1; omega
            simp [go_sem, hc2, hz]
            refine ih (x + 1) (acc ++ rowsR (bitL l) n k (s ++ [x])) (vs ++ ws) v4 H4 (by omega) hp4 o4 (ha.append hw) (by
              rw [List.length_append, Nat.succ_mul]; omega) ?_
            exact h
      · simp only [hc] at h
        have he : s ≠ [] := fun he => hc (by rw [he]; rfl)
        have hb : beatZ l (lastN s) x = false := by
          cases hb : beatZ l (lastN s) x
          · rfl
          · exact absurd (by rw [bitL_beat, hb, Bool.or_true]) hc
        have hl0 : ¬ s.length = 0 := fun h => he (List.length_eq_zero_iff.1 h)
        have e1' := e1.resolve_right he
        have hix2' := fun (H : Heap) (K : AV → Heap → List Nat → Prop) => hix2 he (H := H) (K := K)
        generalize hmm : s.length - 1 = m at *
        simp [go_sem, hp.n, hxn, h87, m1, hp.q, hs.len, hns, he, hl0, e1', hix2', h63, hb, hz]
        refine ih (x + 1) acc vs ov Hc (by omega) hp ho ha (Nat.le_trans hal (Nat.mul_le_mul_right _ (by omega))) ?_
        simpa using h
theorem f69 {n : Nat} {q : AV} {l : List ZZ} (hq : isP q l) (hl : l.length < 1000) (hn : n ≤ 7) : ∀ k, Rec69 n q l k
  | 0 => fun s sv H pure base bar Q hs hsl hbar h => by
    have e0 : H ++ [.row 0 [.int .i64 (n : Int), q] 0 true] = HI H n q := rfl
    have hsn : s.length = n := by omega
    have hll : isLL (.lst 1 true [sv]) [s] := .inr ⟨true, [sv], rfl, hs, trivial⟩
    simp [go_sem, WpFun, c69, e0, HI_n, hs.len, hsn, aop, hs.frz, hs.cells, chunks, hs.isTup, hs.top, HI_take]
    exact h _ hll
  | k + 1 => fun s sv H pure base bar Q hs hsl hbar h => by
    have hb' := bar_ok (pure := pure) hbar
    have e0 : H ++ [.row 0 [.int .i64 (n : Int), q] 0 true] = HI H n q := rfl
    have hne : ¬ s.length = n := by omega
    simp [go_sem, WpFun, c69, e0, HI_n, hs.len, natEq, hne] at hb' ⊢
    generalize (if pure = true then H.length else bar) = bar' at hb' ⊢
    refine l69 hq hl hn hs (by omega) (f69 hq hl hn k) hb' n 0 [] [] .nils _ (by omega) Pre.refl Own.nil trivial (by simp) ?_
    intro vs' ov' Hc' hp' ho' ha'
    obtain ⟨H3, f1, f2, f3, f4⟩ := ho'.frz (d := 5) (bar := bar') (by decide) (Nat.one_dvd _) ha'.plain (by omega)
    rw [show 5 + 3 = 8 from rfl] at f1
    have hll := isLL.out ha'
    simp [go_sem, f1, hll.top]
    have hp3 : Pre H n q H3 := hp'.next (by omega) fun j hj => f4 j (fun hc => by have := (ho'.lt hc).1; omega)
    rw [hp3.take]
    refine h _ ?_
    simpa [rowsR] using hll
theorem k69 {n : Nat} {q : AV} {l : List ZZ} (hq : isP q l) (hl : l.length < 1000) (hn : n ≤ 7) (hbar : bar ≤ H.length) (h : ∀ v, isLL v (rowsR (bitL l) n n []) → Q v H) :
    WpCall E pure base bar 69 [.agg [.int .i64 (n : Int), q], .nils] H Q := by
  rw [call69]
  simp [go_sem, hq.frz]
  exact f69 hq hl hn n [] .nils H pure base bar Q isL.nil (by simp) hbar h
end Go.Proofs.Ytnlebofipoepfaa.Code
end

section
namespace Go.Proofs.Ytnlebofipoepfaa.Code
open Go Go.Ab
variable {pure : Bool} {base bar : Nat} {H : Heap} {Q : AV → Heap → Prop}

theorem k28 {n : Int} {q : AV} {l : List ZZ} (hq : isP q l) (hl : l.length < 1000) (hbar : bar ≤ H.length)
    (h1 : checkS n l ≠ 0 → Q (.tup [.nils, .int .i64 (checkS n l)]) H)
    (hne : ∀ m : Nat, n = m → OkC m l → rowsR (bitL l) m m [] ≠ [])
    (h2 : ∀ (m : Nat) L rest, n = m → OkC m l → rowsR (bitL l) m m [] = L :: rest → ∀ v, isL v L → Q (.tup [v, .int .i64 0]) H) :
    WpCall E pure base bar 28 [.agg [.int .i64 n, q]] H Q := by
  rw [call28]
  have hb' := bar_ok (pure := pure) hbar
  have e0 : H ++ [.row 0 [.int .i64 n, q] 0 true] = HI H n q := rfl
  simp [go_sem, WpFun, c28, hq.frz, e0, HI_h, k24 hq hl] at hb' ⊢
  generalize (if pure = true then H.length else bar) = bar' at hb' ⊢
  by_cases hc : checkS n l = 0
  · obtain ⟨m, rfl, hok⟩ := OkC.of hc
    simp [go_sem, hc, HI_h]
    refine k69 hq hl hok.le (by rw [HI_len]; omega) fun v hv => ?_
    have hne' := hne m rfl hok
    have h2' := fun L rest => h2 m L rest rfl hok
    generalize rowsR (bitL l) m m [] = A at *
    cases A with
    | nil => exact absurd rfl hne'
    | cons L rest =>
      obtain ⟨u, hu1, hu2⟩ := isLL.ix0 hv
      simp [go_sem, hu2, aload_fpL hu1, hu1.frz, hu1.top, HI_take]
      exact h2' L rest rfl u hu1
  · simp [go_sem, hc, HI_take]
    exact h1 hc
theorem k32 {n : Int} {q : AV} {l : List ZZ} (hq : isP q l) (hl : l.length < 1000) (hbar : bar ≤ H.length)
    (h1 : checkS n l ≠ 0 → Q (.tup [.int .i64 0, .int .i64 (checkS n l)]) H)
    (h2 : ∀ m : Nat, n = m → OkC m l → Q (.tup [.int .i64 ((rowsR (bitL l) m m []).length : Nat), .int .i64 0]) H) :
    WpCall E pure base bar 32 [.agg [.int .i64 n, q]] H Q := by
  rw [call32]
  have hb' := bar_ok (pure := pure) hbar
  have e0 : H ++ [.row 0 [.int .i64 n, q] 0 true] = HI H n q := rfl
  simp [go_sem, WpFun, c32, hq.frz, e0, HI_h, k24 hq hl] at hb' ⊢
  generalize (if pure = true then H.length else bar) = bar' at hb' ⊢
  by_cases hc : checkS n l = 0
  · obtain ⟨m, rfl, hok⟩ := OkC.of hc
    simp [go_sem, hc, HI_h]
    refine k69 hq hl hok.le (by rw [HI_len]; omega) fun v hv => ?_
    simp [go_sem, hv.len, HI_take]
    exact h2 m rfl hok
  · simp [go_sem, hc, HI_take]
    exact h1 hc
/-! 30: the reference's ring -/
def ringP (f : Nat → Nat → Bool) (L : List Nat) : Bool := decide (2 < L.length) && f (lastN L) (L.getD 0 0)
set_option maxRecDepth 4000 in
theorem l30 {n : Nat} {q : AV} {l : List ZZ} (hq : isP q l) (hl : l.length < 1000) {A : List (List Nat)} {rv : AV} (hA : isLL rv A) (hAl : A.length < 900000) (hAe : ∀ L ∈ A, 0 < L.length ∧ L.length < 1000) {R : PQ} : ∀ (k i : Nat), i + k = A.length →
    (∀ L, (A.drop i).find? (ringP (bitL l)) = some L → ∀ v, isL v L → R .ret [(2, v), (3, .int .i64 0)] (HI H n q)) →
    ((A.drop i).find? (ringP (bitL l)) = none → R (.exit 0) [(1, .ptr H.length 0 0), (5, rv), (6, .int .i64 (A.length : Nat)), (17, .bool false)] (HI H n q)) →
    Wp E base bar (.loop c30_l0) [(1, .ptr H.length 0 0), (5, rv), (6, .int .i64 (i : Nat))] (HI H n q) R := by
  intro k
  induction k with
  | zero =>
    intro i hi h1 h2
    obtain rfl : i = A.length := by omega
    rw [wp_round c30_l0.eq_1]
    simp [go_sem, hA.len]
    exact h2 (by simp)
  | succ k ih =>
    intro i hi h1 h2
    have hlt : i < A.length := by omega
    obtain ⟨u, hu1, hu2⟩ := isLL_ix hA hlt
    obtain ⟨hL0, hL1⟩ := hAe _ (List.getElem_mem hlt)
    rw [List.drop_eq_getElem_cons hlt, List.find?_cons] at h1 h2
    have hz := i64_suc (show i < 1000000 by omega)
    generalize A[i] = L at *
    have hne : L ≠ [] := fun h => by rw [h] at hL0; simp at hL0
    have e1 : IntKind.i64.wrap ((L.length : Int) - 1) = ((L.length - 1 : Nat) : Int) := by
      rw [show (L.length : Int) - 1 = ((L.length - 1 : Nat) : Int) by omega, i64_nat (by omega)]
    have hix : ∀ {H : Heap} {K : AV → Heap → List Nat → Prop}, ixaSWp 1 (some u) (some (.int .i64 ((L.length - 1 : Nat) : Int))) H K = K (.fp (.int .i64 (lastN L : Nat))) H [] := fun {H K} => by rw [hu1.ix (by omega), (lastN_get hne).2]
    have hix0 : ∀ {H : Heap} {K : AV → Heap → List Nat → Prop}, ixaSWp 1 (some u) (some (.int .i64 0)) H K = K (.fp (.int .i64 (L.getD 0 0 : Nat))) H [] := fun {H K} => by
      have := hu1.ix (H := H) (i := 0) (by omega) (K := K) (k := .i64)
      have e : L[0] = L.getD 0 0 := by rw [List.getD_eq_getElem?_getD, List.getElem?_eq_getElem (by omega)]; rfl
      rw [e] at this; exact this
    have hrp : ringP (bitL l) L = (decide (2 < L.length) && beatZ l (lastN L) (L.getD 0 0)) := rfl
    have h63 := fun (P : Bool) (B C : Nat) (H : Heap) (Q : AV → Heap → Prop) => k63 (pure := P) (base := B) (bar := C) (H := H) (Q := Q) hq hl (a := (lastN L : Int)) (b := (L.getD 0 0 : Nat))
    generalize L.getD 0 0 = z at *
    generalize hm : L.length - 1 = m at *
    have hnl := hu1.noVec
    have lu : ∀ {s : Nat}, aload (HI H (n : Int) q) ⟨false, s⟩ (.fp u) = some u := fun {s} => aload_fpL hu1
    have hul := fun (K : AV → Heap → List Nat → Prop) => hu1.len (H := HI H (n : Int) q) (K := K)
    rw [wp_round c30_l0.eq_1]
    by_cases h2l : 2 < L.length
    · cases hb : beatZ l (lastN L) z
      · rw [hrp, hb, Bool.and_false] at h1 h2
        simp [go_sem, hA.len, hlt, hu2, lu, hul, h2l, show (2 : Int) < (L.length : Int) by omega, e1, hix, hix0, HI_q, h63, hb, hz]
        exact ih (i + 1) (by omega) h1 h2
      · rw [hrp, hb, decide_eq_true h2l] at h1 h2
        simp [go_sem, hA.len, hlt, hu2, lu, hul, h2l, show (2 : Int) < (L.length : Int) by omega, e1, hix, hix0, HI_q, h63, hb, hz]
        exact h1 L rfl u hu1
    · rw [hrp, decide_eq_false h2l, Bool.false_and] at h1 h2
      simp [go_sem, hA.len, hlt, hu2, lu, hul, h2l, show ¬ (2 : Int) < (L.length : Int) by omega, hz]
      exact ih (i + 1) (by omega) h1 h2
theorem rowsR_mem {f : Nat → Nat → Bool} {n : Nat} : ∀ {k : Nat} {s x : List Nat}, x ∈ rowsR f n k s → x.length = s.length + k
  | 0, s, x, h => by
    unfold rowsR at h
    simp at h; subst h; rfl
  | k + 1, s, x, h => by
    unfold rowsR at h
    obtain ⟨y, _, hy⟩ := List.mem_flatMap.1 h
    split at hy
    · have := rowsR_mem hy
      simp at this; omega
    · simp at hy
theorem k30 {n : Int} {q : AV} {l : List ZZ} (hq : isP q l) (hl : l.length < 1000) (hbar : bar ≤ H.length)
    (h1 : checkS n l ≠ 0 → Q (.tup [.nils, .int .i64 (checkS n l)]) H)
    (h2 : ∀ (m : Nat) L, n = m → OkC m l → (rowsR (bitL l) m m []).find? (ringP (bitL l)) = some L → ∀ v, isL v L → Q (.tup [v, .int .i64 0]) H)
    (h3 : ∀ m : Nat, n = m → OkC m l → (rowsR (bitL l) m m []).find? (ringP (bitL l)) = none → Q (.tup [.nils, .int .i64 12]) H) :
    WpCall E pure base bar 30 [.agg [.int .i64 n, q]] H Q := by
  rw [call30]
  have hb' := bar_ok (pure := pure) hbar
  have e0 : H ++ [.row 0 [.int .i64 n, q] 0 true] = HI H n q := rfl
  simp [go_sem, WpFun, c30, hq.frz, e0, HI_h, k24 hq hl] at hb' ⊢
  generalize (if pure = true then H.length else bar) = bar' at hb' ⊢
  by_cases hc : checkS n l = 0
  · obtain ⟨m, rfl, hok⟩ := OkC.of hc
    have h7 := hok.le
    have h1p := hok.pos
    simp [go_sem, hc, HI_h]
    refine k69 hq hl hok.le (by rw [HI_len]; omega) fun v hv => ?_
    have h2' := fun L => h2 m L rfl hok
    have h3' := h3 m rfl hok
    have hlen : (rowsR (bitL l) m m []).length < 900000 := by
      have h1 := rowsR_len (f := bitL l) h7 m []
      have h2 : 7 ^ m ≤ 7 ^ 7 := Nat.pow_le_pow_right (by decide) h7
      have h3 : 7 ^ 7 = 823543 := by decide
      omega
    have hmem : ∀ L ∈ rowsR (bitL l) m m [], 0 < L.length ∧ L.length < 1000 := fun L hL => by
      have := rowsR_mem hL
      simp at this; omega
    generalize rowsR (bitL l) m m [] = A at *
    simp [go_sem]
    refine l30 hq hl hv hlen hmem A.length 0 (by omega) (fun L hL u hu => ?_) fun hno => ?_
    · rw [List.drop_zero] at hL
      simp [go_sem, hu.frz, hu.top, HI_take]
      exact h2' L hL u hu
    · rw [List.drop_zero] at hno
      simp [go_sem, HI_take]
      exact h3' hno
  · simp [go_sem, hc, HI_take]
    exact h1 hc
end Go.Proofs.Ytnlebofipoepfaa.Code
end

section
namespace Go.Proofs.Ytnlebofipoepfaa.Code
open Go Go.Ab
variable {base bar : Nat} {H : Heap}

theorem shr_i64 {a b : Nat} (ha : a < 256) : abin .shr (.int .i64 (a : Int)) (.int .i64 (b : Int)) = some (.int .i64 ((shr a b : Nat) : Int)) := by
  simp only [abin]
  rw [if_neg (by omega)]
  simp only [Int.toNat_natCast, show IntKind.i64.bits = 64 from rfl]
  congr 2
  rw [show (2 : Int) ^ (min b 64) = ((2 ^ (min b 64) : Nat) : Int) by simp, Int.fdiv_eq_ediv_of_nonneg _ (Int.natCast_nonneg _)]
  rw [← Int.natCast_ediv]
  congr 1
  unfold shr
  by_cases hb : b < 8
  · rw [Nat.min_eq_left (by omega), Nat.min_eq_left (by omega)]
  · rw [Nat.min_eq_right (show 8 ≤ b by omega), Nat.div_eq_of_lt (show a < 2 ^ 8 by omega), Nat.div_eq_of_lt]
    exact Nat.lt_of_lt_of_le (show a < 2 ^ 8 by omega) (Nat.pow_le_pow_right (by decide) (by omega))
theorem and_i64_one {a : Nat} (ha : a < 256) : abin .and (.int .i64 a) (.int .i64 1) = some (.int .i64 ((band a 1 : Nat) : Int)) := by
  have e : (BitVec.ofInt 64 (a : Int) &&& BitVec.ofInt 64 ((1 : Nat) : Int)).toNat = band a 1 := by
    rw [BitVec.toNat_and, ofInt_toNat (w := 64) (by omega), ofInt_toNat (w := 64) (by omega)]; rfl
  simp only [abin, binInt, if_true]
  rw [show IntKind.i64.bits = 64 from rfl]
  have e' : (BitVec.ofInt 64 (a : Int) &&& BitVec.ofInt 64 (1 : Int)).toNat = band a 1 := e
  rw [e', i64_nat (by have := band_lt (a := a) (b := 1) ha; omega)]
theorem or_i64 {a b : Nat} (ha : a < 256) (hb : b < 256) : abin .or (.int .i64 a) (.int .i64 b) = some (.int .i64 ((bor a b : Nat) : Int)) := by
  have e : (BitVec.ofInt 64 (a : Int) ||| BitVec.ofInt 64 (b : Int)).toNat = bor a b := by
    rw [BitVec.toNat_or, ofInt_toNat (w := 64) (by omega), ofInt_toNat (w := 64) (by omega)]; rfl
  simp only [abin, binInt, if_true]
  rw [show IntKind.i64.bits = 64 from rfl, e, i64_nat (by have := bor_lt ha hb; omega)]

/-! a table: for each set a number for each curler -/
def tcells (M : Nat) (c : Nat → Nat → Int) : List AV := (List.range (M * 7)).map fun i => .int .i64 (c (i / 7) (i % 7))
def updZ (c : Nat → Nat → Int) (a b : Nat) (v : Int) : Nat → Nat → Int := fun i j => if i = a ∧ j = b then v else c i j
theorem tcells_length {M : Nat} {c : Nat → Nat → Int} : (tcells M c).length = M * 7 := by simp [tcells]
theorem tcells_get {M : Nat} {c : Nat → Nat → Int} {a b : Nat} (ha : a < M) (hb : b < 7) : (tcells M c)[a * 7 + b]? = some (.int .i64 (c a b)) := by
  have h1 : a * 7 + b < M * 7 := by omega
  have h2 : (a * 7 + b) / 7 = a := by omega
  have h3 : (a * 7 + b) % 7 = b := by omega
  simp only [tcells, List.getElem?_map, List.getElem?_range h1, Option.map_some, h2, h3]
theorem tcells_set {M : Nat} {c : Nat → Nat → Int} {a b : Nat} {v : Int} (ha : a < M) (hb : b < 7) : setCells (tcells M c) (a * 7 + b) [.int .i64 v] = tcells M (updZ c a b v) := by
  simp only [setCells]
  apply List.ext_getElem?
  intro j
  rw [List.getElem?_set]
  by_cases hj : a * 7 + b = j
  · subst hj
    rw [if_pos rfl, if_pos (by rw [tcells_length]; omega), tcells_get ha hb]
    simp [updZ]
  · rw [if_neg hj]
    by_cases h8 : j < M * 7
    · simp only [tcells, List.getElem?_map, List.getElem?_range h8, Option.map_some, updZ]
      rw [if_neg (by omega)]
    · simp [tcells, h8]
theorem tcells_zero {M : Nat} : (List.replicate M [AV.int .i64 0, .int .i64 0, .int .i64 0, .int .i64 0, .int .i64 0, .int .i64 0, .int .i64 0]).flatten = tcells M fun _ _ => 0 := by
  have e : [AV.int .i64 0, .int .i64 0, .int .i64 0, .int .i64 0, .int .i64 0, .int .i64 0, .int .i64 0] = List.replicate 7 (AV.int .i64 0) := rfl
  rw [e, List.flatten_replicate_replicate]
  unfold tcells
  apply List.ext_getElem?
  intro j
  by_cases hj : j < M * 7
  · rw [List.getElem?_replicate, if_pos hj, List.getElem?_map, List.getElem?_range hj]; rfl
  · rw [List.getElem?_eq_none (by simp; omega), List.getElem?_eq_none (by simp; omega)]
theorem loadT {id ver fz a b s M : Nat} {ex : Bool} {c : Nat → Nat → Int} (hid : H[id]? = some (.row ver (tcells M c) fz ex)) (ha : a < M) (hb : b < 7) :
    aload H ⟨false, s⟩ (.ptr id ver (a * 7 + b)) = some (.int .i64 (c a b)) := by
  rw [aload_ptr hid, part_one, tcells_get ha hb]
theorem storeT {K : AV → Heap → List Nat → Prop} {id ver a b M : Nat} {ex : Bool} {c : Nat → Nat → Int} {v : Int} (hid : H[id]? = some (.row ver (tcells M c) 0 ex)) (ha : a < M) (hb : b < 7) (hbar : bar ≤ id) :
    storeWp base bar 1 (.ptr id ver (a * 7 + b)) (.int .i64 v) H K = K (.tup []) (H.set id (.row ver (tcells M (updZ c a b v)) 0 ex)) [id] := by
  rw [storeWp_ptr (size := 1) hid rfl rfl (by omega) (by rw [tcells_length]; omega) hbar (.inr (by simp [AV.cells, tops_cons, tops_nil, top_int]))]
  simp only [AV.cells, tcells_set ha hb]
/-- a row of the table -/
def zcells (g : Nat → Int) : List AV := (List.range 7).map fun i => .int .i64 (g i)
theorem loadTT {id ver fz a M : Nat} {ex : Bool} {c : Nat → Nat → Int} (hid : H[id]? = some (.row ver (tcells M c) fz ex)) (ha : a < M) :
    aload H ⟨true, 7⟩ (.ptr id ver (a * 7)) = some (.agg (zcells (c a))) := by
  rw [aload_ptr hid, part_agg, if_pos (by rw [tcells_length]; omega)]
  congr 2
  apply List.ext_getElem?
  intro j
  rw [List.getElem?_take]
  by_cases hj : j < 7
  · rw [if_pos hj, List.getElem?_drop, tcells_get ha hj]
    simp [zcells, hj]
  · rw [if_neg hj]
    simp [zcells, hj]
theorem zcells_get {g : Nat → Int} {a : Nat} (ha : a < 7) : (zcells g)[a]? = some (.int .i64 (g a)) := by simp [zcells, ha]
theorem zcells_length {g : Nat → Int} : (zcells g).length = 7 := by simp [zcells]
/-! arithmetic that wraps -/
theorem wrap_ex (a : Int) : ∃ k : Int, IntKind.i64.wrap a = a + k * 18446744073709551616 := by
  unfold IntKind.wrap
  simp only [show IntKind.i64.bits = 64 from rfl, show IntKind.i64.signed = true from rfl, Bool.true_and]
  rw [show (2 : Int) ^ 64 = 18446744073709551616 by decide]
  split
  · exact ⟨-(a / 18446744073709551616) - 1, by omega⟩
  · exact ⟨-(a / 18446744073709551616), by omega⟩
theorem wrap_cong (a k : Int) : IntKind.i64.wrap (a + k * 18446744073709551616) = IntKind.i64.wrap a := by
  unfold IntKind.wrap
  simp only [show IntKind.i64.bits = 64 from rfl]
  rw [show (2 : Int) ^ 64 = 18446744073709551616 by decide, Int.add_mul_emod_self_right]
end Go.Proofs.Ytnlebofipoepfaa.Code
end

section
namespace Go.Proofs.Ytnlebofipoepfaa.Code
open Go Go.Ab
variable {pure : Bool} {base bar : Nat} {H : Heap} {Q : AV → Heap → Prop}

/-! 31: rows, set by set -/
def pushY (w : Nat → Nat) (s x : Nat) (c : Nat → Nat → Int) (y : Nat) : Nat → Nat → Int :=
  if (!s.testBit y && (w x).testBit y) = true then updZ c (bor s (pw y)) y (IntKind.i64.wrap (c (bor s (pw y)) y + c s x)) else c
def pushX (w : Nat → Nat) (n s : Nat) (c : Nat → Nat → Int) (x : Nat) : Nat → Nat → Int := (List.range n).foldl (pushY w s x) c
def pushS (w : Nat → Nat) (n : Nat) (c : Nat → Nat → Int) (s : Nat) : Nat → Nat → Int := (List.range n).foldl (pushX w n s) c
def startC (n : Nat) : Nat → Nat → Int := (List.range n).foldl (fun c x => updZ c (pw x) x 1) fun _ _ => 0
theorem foldl_succ {α : Type} {g : α → Nat → α} {a : α} {k : Nat} : (List.range (k + 1)).foldl g a = g ((List.range k).foldl g a) k := by
  rw [List.range_succ, List.foldl_append]; rfl
theorem bor_small : ∀ n, n ≤ 7 → ∀ s, s < pw n → ∀ y, y < n → bor s (pw y) < pw n := by
  intro n hn s hs y hy
  exact Nat.or_lt_two_pow hs (Nat.pow_lt_pow_right (by decide) hy)
section
variable {ib ver fz id n : Nat} {ex : Bool} {w : Nat → Nat} {cs : List AV}
set_option maxRecDepth 4000 in
theorem l31a {s x : Nat} {c : Nat → Nat → Int} (hid : H[ib]? = some (.row ver (bcells n w) fz ex)) (ht : H[id]? = some (.row 0 cs 0 true)) (hne : ib ≠ id) (hw : ∀ x, w x < 256) (hn : n ≤ 7) (hs : s < pw n) (hx : x < n) (hbar : bar ≤ id) {R : PQ} :
    ∀ (k y : Nat), y + k = n →
    R (.exit 6) [(4, .ptr ib ver 0), (6, .fn 66 [.ptr ib ver 0] []), (7, .vec id 0 0 (pw n) 7), (46, .int .i64 (pw n : Nat)), (47, .int .i64 (s : Nat)), (9, .int .i64 (s : Nat)), (53, .int .i64 (n : Nat)), (54, .int .i64 (x : Nat)), (10, .int .i64 (x : Nat)), (60, .int .i64 (n : Nat)), (61, .int .i64 (n : Nat)), (62, .bool false)] (H.set id (.row 0 (tcells (pw n) (pushX w n s c x)) 0 true)) →
    Wp E base bar (.loop c31_l1) [(4, .ptr ib ver 0), (6, .fn 66 [.ptr ib ver 0] []), (7, .vec id 0 0 (pw n) 7), (46, .int .i64 (pw n : Nat)), (47, .int .i64 (s : Nat)), (9, .int .i64 (s : Nat)), (53, .int .i64 (n : Nat)), (54, .int .i64 (x : Nat)), (10, .int .i64 (x : Nat)), (60, .int .i64 (n : Nat)), (61, .int .i64 (y : Nat))] (H.set id (.row 0 (tcells (pw n) ((List.range y).foldl (pushY w s x) c)) 0 true)) R := by
  have hpn : pw n ≤ 128 := Nat.pow_le_pow_right (by decide) hn
  intro k
  induction k with
  | zero =>
    intro y hy h
    obtain rfl : y = n := by omega
    rw [wp_round c31_l1.eq_1]
    simp [go_sem]
    exact h
  | succ k ih =>
    intro y hy h
    have hlt : y < n := by omega
    have next := ih (y + 1) (by omega) h
    rw [foldl_succ] at next
    generalize (List.range y).foldl (pushY w s x) c = c1 at *
    have hz := i64_suc (show y < 1000000 by omega)
    have hid' : (H.set id (.row 0 (tcells (pw n) c1) 0 true))[ib]? = some (.row ver (bcells n w) fz ex) := by rw [List.getElem?_set_ne (Ne.symm hne)]; exact hid
    have ht' : (H.set id (.row 0 (tcells (pw n) c1) 0 true))[id]? = some (.row 0 (tcells (pw n) c1) 0 true) := set_get ht
    have h66 := fun (P : Bool) (B C : Nat) (Q : AV → Heap → Prop) => k66 (pure := P) (base := B) (bar := C) (Q := Q) hid' hw (show x < 7 by omega) (y := y)
    have hsh := shr_i64 (a := s) (b := y) (by omega)
    have han := and_i64_one (a := shr s y) (shr_lt (show s < 256 by omega))
    rw [shr_bit s (by omega) y] at han
    have hps : bor s (pw y) < pw n := bor_small n hn s hs y hlt
    have hor := or_i64 (a := s) (b := pw y) (by omega) (pw_lt (show y < 8 by omega))
    have hpd : pushY w s x c1 y = if (!s.testBit y && (w x).testBit y) = true then updZ c1 (bor s (pw y)) y (IntKind.i64.wrap (c1 (bor s (pw y)) y + c1 s x)) else c1 := rfl
    have l1 := loadT (s := 1) ht' hps (show y < 7 by omega)
    have l2 := loadT (s := 1) ht' hs (show x < 7 by omega)
    rw [wp_round c31_l1.eq_1]
    cases e1 : s.testBit y
    · rw [e1] at han
      cases e2 : (w x).testBit y
      · rw [e1, e2] at hpd
        simp at hpd
        rw [hpd] at next
        simp [go_sem, hlt, hsh, han, h66, e2, hz]
        exact next
      · rw [e1, e2] at hpd
        simp only [Bool.not_false, Bool.and_self, if_true] at hpd
        rw [hpd] at next
        generalize bor s (pw y) = t at *
        simp [go_sem, hlt, hsh, han, h66, e2, hz, shl_i64 (show y < 62 by omega), hor, hps, hs, show y < 7 by omega, show x < 7 by omega, l1, l2]
        rw [storeT ht' hps (by omega) hbar, List.set_set]
        simp [go_sem, hz]
        exact next
    · rw [e1] at han hpd
      simp at hpd
      rw [hpd] at next
      simp [go_sem, hlt, hsh, han, hz]
      exact next
end
end Go.Proofs.Ytnlebofipoepfaa.Code
end

section
namespace Go.Proofs.Ytnlebofipoepfaa.Code
open Go Go.Ab
variable {pure : Bool} {base bar : Nat} {H : Heap} {Q : AV → Heap → Prop}

section
variable {ib ver fz id n : Nat} {ex : Bool} {w : Nat → Nat} {cs : List AV}
theorem l31b {s : Nat} {c : Nat → Nat → Int} (hid : H[ib]? = some (.row ver (bcells n w) fz ex)) (ht : H[id]? = some (.row 0 cs 0 true)) (hne : ib ≠ id) (hw : ∀ x, w x < 256) (hn : n ≤ 7) (hs : s < pw n) (hbar : bar ≤ id) {R : PQ} :
    ∀ (k x : Nat), x + k = n →
    R (.exit 4) [(4, .ptr ib ver 0), (6, .fn 66 [.ptr ib ver 0] []), (7, .vec id 0 0 (pw n) 7), (46, .int .i64 (pw n : Nat)), (47, .int .i64 (s : Nat)), (9, .int .i64 (s : Nat)), (53, .int .i64 (n : Nat)), (54, .int .i64 (n : Nat)), (55, .bool false)] (H.set id (.row 0 (tcells (pw n) (pushS w n c s)) 0 true)) →
    Wp E base bar (.loop c31_l2) [(4, .ptr ib ver 0), (6, .fn 66 [.ptr ib ver 0] []), (7, .vec id 0 0 (pw n) 7), (46, .int .i64 (pw n : Nat)), (47, .int .i64 (s : Nat)), (9, .int .i64 (s : Nat)), (53, .int .i64 (n : Nat)), (54, .int .i64 (x : Nat))] (H.set id (.row 0 (tcells (pw n) ((List.range x).foldl (pushX w n s) c)) 0 true)) R := by
  intro k
  induction k with
  | zero =>
    intro x hx h
    obtain rfl : x = n := by omega
    rw [wp_round c31_l2.eq_1]
    simp [go_sem]
    exact h
  | succ k ih =>
    intro x hx h
    have hlt : x < n := by omega
    have next := ih (x + 1) (by omega) h
    rw [foldl_succ] at next
    generalize (List.range x).foldl (pushX w n s) c = c1 at *
    have hid' : (H.set id (.row 0 (tcells (pw n) c1) 0 true))[ib]? = some (.row ver (bcells n w) fz ex) := by rw [List.getElem?_set_ne (Ne.symm hne)]; exact hid
    have hin := fun (R : PQ) => l31a (base := base) (c := c1) (R := R) hid ht hne hw hn hs hlt hbar n 0 (by omega)
    have hpx : pushX w n s c1 x = (List.range n).foldl (pushY w s x) c1 := rfl
    have h0 : (List.range 0).foldl (pushY w s x) c1 = c1 := rfl
    rw [h0] at hin
    generalize pushX w n s c1 x = c2 at *
    rw [wp_round c31_l2.eq_1]
    simp [go_sem, hlt, loadBN hid']
    refine hin _ ?_
    simp [go_sem, i64_suc (show x < 1000000 by omega)]
    exact next
theorem l31c {c : Nat → Nat → Int} (hid : H[ib]? = some (.row ver (bcells n w) fz ex)) (ht : H[id]? = some (.row 0 cs 0 true)) (hne : ib ≠ id) (hw : ∀ x, w x < 256) (hn : n ≤ 7) (hbar : bar ≤ id) {R : PQ} :
    ∀ (k s : Nat), s + k = pw n →
    R (.exit 2) [(4, .ptr ib ver 0), (6, .fn 66 [.ptr ib ver 0] []), (7, .vec id 0 0 (pw n) 7), (46, .int .i64 (pw n : Nat)), (47, .int .i64 (pw n : Nat)), (48, .bool false)] (H.set id (.row 0 (tcells (pw n) ((List.range (pw n)).foldl (pushS w n) c)) 0 true)) →
    Wp E base bar (.loop c31_l3) [(4, .ptr ib ver 0), (6, .fn 66 [.ptr ib ver 0] []), (7, .vec id 0 0 (pw n) 7), (46, .int .i64 (pw n : Nat)), (47, .int .i64 (s : Nat))] (H.set id (.row 0 (tcells (pw n) ((List.range s).foldl (pushS w n) c)) 0 true)) R := by
  have hpn : pw n ≤ 128 := Nat.pow_le_pow_right (by decide) hn
  intro k
  induction k with
  | zero =>
    intro s hs h
    obtain rfl : s = pw n := by omega
    rw [wp_round c31_l3.eq_1]
    simp [go_sem]
    exact h
  | succ k ih =>
    intro s hs h
    have hlt : s < pw n := by omega
    have next := ih (s + 1) (by omega) h
    rw [foldl_succ] at next
    generalize (List.range s).foldl (pushS w n) c = c1 at *
    have hid' : (H.set id (.row 0 (tcells (pw n) c1) 0 true))[ib]? = some (.row ver (bcells n w) fz ex) := by rw [List.getElem?_set_ne (Ne.symm hne)]; exact hid
    have hin := fun (R : PQ) => l31b (base := base) (c := c1) (R := R) hid ht hne hw hn hlt hbar n 0 (by omega)
    have h0 : (List.range 0).foldl (pushX w n s) c1 = c1 := rfl
    rw [h0] at hin
    generalize pushS w n c1 s = c2 at *
    rw [wp_round c31_l3.eq_1]
    simp [go_sem, hlt, loadBN hid']
    refine hin _ ?_
    simp [go_sem, i64_suc (show s < 1000000 by omega)]
    exact next
theorem l31d (hid : H[ib]? = some (.row ver (bcells n w) fz ex)) (ht : H[id]? = some (.row 0 cs 0 true)) (hne : ib ≠ id) (hn : n ≤ 7) (hbar : bar ≤ id) {R : PQ} :
    ∀ (k x : Nat), x + k = n →
    R (.exit 0) [(4, .ptr ib ver 0), (6, .fn 66 [.ptr ib ver 0] []), (7, .vec id 0 0 (pw n) 7), (34, .int .i64 (n : Nat)), (35, .int .i64 (n : Nat)), (36, .bool false)] (H.set id (.row 0 (tcells (pw n) (startC n)) 0 true)) →
    Wp E base bar (.loop c31_l0) [(4, .ptr ib ver 0), (6, .fn 66 [.ptr ib ver 0] []), (7, .vec id 0 0 (pw n) 7), (34, .int .i64 (n : Nat)), (35, .int .i64 (x : Nat))] (H.set id (.row 0 (tcells (pw n) ((List.range x).foldl (fun c x => updZ c (pw x) x 1) fun _ _ => 0)) 0 true)) R := by
  intro k
  induction k with
  | zero =>
    intro x hx h
    obtain rfl : x = n := by omega
    rw [wp_round c31_l0.eq_1]
    simp [go_sem]
    exact h
  | succ k ih =>
    intro x hx h
    have hlt : x < n := by omega
    have next := ih (x + 1) (by omega) h
    rw [foldl_succ] at next
    generalize (List.range x).foldl (fun c x => updZ c (pw x) x 1) (fun _ _ => 0) = c1 at *
    have ht' : (H.set id (.row 0 (tcells (pw n) c1) 0 true))[id]? = some (.row 0 (tcells (pw n) c1) 0 true) := set_get ht
    have hpx : pw x < pw n := Nat.pow_lt_pow_right (by decide) hlt
    rw [wp_round c31_l0.eq_1]
    have hsl := shl_i64 (n := x) (by omega)
    generalize pw x = p at *
    simp [go_sem, hlt, hsl, hpx, show x < 7 by omega]
    rw [storeT ht' hpx (by omega) hbar, List.set_set]
    simp [go_sem, i64_suc (show x < 1000000 by omega)]
    exact next
def sumW (g : Nat → Int) (k : Nat) : Int := (List.range k).foldl (fun a i => IntKind.i64.wrap (a + g i)) 0
theorem l31e {g : Nat → Int} {R : PQ} : ∀ (k i : Nat), i + k = 7 →
    R (.exit 8) [(12, .int .i64 (sumW g 7)), (100, .agg (zcells g)), (101, .int .i64 7), (102, .bool false)] H →
    Wp E base bar (.loop c31_l4) [(12, .int .i64 (sumW g i)), (100, .agg (zcells g)), (101, .int .i64 (i : Nat))] H R := by
  intro k
  induction k with
  | zero =>
    intro i hi h
    obtain rfl : i = 7 := by omega
    rw [wp_round c31_l4.eq_1]
    simp [go_sem]
    exact h
  | succ k ih =>
    intro i hi h
    have hlt : i < 7 := by omega
    have next := ih (i + 1) (by omega) h
    have hst : sumW g (i + 1) = IntKind.i64.wrap (sumW g i + g i) := by unfold sumW; rw [foldl_succ]
    rw [hst] at next
    generalize sumW g i = a at *
    rw [wp_round c31_l4.eq_1]
    simp [go_sem, hlt, show (i : Int) < 7 by omega]
    rw [zcells_get hlt]
    simp [go_sem, i64_suc (show i < 1000000 by omega)]
    exact next
end
def rowsZ (w : Nat → Nat) (n : Nat) : Int := sumW ((List.range (pw n)).foldl (pushS w n) (startC n) (pw n - 1)) 7
set_option maxRecDepth 4000 in
theorem k31 {n : Nat} {q : AV} {l : List ZZ} (hq : isP q l) (hl : l.length < 1000) (hm : OkC n l) (hbar : bar ≤ H.length)
    (h : Q (.tup [.int .i64 (rowsZ (boardF l fun _ => 0) n), .int .i64 0]) H) : WpCall E pure base bar 31 [.agg [.int .i64 (n : Int), q]] H Q := by
  rw [call31]
  have hb' := bar_ok (pure := pure) hbar
  have e0 : H ++ [.row 0 [.int .i64 (n : Int), q] 0 true] = HI H n q := rfl
  obtain ⟨hbd, hbit⟩ := hm.board
  have hn := hm.le
  have hpos := hm.pos
  have hpn : pw n ≤ 128 := Nat.pow_le_pow_right (by decide) hn
  have hp1 : 1 ≤ pw n := Nat.one_le_two_pow
  simp [go_sem, WpFun, c31, hq.frz, e0, HI_h] at hb' ⊢
  generalize (if pure = true then H.length else bar) = bar' at hb' ⊢
  refine k56 hq hl (by rw [HI_len]; omega) (fun hc => absurd hm.check hc) (fun m hnm _ _ _ => ?_)
  obtain rfl : n = m := by omega
  have hX1 : (HI H (n : Int) q ++ [Blk.row 0 (bcells n (boardF l fun _ => 0)) 0 true])[H.length + 1]? = some (.row 0 (bcells n (boardF l fun _ => 0)) 0 true) := by simp [HI, own_get]
  have hXl : (HI H (n : Int) q ++ [Blk.row 0 (bcells n (boardF l fun _ => 0)) 0 true]).length = H.length + 2 := by simp [HI]
  have hXt : (HI H (n : Int) q ++ [Blk.row 0 (bcells n (boardF l fun _ => 0)) 0 true]).take H.length = H := by simp [HI]
  rw [HI_len]
  generalize HI H (n : Int) q ++ [Blk.row 0 (bcells n (boardF l fun _ => 0)) 0 true] = X at *
  have hsl := shl_i64 (n := n) (by omega)
  have z7 := tcells_zero (M := pw n)
  unfold rowsZ at h
  generalize hw : (boardF l fun _ => 0) = w at *
  simp [go_sem, loadBN hX1, hsl, aop, AV.asNat]
  rw [if_pos (show pw n * 56 ≤ 140737488355328 by omega), z7, hXl]
  obtain ⟨Y, hY⟩ : ∃ Y, Y = X ++ [.row 0 (tcells (pw n) fun _ _ => 0) 0 true] := ⟨_, rfl⟩
  have hY1 : Y[H.length + 1]? = some (.row 0 (bcells n w) 0 true) := by rw [hY, List.getElem?_append_left (by omega)]; exact hX1
  have hY2 : Y[H.length + 2]? = some (.row 0 (tcells (pw n) fun _ _ => 0) 0 true) := by rw [hY, List.getElem?_append_right (by omega), hXl]; simp
  have hYt : Y.take H.length = H := by rw [hY, List.take_append_of_le_length (by omega)]; exact hXt
  have hYl : Y.length = H.length + 3 := by rw [hY]; simp [hXl]
  rw [← hY]
  have ln : aload Y ⟨false, 1⟩ (.ptr (H.length + 1) 0 0) = some (.int .i64 (n : Nat)) := loadBN hY1
  simp [go_sem, ln]
  have hst : Y = Y.set (H.length + 2) (.row 0 (tcells (pw n) ((List.range 0).foldl (fun c x => updZ c (pw x) x 1) fun _ _ => 0)) 0 true) := by
    apply List.ext_getElem?
    intro j
    rw [List.getElem?_set]
    by_cases hj : H.length + 2 = j
    · subst hj; rw [if_pos rfl, if_pos (by omega), hY2]; rfl
    · rw [if_neg hj]
  rw [hst]
  refine l31d (w := w) hY1 hY2 (by omega) hn (by omega) n 0 (by omega) ?_
  simp [go_sem]
  refine l31c (c := startC n) hY1 hY2 (by omega) hbd.lt hn (by omega) (pw n) 0 (by omega) ?_
  generalize (List.range (pw n)).foldl (pushS w n) (startC n) = c at *
  have hZ1 : (Y.set (H.length + 2) (.row 0 (tcells (pw n) c) 0 true))[H.length + 1]? = some (.row 0 (bcells n w) 0 true) := by rw [List.getElem?_set_ne (by omega)]; exact hY1
  have hZ2 : (Y.set (H.length + 2) (.row 0 (tcells (pw n) c) 0 true))[H.length + 2]? = some (.row 0 (tcells (pw n) c) 0 true) := set_get hY2
  have hZt : (Y.set (H.length + 2) (.row 0 (tcells (pw n) c) 0 true)).take H.length = H := by rw [List.take_set_of_le (by omega)]; exact hYt
  generalize Y.set (H.length + 2) (.row 0 (tcells (pw n) c) 0 true) = Z at *
  have h59 := fun (P : Bool) (B C : Nat) (Q : AV → Heap → Prop) => k59 (pure := P) (base := B) (bar := C) (Q := Q) hZ1 hn
  have hlt : pw n - 1 < pw n := by omega
  have ltt := loadTT hZ2 hlt
  generalize pw n - 1 = m at *
  simp [go_sem, h59, hlt, ltt]
  refine l31e (g := c m) 7 0 (by omega) ?_
  simp [go_sem, hZt]
  exact h
theorem k31e {n : Int} {q : AV} {l : List ZZ} (hq : isP q l) (hl : l.length < 1000) (hc : checkS n l ≠ 0) (hbar : bar ≤ H.length) (h : Q (.tup [.int .i64 0, .int .i64 (checkS n l)]) H) : WpCall E pure base bar 31 [.agg [.int .i64 n, q]] H Q := by
  rw [call31]
  have hb' := bar_ok (pure := pure) hbar
  have e0 : H ++ [.row 0 [.int .i64 n, q] 0 true] = HI H n q := rfl
  simp [go_sem, WpFun, c31, hq.frz, e0, HI_h] at hb' ⊢
  refine k56 hq hl (by rw [HI_len]; omega) (fun _ => ?_) (fun m _ _ _ hc' => absurd hc' hc)
  simp [go_sem, hc, HI_take]
  exact h
end Go.Proofs.Ytnlebofipoepfaa.Code
end

section
namespace Go.Proofs.Ytnlebofipoepfaa.Code
open Go Go.Ab

/-! sums of numbers with signs -/
def sumZ (f : Nat → Int) : Nat → Int
  | 0 => 0
  | n + 1 => sumZ f n + f n
theorem sumZ_congr {f g : Nat → Int} : ∀ {n : Nat}, (∀ x, x < n → f x = g x) → sumZ f n = sumZ g n
  | 0, _ => rfl
  | n + 1, h => by
    simp only [sumZ]
    rw [sumZ_congr fun x hx => h x (by omega), h n (by omega)]
theorem sumZ_add {f g : Nat → Int} : ∀ {n : Nat}, sumZ (fun x => f x + g x) n = sumZ f n + sumZ g n
  | 0 => rfl
  | n + 1 => by simp only [sumZ]; rw [sumZ_add]; omega
theorem sumZ_zero : ∀ {n : Nat}, sumZ (fun _ => 0) n = 0
  | 0 => rfl
  | n + 1 => by simp only [sumZ]; rw [sumZ_zero]; rfl
theorem sumZ_at {a : Nat} {c : Int} : ∀ {n : Nat}, sumZ (fun x => if x = a then c else 0) n = if a < n then c else 0
  | 0 => rfl
  | n + 1 => by
    simp only [sumZ]
    rw [sumZ_at]
    by_cases h : n = a
    · subst h
      rw [if_neg (by omega), if_pos rfl, if_pos (by omega)]; omega
    · rw [if_neg h]
      by_cases h2 : a < n
      · rw [if_pos h2, if_pos (by omega)]; omega
      · rw [if_neg h2, if_neg (by omega)]; rfl
theorem sumZ_cut {g : Nat → Int} {n : Nat} : ∀ d, (∀ z, n ≤ z → g z = 0) → sumZ g (n + d) = sumZ g n
  | 0, _ => rfl
  | d + 1, h => by
    show sumZ g (n + d) + g (n + d) = _
    rw [sumZ_cut d h, h _ (by omega)]; omega
theorem len_flat {α : Type} {g : Nat → List α} : ∀ n, (((List.range' 0 n).flatMap g).length : Int) = sumZ (fun x => ((g x).length : Int)) n
  | 0 => rfl
  | n + 1 => by
    rw [← List.range_eq_range', List.range_succ, List.flatMap_append, List.length_append, List.range_eq_range']
    have := len_flat (g := g) n
    simp only [List.flatMap_singleton, sumZ, Int.natCast_add]
    rw [this]
/-- the same but for a multiple of 2 ^ 64 -/
def cong (a b : Int) : Prop := ∃ k : Int, a = b + k * 18446744073709551616
theorem cong.refl {a : Int} : cong a a := ⟨0, by omega⟩
theorem cong.trans {a b c : Int} : cong a b → cong b c → cong a c
  | ⟨k, h1⟩, ⟨m, h2⟩ => ⟨k + m, by rw [h1, h2, Int.add_mul]; omega⟩
theorem cong.add {a b c d : Int} : cong a b → cong c d → cong (a + c) (b + d)
  | ⟨k, h1⟩, ⟨m, h2⟩ => ⟨k + m, by rw [h1, h2, Int.add_mul]; omega⟩
theorem cong.mul {a b : Int} (c : Int) : cong a b → cong (a * c) (b * c)
  | ⟨k, h⟩ => ⟨k * c, by rw [h, Int.add_mul, Int.mul_right_comm]⟩
theorem cong.wrap (a : Int) : cong (IntKind.i64.wrap a) a := wrap_ex a
theorem cong.eq {a b : Int} : cong a b → IntKind.i64.wrap a = IntKind.i64.wrap b
  | ⟨k, h⟩ => by rw [h, wrap_cong]

/-! in how many ways a row can be ended -/
def Rk (f : Nat → Nat → Bool) (n : Nat) : Nat → Nat → Nat → Int
  | 0, _, _ => 1
  | k + 1, t, z => sumZ (fun y => if (!t.testBit y && f z y) = true then Rk f n k (bor t (pw y)) y else 0) n
def Re (f : Nat → Nat → Bool) (n t z : Nat) : Int := Rk f n (n - (bitsOf t).length) t z
def phi (f : Nat → Nat → Bool) (n : Nat) (c : Nat → Nat → Int) (S : Nat) : Int := sumZ (fun t => if S ≤ t then sumZ (fun z => c t z * Re f n t z) 7 else 0) (pw n)
section
variable {f : Nat → Nat → Bool} {n : Nat}
theorem phi_upd {c : Nat → Nat → Int} {a b S : Nat} {v : Int} (hb : b < 7) : phi f n (updZ c a b v) S = phi f n c S + if S ≤ a ∧ a < pw n then (v - c a b) * Re f n a b else 0 := by
  have hin : ∀ t, sumZ (fun z => updZ c a b v t z * Re f n t z) 7 = sumZ (fun z => c t z * Re f n t z) 7 + if t = a then (v - c a b) * Re f n a b else 0 := fun t => by
    by_cases ht : t = a
    · subst ht
      rw [if_pos rfl]
      have : sumZ (fun z => updZ c t b v t z * Re f n t z) 7 = sumZ (fun z => c t z * Re f n t z + if z = b then (v - c t b) * Re f n t b else 0) 7 := sumZ_congr fun z _ => by
        by_cases hz : z = b
        · subst hz; simp [updZ, Int.sub_mul]; omega
        · simp [updZ, hz]
      rw [this, sumZ_add, sumZ_at, if_pos hb]
    · rw [if_neg ht, Int.add_zero]
      exact sumZ_congr fun z _ => by simp [updZ, ht]
  unfold phi
  have : (fun t => if S ≤ t then sumZ (fun z => updZ c a b v t z * Re f n t z) 7 else 0) = fun t => (if S ≤ t then sumZ (fun z => c t z * Re f n t z) 7 else 0) + if t = a then (if S ≤ a then (v - c a b) * Re f n a b else 0) else 0 := by
    funext t
    rw [hin]
    by_cases ht : t = a
    · subst ht
      by_cases hS : S ≤ t <;> simp [hS]
    · simp [ht]
  rw [this, sumZ_add, sumZ_at]
  congr 1
  by_cases h1 : a < pw n <;> by_cases h2 : S ≤ a <;> simp [h1, h2]
theorem phi_cut {c : Nat → Nat → Int} {s : Nat} (hs : s < pw n) : phi f n c s = phi f n c (s + 1) + sumZ (fun z => c s z * Re f n s z) 7 := by
  unfold phi
  have : (fun t => if s ≤ t then sumZ (fun z => c t z * Re f n t z) 7 else 0) = fun t => (if s + 1 ≤ t then sumZ (fun z => c t z * Re f n t z) 7 else 0) + if t = s then sumZ (fun z => c s z * Re f n s z) 7 else 0 := by
    funext t
    rcases Nat.lt_trichotomy t s with h | h | h
    · rw [if_neg (by omega), if_neg (by omega), if_neg (by omega)]; rfl
    · subst h; rw [if_pos (Nat.le_refl _), if_neg (by omega), if_pos rfl]; omega
    · rw [if_pos (by omega), if_pos (by omega), if_neg (by omega)]; omega
  rw [this, sumZ_add, sumZ_at, if_pos hs]
def Ty (f : Nat → Nat → Bool) (n s x y : Nat) : Int := if (!s.testBit y && f x y) = true then Re f n (bor s (pw y)) y else 0
variable {w : Nat → Nat}
theorem bor_gt : ∀ s, s < 128 → ∀ y, y < 7 → s.testBit y = false → s < bor s (pw y) := by decide +kernel
theorem pushY_phi (hw : ∀ x y, (w x).testBit y = f x y) (hn : n ≤ 7) {s x y : Nat} {c : Nat → Nat → Int} (hs : s < pw n) (hy : y < n) :
    cong (phi f n (pushY w s x c y) (s + 1)) (phi f n c (s + 1) + c s x * Ty f n s x y) ∧ ∀ z, pushY w s x c y s z = c s z := by
  have hpn : pw n ≤ 128 := Nat.pow_le_pow_right (by decide) hn
  unfold pushY Ty
  rw [hw]
  split
  · rename_i hc
    rw [Bool.and_eq_true, Bool.not_eq_true'] at hc
    have hgt := bor_gt s (by omega) y (by omega) hc.1
    have hlt := bor_small n hn s hs y hy
    refine ⟨?_, fun z => ?_⟩
    · rw [phi_upd (by omega), if_pos ⟨by omega, hlt⟩]
      refine cong.refl.add (cong.mul _ ?_)
      obtain ⟨k, hk⟩ := wrap_ex (c (bor s (pw y)) y + c s x)
      exact ⟨k, by rw [hk]; omega⟩
    · unfold updZ
      rw [if_neg (by omega)]
  · rw [Int.mul_zero, Int.add_zero]
    exact ⟨cong.refl, fun _ => rfl⟩
theorem pushYs_phi (hw : ∀ x y, (w x).testBit y = f x y) (hn : n ≤ 7) {s x : Nat} {c : Nat → Nat → Int} (hs : s < pw n) : ∀ k, k ≤ n →
    cong (phi f n ((List.range k).foldl (pushY w s x) c) (s + 1)) (phi f n c (s + 1) + c s x * sumZ (Ty f n s x) k) ∧ ∀ z, (List.range k).foldl (pushY w s x) c s z = c s z
  | 0, _ => ⟨by simp only [sumZ, Int.mul_zero, Int.add_zero]; exact cong.refl, fun _ => rfl⟩
  | k + 1, hk => by
    obtain ⟨h1, h2⟩ := pushYs_phi hw hn (s := s) (x := x) (c := c) hs k (by omega)
    obtain ⟨g1, g2⟩ := pushY_phi hw hn (s := s) (x := x) (c := (List.range k).foldl (pushY w s x) c) hs (show k < n by omega)
    rw [foldl_succ]
    refine ⟨g1.trans ?_, fun z => by rw [g2, h2]⟩
    rw [h2]
    simp only [sumZ]
    rw [Int.mul_add, ← Int.add_assoc]
    exact h1.add cong.refl
theorem pushXs_phi (hw : ∀ x y, (w x).testBit y = f x y) (hn : n ≤ 7) {s : Nat} {c : Nat → Nat → Int} (hs : s < pw n) : ∀ k, k ≤ n →
    cong (phi f n ((List.range k).foldl (pushX w n s) c) (s + 1)) (phi f n c (s + 1) + sumZ (fun x => c s x * sumZ (Ty f n s x) n) k) ∧ ∀ z, (List.range k).foldl (pushX w n s) c s z = c s z
  | 0, _ => ⟨by simp only [sumZ, Int.add_zero]; exact cong.refl, fun _ => rfl⟩
  | k + 1, hk => by
    obtain ⟨h1, h2⟩ := pushXs_phi hw hn (s := s) (c := c) hs k (by omega)
    obtain ⟨g1, g2⟩ := pushYs_phi hw hn (s := s) (x := k) (c := (List.range k).foldl (pushX w n s) c) hs n (Nat.le_refl _)
    rw [foldl_succ]
    have hx : pushX w n s ((List.range k).foldl (pushX w n s) c) k = (List.range n).foldl (pushY w s k) ((List.range k).foldl (pushX w n s) c) := rfl
    rw [hx]
    refine ⟨g1.trans ?_, fun z => by rw [g2, h2]⟩
    rw [h2]
    simp only [sumZ]
    rw [← Int.add_assoc]
    exact h1.add cong.refl
theorem card_lt {s : Nat} (hn : n ≤ 7) (hs : s < pw n - 1) : (bitsOf s).length < n := by
  have : ∀ n, n ≤ 7 → ∀ s, s < pw n - 1 → (bitsOf s).length < n := by decide +kernel
  exact this n hn s hs
theorem Ty_sum {s x : Nat} (hn : n ≤ 7) (hs : s < pw n - 1) : sumZ (Ty f n s x) n = Re f n s x := by
  have hpn : pw n ≤ 128 := Nat.pow_le_pow_right (by decide) hn
  have hc := card_lt hn hs
  unfold Re
  obtain ⟨k, hk⟩ : ∃ k, n - (bitsOf s).length = k + 1 := ⟨n - (bitsOf s).length - 1, by omega⟩
  rw [hk]
  show _ = sumZ (fun y => if (!s.testBit y && f x y) = true then Rk f n k (bor s (pw y)) y else 0) n
  refine sumZ_congr fun y hy => ?_
  unfold Ty
  split
  · rename_i hcd
    rw [Bool.and_eq_true, Bool.not_eq_true'] at hcd
    unfold Re
    rw [bits_put s (by omega) y (by omega) hcd.1, show n - ((bitsOf s).length + 1) = k by omega]
  · rfl
theorem Re_out {s z : Nat} (hn : n ≤ 7) (hs : s < pw n - 1) (hd : ∀ x y, f x y = true → x < n ∧ y < n) (hz : n ≤ z) : Re f n s z = 0 := by
  rw [← Ty_sum hn hs, ← sumZ_zero (n := n)]
  refine sumZ_congr fun y hy => ?_
  unfold Ty
  rw [if_neg]
  intro hc
  rw [Bool.and_eq_true] at hc
  have := hd z y hc.2
  omega
theorem pushS_phi (hw : ∀ x y, (w x).testBit y = f x y) (hn : n ≤ 7) (hd : ∀ x y, f x y = true → x < n ∧ y < n) {s : Nat} {c : Nat → Nat → Int} (hs : s < pw n - 1) : cong (phi f n (pushS w n c s) (s + 1)) (phi f n c s) := by
  have hs' : s < pw n := by omega
  rw [phi_cut hs']
  refine (pushXs_phi hw hn hs' n (Nat.le_refl _)).1.trans ?_
  have e1 : sumZ (fun z => c s z * Re f n s z) 7 = sumZ (fun z => c s z * Re f n s z) n := by
    have := sumZ_cut (g := fun z => c s z * Re f n s z) (n := n) (7 - n) fun z hz => by rw [Re_out hn hs hd hz, Int.mul_zero]
    rw [show n + (7 - n) = 7 by omega] at this
    exact this
  rw [e1, sumZ_congr (f := fun x => c s x * sumZ (Ty f n s x) n) (g := fun z => c s z * Re f n s z) fun x _ => by rw [Ty_sum hn hs]]
  exact cong.refl
theorem all_phi (hw : ∀ x y, (w x).testBit y = f x y) (hn : n ≤ 7) (hd : ∀ x y, f x y = true → x < n ∧ y < n) {c : Nat → Nat → Int} : ∀ s, s ≤ pw n - 1 → cong (phi f n ((List.range s).foldl (pushS w n) c) s) (phi f n c 0)
  | 0, _ => cong.refl
  | s + 1, hs => by
    rw [foldl_succ]
    exact (pushS_phi hw hn hd (by omega)).trans (all_phi hw hn hd s (by omega))
theorem last_same (hn : n ≤ 7) {c : Nat → Nat → Int} : pushS w n c (pw n - 1) = c := by
  have hy : ∀ x y c, y < n → pushY w (pw n - 1) x c y = c := fun x y c hy => by
    unfold pushY
    rw [testBit_all, decide_eq_true hy]
    rfl
  have hx : ∀ x c k, k ≤ n → (List.range k).foldl (pushY w (pw n - 1) x) c = c := fun x c k => by
    induction k with
    | zero => exact fun _ => rfl
    | succ k ih => exact fun hk => by rw [foldl_succ, ih (by omega), hy _ _ _ (by omega)]
  have hs : ∀ k, (List.range k).foldl (pushX w n (pw n - 1)) c = c := fun k => by
    induction k with
    | zero => rfl
    | succ k ih => rw [foldl_succ, ih]; exact hx _ _ _ (Nat.le_refl _)
  exact hs n
theorem pw_inj {a b : Nat} (h : pw a = pw b) : a = b := by
  have := congrArg (fun t => t.testBit a) h
  simp only [testBit_pw, decide_true] at this
  simpa [eq_comm] using this
theorem start_phi (hn : n ≤ 7) : ∀ k, k ≤ n → phi f n ((List.range k).foldl (fun c x => updZ c (pw x) x 1) fun _ _ => 0) 0 = sumZ (fun x => Re f n (pw x) x) k ∧ ∀ x, k ≤ x → (List.range k).foldl (fun c x => updZ c (pw x) x 1) (fun _ _ => 0) (pw x) x = 0
  | 0, _ => by
    refine ⟨?_, fun _ _ => rfl⟩
    show phi f n (fun _ _ => 0) 0 = 0
    unfold phi
    refine Eq.trans (sumZ_congr (g := fun _ => 0) fun t _ => ?_) sumZ_zero
    rw [if_pos (Nat.zero_le _)]
    exact Eq.trans (sumZ_congr (g := fun _ => 0) fun z _ => Int.zero_mul _) sumZ_zero
  | k + 1, hk => by
    obtain ⟨h1, h2⟩ := start_phi hn k (by omega)
    have hpk : pw k < pw n := Nat.pow_lt_pow_right (by decide) (show k < n by omega)
    rw [foldl_succ]
    refine ⟨?_, fun x hx => ?_⟩
    · rw [phi_upd (by omega), if_pos ⟨Nat.zero_le _, hpk⟩, h1, h2 k (Nat.le_refl _)]
      simp only [sumZ]
      omega
    · unfold updZ
      rw [if_neg (by omega)]
      exact h2 x (by omega)
theorem rows_Rk : ∀ (k : Nat) (s : List Nat) (t : Nat), s ≠ [] → (∀ y, t.testBit y = s.contains y) → ((rowsR f n k s).length : Int) = Rk f n k t (lastN s)
  | 0, s, t, _, _ => rfl
  | k + 1, s, t, h0, ht => by
    have hne : s.isEmpty = false := by cases s with
      | nil => exact absurd rfl h0
      | cons a b => rfl
    unfold rowsR
    rw [len_flat]
    refine sumZ_congr fun y hy => ?_
    rw [hne, Bool.false_or, ht]
    split
    · rw [rows_Rk k (s ++ [y]) (bor t (pw y)) (by simp) fun z => by
        rw [testBit_bor, testBit_pw, ht, List.contains_eq_mem, List.contains_eq_mem]
        simp only [List.mem_append, List.mem_singleton, ← Bool.decide_or, decide_eq_decide]
        constructor
        · rintro (h | h)
          · exact .inl h
          · exact .inr h.symm
        · rintro (h | h)
          · exact .inl h
          · exact .inr h.symm]
      rw [lastN_snoc]
    · rfl
theorem rows_start (hn : n ≤ 7) (h1 : 1 ≤ n) : ((rowsR f n n []).length : Int) = sumZ (fun x => Re f n (pw x) x) n := by
  obtain ⟨m, rfl⟩ : ∃ m, n = m + 1 := ⟨n - 1, by omega⟩
  unfold rowsR
  rw [len_flat]
  refine sumZ_congr fun x hx => ?_
  have hc : ∀ x, x < 7 → (bitsOf (pw x)).length = 1 := by decide
  rw [if_pos (show (!([] : List Nat).contains x && (([] : List Nat).isEmpty || f (lastN []) x)) = true from rfl), List.nil_append, rows_Rk m [x] (pw x) (by simp) fun z => by
    rw [testBit_pw, List.contains_eq_mem]
    simp [eq_comm]]
  unfold Re
  rw [hc x (by omega), Nat.add_sub_cancel]
  rfl
theorem sumW_cong {g : Nat → Int} : ∀ k, cong (sumW g k) (sumZ g k)
  | 0 => cong.refl
  | k + 1 => by
    have hst : sumW g (k + 1) = IntKind.i64.wrap (sumW g k + g k) := by unfold sumW; rw [foldl_succ]
    rw [hst]
    exact (cong.wrap _).trans ((sumW_cong k).add cong.refl)
/-- the program's number of rows -/
theorem rows_eq (hw : ∀ x y, (w x).testBit y = f x y) (hn : n ≤ 7) (h1 : 1 ≤ n) (hd : ∀ x y, f x y = true → x < n ∧ y < n) : rowsZ w n = ((rowsR f n n []).length : Int) := by
  have hp1 : 1 < pw n := Nat.one_lt_two_pow (by omega)
  obtain ⟨M, hM⟩ : ∃ M, pw n = M + 1 := ⟨pw n - 1, by omega⟩
  unfold rowsZ
  have hc : (List.range (pw n)).foldl (pushS w n) (startC n) = (List.range (pw n - 1)).foldl (pushS w n) (startC n) := by
    have hl := last_same (w := w) hn (c := (List.range (pw n - 1)).foldl (pushS w n) (startC n))
    have : (List.range (pw n)).foldl (pushS w n) (startC n) = pushS w n ((List.range (pw n - 1)).foldl (pushS w n) (startC n)) (pw n - 1) := by
      rw [hM, foldl_succ]; rfl
    rw [this, hl]
  rw [hc]
  have ha := all_phi hw hn hd (c := startC n) (pw n - 1) (Nat.le_refl _)
  generalize (List.range (pw n - 1)).foldl (pushS w n) (startC n) = c at *
  have hs := (start_phi (f := f) hn n (Nat.le_refl _)).1
  have hs' : phi f n (startC n) 0 = sumZ (fun x => Re f n (pw x) x) n := hs
  rw [hs', ← rows_start hn h1, phi_cut (s := pw n - 1) (by omega)] at ha
  have hz : phi f n c (pw n - 1 + 1) = 0 := by
    unfold phi
    exact Eq.trans (sumZ_congr (g := fun _ => 0) fun t ht => if_neg (by omega)) sumZ_zero
  have hfull : sumZ (fun z => c (pw n - 1) z * Re f n (pw n - 1) z) 7 = sumZ (c (pw n - 1)) 7 := sumZ_congr fun z _ => by
    unfold Re
    rw [bits_all hn, Nat.sub_self]
    exact Int.mul_one _
  rw [hz, hfull, Int.zero_add] at ha
  have hsw : sumW (c (pw n - 1)) 7 = IntKind.i64.wrap (sumW (c (pw n - 1)) 6 + c (pw n - 1) 6) := by unfold sumW; rw [foldl_succ (k := 6)]
  have hcg : cong (sumW (c (pw n - 1)) 6 + c (pw n - 1) 6) ((rowsR f n n []).length : Int) := ((sumW_cong 6).add cong.refl).trans ha
  rw [hsw, hcg.eq, i64_nat]
  have h1 := rowsR_len (f := f) hn n []
  have h2 : 7 ^ n ≤ 7 ^ 7 := Nat.pow_le_pow_right (by decide) hn
  have h3 : 7 ^ 7 = 823543 := by decide
  omega
end
end Go.Proofs.Ytnlebofipoepfaa.Code
end

section
namespace Go.Proofs.Ytnlebofipoepfaa.Code
open Go Go.Ab

/-! rows are the lists in which each one beat the next -/
def chainL (f : Nat → Nat → Bool) : List Nat → Prop
  | [] => True
  | [_] => True
  | a :: b :: r => f a b = true ∧ chainL f (b :: r)
theorem lastN_cons {a b : Nat} {r : List Nat} : lastN (a :: b :: r) = lastN (b :: r) := by
  simp [lastN, List.getD_eq_getElem?_getD]
theorem chainL_append {f : Nat → Nat → Bool} : ∀ {A B : List Nat}, A ≠ [] → B ≠ [] → (chainL f (A ++ B) ↔ chainL f A ∧ chainL f B ∧ f (lastN A) (B.getD 0 0) = true)
  | [], _, h, _ => absurd rfl h
  | [a], [], _, h => absurd rfl h
  | [a], b :: r, _, _ => by
    simp only [List.singleton_append, chainL, true_and]
    rw [and_comm]
    rfl
  | a :: a' :: r, B, _, hB => by
    have ih := chainL_append (f := f) (A := a' :: r) (B := B) (by simp) hB
    rw [lastN_cons]
    simp only [List.cons_append, chainL] at ih ⊢
    rw [ih, and_assoc]
theorem chainL_snoc {f : Nat → Nat → Bool} {s : List Nat} {x : Nat} : chainL f (s ++ [x]) ↔ chainL f s ∧ (s = [] ∨ f (lastN s) x = true) := by
  by_cases h : s = []
  · subst h; simp [chainL]
  · rw [chainL_append h (by simp)]
    simp [chainL, h]
structure Valid (f : Nat → Nat → Bool) (n : Nat) (L : List Nat) : Prop where
  nodup : L.Nodup
  lt : ∀ x ∈ L, x < n
  chain : chainL f L
section
variable {f : Nat → Nat → Bool} {n : Nat}
theorem rows_valid : ∀ {k : Nat} {s L : List Nat}, Valid f n s → L ∈ rowsR f n k s → Valid f n L ∧ L.take s.length = s ∧ L.length = s.length + k
  | 0, s, L, hv, h => by
    unfold rowsR at h
    rw [List.mem_singleton] at h; subst h
    exact ⟨hv, List.take_length, rfl⟩
  | k + 1, s, L, hv, h => by
    unfold rowsR at h
    obtain ⟨x, hx, hL⟩ := List.mem_flatMap.1 h
    split at hL
    · rename_i hc
      rw [Bool.and_eq_true, Bool.not_eq_true', Bool.or_eq_true] at hc
      have hxn : x < n := by have := List.mem_range'_1.1 hx; omega
      have hxs : x ∉ s := fun hm => by
        have := hc.1
        rw [List.contains_eq_mem, decide_eq_true hm] at this; cases this
      have hv' : Valid f n (s ++ [x]) := by
        refine ⟨?_, fun y hy => ?_, chainL_snoc.2 ⟨hv.chain, ?_⟩⟩
        · rw [List.nodup_append]
          refine ⟨hv.nodup, by simp, fun a ha b hb => ?_⟩
          rw [List.mem_singleton] at hb; subst hb
          exact fun he => hxs (he ▸ ha)
        · rcases List.mem_append.1 hy with hy | hy
          · exact hv.lt y hy
          · rw [List.mem_singleton] at hy; subst hy; exact hxn
        · rcases hc.2 with h | h
          · exact .inl (List.isEmpty_iff.1 h)
          · exact .inr h
      obtain ⟨h1, h2, h3⟩ := rows_valid hv' hL
      refine ⟨h1, ?_, by rw [h3]; simp; omega⟩
      have := congrArg (List.take s.length) h2
      rw [List.take_take, List.length_append, List.length_singleton, Nat.min_eq_left (by omega), List.take_left'] at this
      · exact this
      · rfl
    · simp at hL
theorem rows_has : ∀ {k : Nat} {s L : List Nat}, Valid f n L → L.length = s.length + k → L.take s.length = s → L ∈ rowsR f n k s
  | 0, s, L, _, h1, h2 => by
    unfold rowsR
    rw [List.mem_singleton, ← h2, List.take_of_length_le (by omega)]
  | k + 1, s, L, hv, h1, h2 => by
    have hlt : s.length < L.length := by omega
    have hs : L.take (s.length + 1) = s ++ [L[s.length]] := by rw [List.take_succ_eq_append_getElem hlt, h2]
    have ih := rows_has (k := k) (s := s ++ [L[s.length]]) hv (by simp; omega) (by rw [List.length_append, List.length_singleton, hs])
    unfold rowsR
    refine List.mem_flatMap.2 ⟨L[s.length], List.mem_range'_1.2 ⟨Nat.zero_le _, by have := hv.lt _ (List.getElem_mem hlt); omega⟩, ?_⟩
    have hch : chainL f (s ++ [L[s.length]]) := by
      rw [← hs]
      by_cases hd : L.drop (s.length + 1) = []
      · have : L.take (s.length + 1) = L := List.take_of_length_le (by have := List.drop_eq_nil_iff.1 hd; omega)
        rw [this]; exact hv.chain
      · have h3 := hv.chain
        rw [← List.take_append_drop (s.length + 1) L] at h3
        exact ((chainL_append (by intro h; have := congrArg List.length h; rw [List.length_take, List.length_nil] at this; omega) hd).1 h3).1
    have hxs : s.contains L[s.length] = false := by
      rw [List.contains_eq_mem, decide_eq_false_iff_not]
      intro hm
      have h3 : (L.take (s.length + 1)).Nodup := hv.nodup.sublist (List.take_sublist ..)
      rw [hs, List.nodup_append] at h3
      exact h3.2.2 _ hm _ (List.mem_singleton.2 rfl) rfl
    rw [hxs]
    have hch2 := (chainL_snoc.1 hch).2
    generalize L[s.length] = x at *
    rcases hch2 with h | h
    · have : s.isEmpty = true := by rw [h]; rfl
      rw [this]
      exact ih
    · rw [h, Bool.or_true]
      exact ih

/-! there is a row -/
def insertL (f : Nat → Nat → Bool) (m : Nat) : List Nat → List Nat
  | [] => [m]
  | a :: r => if f m a = true then m :: a :: r else a :: insertL f m r
theorem insertL_perm {m : Nat} : ∀ L, (insertL f m L).Perm (m :: L)
  | [] => List.Perm.refl _
  | a :: r => by
    unfold insertL
    split
    · exact List.Perm.refl _
    · exact ((insertL_perm r).cons a).trans (List.Perm.swap ..)
theorem insertL_chain {m : Nat} : ∀ {L : List Nat}, chainL f L → (∀ a ∈ L, f m a = false → f a m = true) → chainL f (insertL f m L)
  | [], _, _ => trivial
  | [a], _, h => by
    unfold insertL
    split
    · rename_i hc; exact ⟨hc, trivial⟩
    · rename_i hc; exact ⟨h a (by simp) (by simpa using hc), trivial⟩
  | a :: b :: r, hch, h => by
    have ih := insertL_chain (m := m) (L := b :: r) hch.2 fun x hx => h x (List.mem_cons_of_mem _ hx)
    unfold insertL
    split
    · rename_i hc; exact ⟨hc, hch⟩
    · rename_i hc
      unfold insertL at ih ⊢
      split
      · exact ⟨h a (by simp) (by simpa using hc), by rename_i hc2; rw [if_pos hc2] at ih; exact ih⟩
      · rename_i hc2
        rw [if_neg hc2] at ih
        exact ⟨hch.1, ih⟩
theorem row_ex (hone : ∀ x y, x < n → y < n → x ≠ y → f x y = !f y x) : ∀ m, m ≤ n → ∃ L : List Nat, L.Perm (List.range m) ∧ chainL f L
  | 0, _ => ⟨[], List.Perm.refl _, trivial⟩
  | m + 1, hm => by
    obtain ⟨L, h1, h2⟩ := row_ex hone m (by omega)
    refine ⟨insertL f m L, ?_, insertL_chain h2 fun a ha hf => ?_⟩
    · rw [List.range_succ]
      exact ((insertL_perm L).trans (h1.cons m)).trans (List.perm_append_singleton m (List.range m)).symm
    · have ha := List.mem_range.1 (h1.mem_iff.1 ha)
      rw [hone a m (by omega) (by omega) (by omega), hf]; rfl
theorem rows_ne (hone : ∀ x y, x < n → y < n → x ≠ y → f x y = !f y x) : rowsR f n n [] ≠ [] := by
  obtain ⟨L, h1, h2⟩ := row_ex hone n (Nat.le_refl _)
  have hv : Valid f n L := ⟨h1.symm.nodup List.nodup_range, fun x hx => List.mem_range.1 (h1.mem_iff.1 hx), h2⟩
  have := rows_has (k := n) (s := []) hv (by rw [h1.length_eq]; simp) rfl
  exact List.ne_nil_of_mem this

/-! the search finds the first one -/
theorem findSome_filter {α : Type} {p : Nat → Bool} {g : Nat → Option α} : ∀ {l : List Nat}, (l.filter p).findSome? g = l.findSome? fun x => if p x = true then g x else none
  | [] => rfl
  | x :: r => by
    rw [List.filter_cons]
    cases hp : p x
    · rw [if_neg (by simp), List.findSome?_cons, findSome_filter (l := r)]
      rw [hp, if_neg (by simp)]
    · rw [if_pos rfl, List.findSome?_cons, List.findSome?_cons, findSome_filter (l := r)]
      rw [hp, if_pos rfl]
theorem rowS_find (hn : n ≤ 7) {g : Nat → Bool} : ∀ (k : Nat) (s : List Nat) (left : Nat), (∀ x, left.testBit x = true ↔ x < n ∧ x ∉ s) → left < 128 → rowS f g k s left = (rowsR f n k s).find? fun L => g (lastN L)
  | 0, s, left, _, _ => by
    unfold rowS rowsR
    rw [List.find?_cons]
    cases g (lastN s) <;> rfl
  | k + 1, s, left, hl, h7 => by
    have hb : bitsOf left = (List.range' 0 n).filter fun x => !s.contains x := by
      unfold bitsOf
      obtain ⟨d, hd⟩ : ∃ d, 8 = n + d := ⟨8 - n, by omega⟩
      rw [hd, filter_range_cut d fun c hc1 hc2 => by
        cases hc : left.testBit c
        · rfl
        · have := ((hl c).1 hc).1; omega, List.range_eq_range']
      apply List.filter_congr
      intro x hx
      have hx := List.mem_range'_1.1 hx
      rw [Bool.eq_iff_iff, hl, Bool.not_eq_true', List.contains_eq_mem, decide_eq_false_iff_not]
      exact ⟨fun h => h.2, fun h => ⟨by omega, h⟩⟩
    unfold rowS rowsR
    rw [hb, findSome_filter, List.find?_flatMap]
    refine findSome_congr fun x hx => ?_
    have hx := List.mem_range'_1.1 hx
    cases hc : s.contains x
    · simp only [Bool.not_false, if_true, Bool.true_and]
      split
      · refine rowS_find hn k (s ++ [x]) (clr left (pw x)) (fun y => ?_) (Nat.lt_of_le_of_lt Nat.and_le_left h7)
        rw [testBit_clr (by omega), Bool.and_eq_true, hl, Bool.not_eq_true', testBit_pw, decide_eq_false_iff_not, List.mem_append, List.mem_singleton]
        constructor
        · rintro ⟨⟨h1, h2⟩, h3⟩
          exact ⟨h1, fun h => h.elim h2 fun h => h3 h.symm⟩
        · rintro ⟨h1, h2⟩
          exact ⟨⟨h1, fun h => h2 (.inl h)⟩, fun h => h2 (.inr h.symm)⟩
      · rfl
    · simp only [Bool.not_true, Bool.false_eq_true, if_false, Bool.false_and]
      rfl
end
end Go.Proofs.Ytnlebofipoepfaa.Code
end
