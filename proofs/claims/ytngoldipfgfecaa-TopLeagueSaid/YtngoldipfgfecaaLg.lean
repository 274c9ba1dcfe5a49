/-
  Part of the proofs about this chapter: contracts of functions, answers of calls, and plain laws.
-/
import Derived.Test.YtngoldipfgfecaaCs
import Derived.Test.YtngoldipfgfecaaPk
set_option linter.all false
section
namespace Go.Proofs.Ytngoldipfgfecaa.Code
open Go Go.Ab
variable {pure : Bool} {base bar : Nat} {H : Heap} {Q : AV → Heap → Prop}

/-! a list of pairs under construction, with other blocks behind it -/
def WPr (id : Nat) (v : AV) (l : List ZZ) (H : Heap) : Prop := (v = .nils ∧ l = []) ∨ ∃ ver, l ≠ [] ∧ v = .vec id ver 0 l.length 2 ∧ H[id]? = some (.row ver (prs l) 0 false)
theorem lt_of_get' {H : Heap} {i : Nat} {b : Blk} (h : H[i]? = some b) : i < H.length := by
  rcases Nat.lt_or_ge i H.length with h' | h'
  · exact h'
  · rw [List.getElem?_eq_none h'] at h; cases h
theorem appP {id : Nat} {v : AV} {l : List ZZ} {p : ZZ} {ex : Bool} {K : AV → Heap → List Nat → Prop} (h : WPr id v l H) (hid : v = .nils ∨ (bar ≤ id ∧ base ≤ id)) (hl : l.length < 100000)
    (hK : ∀ v' H' tc id', WPr id' v' (l ++ [p]) H' → (id' = id ∧ v ≠ .nils ∨ id' = H.length) → H.length ≤ H'.length → (∀ i, i ≠ id' → i < H.length → H'[i]? = H[i]?) → id' < H'.length → v'.isTup = false → v'.cells = [v'] → K v' H' tc) :
    appWp base bar 2 16 (some v) (some (.lst 2 ex [.agg [.int .i64 p.1, .int .i64 p.2]])) H K := by
  have e : asrc H 2 (.lst 2 ex [.agg [.int .i64 p.1, .int .i64 p.2]]) = some [.int .i64 p.1, .int .i64 p.2] := by rw [asrc_lst]; rfl
  rcases h with ⟨rfl, rfl⟩ | ⟨ver, hne, rfl, h2⟩
  · simp [appWp, e, go_sem, aappend, AV.noVec.noVecs, AV.noVec]
    refine hK _ _ _ H.length (.inr ⟨0, by simp, rfl, by simp [prs, zc]⟩) (.inr rfl) (by simp) (fun i _ hi => ?_) (by simp) rfl rfl
    rw [List.getElem?_append_left hi]
  · have hidl := lt_of_get' h2
    have hb : bar ≤ id ∧ base ≤ id := by
      rcases hid with h | h
      · cases h
      · exact h
    have hpl := prs_length (l := l)
    have hcs : (prs l).take (l.length * 2) = prs l := List.take_of_length_le (by rw [hpl]; omega)
    have hnew : prs l ++ [AV.int .i64 p.1, AV.int .i64 p.2] = prs (l ++ [p]) := by rw [prs_append, prs_one]; rfl
    have hg := fun tc => hK (.vec id (ver + 1) 0 (l.length + 1) 2) (H.set id (.row (ver + 1) (prs (l ++ [p])) 0 false)) tc id (.inr ⟨ver + 1, by simp, by simp, by rw [List.getElem?_set_self hidl]⟩) (.inl ⟨rfl, by simp⟩) (by simp)
      (fun i h1 _ => by rw [List.getElem?_set_ne (Ne.symm h1)]) (by simpa using hidl) rfl rfl
    have h1 : ¬ (prs l).length < l.length * 2 := by rw [hpl]; omega
    have h3 : ¬ 140737488355328 < (l.length + 1) * 16 := by omega
    have h4 : ¬ (l.length + 1) * 2 ≤ (prs l).length := by rw [hpl]; omega
    simp [appWp, e, go_sem, aappend, AV.noVec.noVecs, AV.noVec, h2, hb, h1, h3, h4, hcs, hnew]
    exact hg _

/-- the heap while games are made: the contest's block, the slice's, and others behind -/
structure GH (H0 H : Heap) (id n : Nat) (v : AV) (l : List ZZ) : Prop where
  tk : H.take (H0.length + 1) = H0 ++ [.row 0 [.int .i64 0, .nils] 0 true]
  ct : H[H0.length + 1]? = some (.row 0 [.int .i64 (n : Nat), v] 0 true)
  win : WPr id v l H
  wid : v = .nils ∨ H0.length + 1 < id
theorem GH.len {H0 H : Heap} {id n : Nat} {v : AV} {l : List ZZ} (h : GH H0 H id n v l) : H0.length + 1 < H.length := lt_of_get' h.ct
theorem GH.more {H0 H : Heap} {id n : Nat} {v : AV} {l : List ZZ} (h : GH H0 H id n v l) {b : Blk} : GH H0 (H ++ [b]) id n v l := by
  have hl := h.len
  refine ⟨by rw [List.take_append_of_le_length (by omega)]; exact h.tk, by rw [List.getElem?_append_left hl]; exact h.ct, ?_, h.wid⟩
  rcases h.win with hw | ⟨ver, h1, h2, h3⟩
  · exact .inl hw
  · exact .inr ⟨ver, h1, h2, by rw [List.getElem?_append_left (lt_of_get' h3)]; exact h3⟩
theorem GH.app {H0 H H' : Heap} {id id' n : Nat} {v v' : AV} {l l' : List ZZ} (h : GH H0 H id n v l) (hw : WPr id' v' l' H') (hi : id' = id ∧ v ≠ .nils ∨ id' = H.length) (hk : ∀ i, i ≠ id' → i < H.length → H'[i]? = H[i]?) :
    GH H0 (H'.set (H0.length + 1) (.row 0 [.int .i64 (n : Nat), v'] 0 true)) id' n v' l' := by
  have hl := h.len
  have hid : H0.length + 1 < id' := by
    rcases hi with ⟨rfl, hv⟩ | rfl
    · rcases h.wid with h' | h'
      · exact absurd h' hv
      · exact h'
    · exact hl
  have hc : H'[H0.length + 1]? = some (.row 0 [.int .i64 (n : Nat), v] 0 true) := by rw [hk _ (by omega) hl]; exact h.ct
  refine ⟨?_, by rw [List.getElem?_set_self (lt_of_get' hc)], ?_, .inr hid⟩
  · rw [List.take_set_of_le (by omega), ← h.tk]
    apply List.ext_getElem?
    intro i
    rw [List.getElem?_take, List.getElem?_take]
    split
    · exact hk i (by omega) (by omega)
    · rfl
  · rcases hw with hw | ⟨ver, h1, h2, h3⟩
    · exact .inl hw
    · exact .inr ⟨ver, h1, h2, by rw [List.getElem?_set_ne (by omega)]; exact h3⟩

theorem shr_u32 {a b : Nat} (hb : b < 32) : abin .shr (.int .u32 (a : Int)) (.int .i64 (b : Int)) = some (.int .u32 ((a / 2 ^ b : Nat) : Int)) := by
  simp only [abin]
  rw [if_neg (by omega)]
  simp only [Int.toNat_natCast, show IntKind.u32.bits = 32 from rfl]
  congr 2
  rw [Nat.min_eq_left (by omega), show (2 : Int) ^ b = ((2 ^ b : Nat) : Int) by simp, Int.fdiv_eq_ediv_of_nonneg _ (Int.natCast_nonneg _)]
  exact (Int.natCast_ediv _ _).symm
theorem and_u32_one {a : Nat} (ha : a < 4294967296) : abin .and (.int .u32 a) (.int .u32 1) = some (.int .u32 ((a % 2 : Nat) : Int)) := by
  have e : (BitVec.ofInt 32 (a : Int) &&& BitVec.ofInt 32 ((1 : Nat) : Int)).toNat = a % 2 := by
    rw [BitVec.toNat_and, ofInt_toNat (w := 32) ha, ofInt_toNat (w := 32) (by omega), Nat.and_one_is_mod]
  simp only [abin, binInt, if_true]
  rw [show IntKind.u32.bits = 32 from rfl]
  have e' : (BitVec.ofInt 32 (a : Int) &&& BitVec.ofInt 32 (1 : Int)).toNat = a % 2 := e
  rw [e', Go.IntWalk.u32_in _ (by omega)]
theorem store2 {H : Heap} {x y a b : Int} {K : AV → Heap → List Nat → Prop} (hb : bar ≤ H.length) : storeWp base bar 2 (.ptr H.length 0 0) (.agg [.int .i64 x, .int .i64 y]) (H ++ [.row 0 [.int .i64 a, .int .i64 b] 0 true]) K = K (.tup []) (H ++ [.row 0 [.int .i64 x, .int .i64 y] 0 true]) [H.length] := by
  rw [storeWp_ptr (size := 2) (ver := 0) (cs := [.int .i64 a, .int .i64 b]) (fz := 0) (ex := true) (by simp) rfl rfl (Nat.zero_le _) (by simp) hb (.inr (by simp [AV.cells, tops_cons, tops_nil, top_int]))]
  simp [AV.cells, setCells]
theorem aload2 {H : Heap} {x y : Int} : aload (H ++ [.row 0 [.int .i64 x, .int .i64 y] 0 true]) ⟨true, 2⟩ (.ptr H.length 0 0) = some (.agg [.int .i64 x, .int .i64 y]) := by
  rw [aload_ptr (ver := 0) (cs := [.int .i64 x, .int .i64 y]) (fz := 0) (ex := true) (by simp)]; rfl
theorem l6a {H0 : Heap} {n bits a : Nat} (hbits : bits < 4294967296) (hn : n ≤ 7) (ha : a < n) (hbar : bar ≤ H0.length) (hbase : base ≤ H0.length) {R : PQ} :
    ∀ (k b : Nat), b + k = a → ∀ (l : List ZZ) (f : Nat → Nat → Bool) (id : Nat) (v : AV) (H : Heap), MadeTo n bits a b l f → GH H0 H id n v l →
    (∀ l' f' id' v' H', MadeTo n bits a a l' f' → GH H0 H' id' n v' l' →
      R (.exit 2) [(1, .int .u32 (bits : Nat)), (4, .ptr H0.length 0 0), (5, .ptr (H0.length + 1) 0 0), (6, .int .i64 ((tri a + a : Nat) : Int)), (16, .int .i64 (n : Nat)), (17, .int .i64 (a : Nat)), (7, .int .i64 (a : Nat)), (20, .int .i64 (a : Nat)), (21, .int .i64 (a : Nat)), (22, .bool false)] H') →
    Wp E base bar (.loop c6_l0) [(1, .int .u32 (bits : Nat)), (4, .ptr H0.length 0 0), (5, .ptr (H0.length + 1) 0 0), (6, .int .i64 ((tri a + b : Nat) : Int)), (16, .int .i64 (n : Nat)), (17, .int .i64 (a : Nat)), (7, .int .i64 (a : Nat)), (20, .int .i64 (a : Nat)), (21, .int .i64 (b : Nat))] H R := by
  intro k
  induction k with
  | zero =>
    intro b hb l f id v H hm g h
    obtain rfl : b = a := by omega
    rw [wp_round c6_l0.eq_1]
    simp [go_sem]
    exact_mod_cast h l f id v H hm g
  | succ k ih =>
    intro b hb l f id v H hm g h
    have hlt : b < a := by omega
    have hll := hm.len
    have ht : tri a + b < 28 := (by decide : ∀ a, a < 7 → ∀ b, b < a → tri a + b < 28) a (by omega) b hlt
    have hgl := g.len
    have e1 := shr_u32 (a := bits) (b := tri a + b) (by omega)
    have e2 := and_u32_one (a := bits / 2 ^ (tri a + b)) (Nat.lt_of_le_of_lt (Nat.div_le_self _ _) hbits)
    have hbit : bits / 2 ^ (tri a + b) % 2 = (bits.testBit (tri a + b)).toNat := (Nat.toNat_testBit ..).symm
    rw [hbit] at e2
    generalize bits / 2 ^ (tri a + b) = sh at *
    have key : ∀ x y : Nat, ((bits.testBit (tri a + b) = true ∧ x = b ∧ y = a) ∨ (bits.testBit (tri a + b) = false ∧ x = a ∧ y = b)) → ∀ id' v' H', GH H0 H' id' n v' (l ++ [((x : Int), (y : Int))]) →
        Wp E base bar (.loop c6_l0) [(1, .int .u32 (bits : Nat)), (4, .ptr H0.length 0 0), (5, .ptr (H0.length + 1) 0 0), (6, .int .i64 (((tri a + b : Nat) : Int) + 1)), (16, .int .i64 (n : Nat)), (17, .int .i64 (a : Nat)), (7, .int .i64 (a : Nat)), (20, .int .i64 (a : Nat)), (21, .int .i64 ((b : Int) + 1))] H' R := fun x y hxy id' v' H' g' => by
      have := ih (b + 1) (by omega) _ _ id' v' H' (hm.put hlt ha hxy) g' h
      exact this
    have hbH : bar ≤ H.length := by omega
    have e3 : IntKind.i64.wrap (((tri a + b : Nat) : Int) + 1) = ((tri a + b : Nat) : Int) + 1 := Go.IntWalk.i64_in _ (by omega)
    generalize tri a + b = T at *
    have fin : ∀ x y : Nat, ((bits.testBit T = true ∧ x = b ∧ y = a) ∨ (bits.testBit T = false ∧ x = a ∧ y = b)) → ∀ (K : AV → Heap → List Nat → Prop),
        (∀ id' v' H' tc, v'.isTup = false → v'.cells = [v'] → H'[H0.length + 1]? = some (.row 0 [.int .i64 (n : Nat), v] 0 true) → GH H0 (H'.set (H0.length + 1) (.row 0 [.int .i64 (n : Nat), v'] 0 true)) id' n v' (l ++ [((x : Int), (y : Int))]) → K v' H' tc) →
        appWp base bar 2 16 (some v) (some (.lst 2 true [.agg [.int .i64 (x : Int), .int .i64 (y : Int)]])) (H ++ [.row 0 [.int .i64 (x : Int), .int .i64 (y : Int)] 0 true]) K := fun x y hxy K hK => by
      have g1 := g.more (b := .row 0 [.int .i64 (x : Int), .int .i64 (y : Int)] 0 true)
      refine appP (p := ((x : Int), (y : Int))) g1.win (by
        rcases g1.wid with h | h
        · exact .inl h
        · exact .inr ⟨by omega, by omega⟩) (by omega) fun v' H' tc id' q1 q2 q3 q4 q5 q6 q7 => ?_
      have g2 := g1.app q1 q2 q4
      refine hK id' v' H' tc q6 q7 ?_ g2
      have hc := g1.ct
      have hne : H0.length + 1 ≠ id' := by
        rcases q2 with ⟨rfl, hv⟩ | rfl
        · rcases g1.wid with h' | h'
          · exact absurd h' hv
          · omega
        · simp; omega
      rw [q4 _ hne (lt_of_get' hc)]; exact hc
    have lv : ∀ {bk : Blk}, aload (H ++ [bk]) ⟨false, 1⟩ (.ptr (H0.length + 1) 0 1) = some v := fun {bk} => by
      rw [aload_ptr (by rw [List.getElem?_append_left hgl]; exact g.ct)]; rfl
    rw [wp_round c6_l0.eq_1]
    cases hc : bits.testBit T
    · rw [hc] at e2
      simp [go_sem, hlt, e1, aop, fillA, setCells, chunks]
      rw [store2 hbH]
      simp [go_sem, e1, e2, lv, aload2, aop, fillA, setCells, chunks]
      refine fin a b (.inr ⟨hc, rfl, rfl⟩) _ fun id' v' H' tc s1 s2 hct g' => ?_
      simp [go_sem]
      rw [storeWp_ptr (size := 1) hct s1 (by rw [s2]; rfl) (by omega) (by simp) (by omega) (.inl (by omega))]
      simp [go_sem, s2, setCells, e3, i64_suc (show b < 1000000 by omega)]
      exact key a b (.inr ⟨hc, rfl, rfl⟩) id' v' _ g'
    · rw [hc] at e2
      simp [go_sem, hlt, e1, aop, fillA, setCells, chunks]
      rw [store2 hbH]
      simp [go_sem, e1, e2, aop, fillA, setCells, chunks]
      rw [store2 hbH]
      simp [go_sem, lv, aload2, aop, fillA, setCells, chunks]
      refine fin b a (.inl ⟨hc, rfl, rfl⟩) _ fun id' v' H' tc s1 s2 hct g' => ?_
      simp [go_sem]
      rw [storeWp_ptr (size := 1) hct s1 (by rw [s2]; rfl) (by omega) (by simp) (by omega) (.inl (by omega))]
      simp [go_sem, s2, setCells, e3, i64_suc (show b < 1000000 by omega)]
      exact key b a (.inl ⟨hc, rfl, rfl⟩) id' v' _ g'

theorem storeAg {id : Nat} {ex : Bool} {x y a b : AV} {K : AV → Heap → List Nat → Prop} (h : H[id]? = some (.row 0 [a, b] 0 ex)) (hb : bar ≤ id) (hbs : base ≤ id ∨ AV.top.tops [x, y] ≤ id + 1) (hy : y.isTup = false) (_ : y.cells = [y]) (_ : x.isTup = x.isTup) :
    storeWp base bar 2 (.ptr id 0 0) (.agg [x, y]) H K = K (.tup []) (H.set id (.row 0 [x, y] 0 ex)) [id] := by
  rw [storeWp_ptr (size := 2) h rfl rfl (Nat.zero_le _) (by simp) hb (by simpa [AV.cells] using hbs)]
  simp [AV.cells, setCells]
theorem l6 {H0 : Heap} {n bits : Nat} (hbits : bits < 4294967296) (hn : n ≤ 7) (hbar : bar ≤ H0.length) (hbase : base ≤ H0.length) {R : PQ} :
    ∀ (k a : Nat), a + k = n → ∀ (l : List ZZ) (f : Nat → Nat → Bool) (id : Nat) (v : AV) (H : Heap), MadeTo n bits a 0 l f → GH H0 H id n v l →
    (∀ l' f' id' v' H', MadeTo n bits n 0 l' f' → GH H0 H' id' n v' l' →
      R (.exit 0) [(1, .int .u32 (bits : Nat)), (4, .ptr H0.length 0 0), (5, .ptr (H0.length + 1) 0 0), (6, .int .i64 ((tri n : Nat) : Int)), (16, .int .i64 (n : Nat)), (17, .int .i64 (n : Nat)), (18, .bool false)] H') →
    Wp E base bar (.loop c6_l1) [(1, .int .u32 (bits : Nat)), (4, .ptr H0.length 0 0), (5, .ptr (H0.length + 1) 0 0), (6, .int .i64 ((tri a : Nat) : Int)), (16, .int .i64 (n : Nat)), (17, .int .i64 (a : Nat))] H R := by
  intro k
  induction k with
  | zero =>
    intro a ha l f id v H hm g h
    obtain rfl : a = n := by omega
    rw [wp_round c6_l1.eq_1]
    simp [go_sem]
    exact h l f id v H hm g
  | succ k ih =>
    intro a ha l f id v H hm g h
    have hlt : a < n := by omega
    rw [wp_round c6_l1.eq_1]
    simp [go_sem, hlt]
    refine l6a hbits hn hlt hbar hbase a 0 (by omega) l f id v H hm g fun l' f' id' v' H' hm' g' => ?_
    have := ih (a + 1) (by omega) l' f' id' v' H' hm'.next g' h
    simp [go_sem, i64_suc (show a < 1000000 by omega)]
    simpa [tri] using this
/-- 6: a contest by numbers -/
theorem k6 {p bits n : Nat} (hp : p < 256) (hbits : bits < 4294967296) (hn : n = 1 + p % 7) (hbar : bar ≤ H.length) (h : ∀ l f q, MadeC n bits l f → isP q l → Q (.agg [.int .i64 (n : Nat), q]) H) : WpCall E pure base bar 6 [.int .u8 (p : Nat), .int .u32 (bits : Nat)] H Q := by
  have e1 : frzAll bar H [.int .u8 (p : Nat), .int .u32 (bits : Nat)] = some ([.int .u8 (p : Nat), .int .u32 (bits : Nat)], H) := rfl
  have e2 : IntKind.i64.wrap (p : Int) = (p : Int) := i64_nat (by omega)
  have e3 : abin .rem (.int .i64 (p : Int)) (.int .i64 7) = some (.int .i64 ((p % 7 : Nat) : Int)) := by
    show some (AV.int .i64 ((p : Int).tmod 7)) = _
    rw [Int.tmod_eq_emod_of_nonneg (by omega)]; rfl
  have hp7 : p % 7 < 7 := Nat.mod_lt _ (by decide)
  generalize p % 7 = pm at *
  have e4 : IntKind.i64.wrap (1 + (pm : Int)) = (n : Int) := by
    rw [Go.IntWalk.i64_in _ (by omega)]; omega
  obtain ⟨bar', hbar', hb'⟩ : ∃ bar', bar' = (if pure = true then H.length else bar) ∧ bar' ≤ H.length := ⟨_, rfl, by split <;> omega⟩
  rw [call6, e1]
  simp [go_sem, WpFun, c6, e2, e3, e4, aop, fillA, setCells]
  rw [← hbar']
  rw [storeAg (a := .int .i64 0) (b := .nils) (ex := true) (by simp) (by omega) (.inl (by omega)) rfl rfl rfl]
  simp [go_sem]
  obtain ⟨H1, hH1⟩ : ∃ H1, H1 = H ++ [Blk.row 0 [.int .i64 0, .nils] 0 true, Blk.row 0 [.int .i64 (n : Int), .nils] 0 true] := ⟨_, rfl⟩
  rw [← hH1]
  have g1 : GH H H1 0 n .nils [] := ⟨by
    rw [hH1, show H ++ [Blk.row 0 [.int .i64 0, .nils] 0 true, Blk.row 0 [.int .i64 (n : Int), .nils] 0 true] = (H ++ [Blk.row 0 [.int .i64 0, .nils] 0 true]) ++ [Blk.row 0 [.int .i64 (n : Int), .nils] 0 true] by simp,
      List.take_append_of_le_length (by simp), List.take_of_length_le (by simp)], by rw [hH1]; simp, .inl ⟨rfl, rfl⟩, .inl rfl⟩
  have ln : aload H1 ⟨false, 1⟩ (.ptr (H.length + 1) 0 0) = some (.int .i64 (n : Int)) := by rw [aload_ptr g1.ct]; rfl
  simp [go_sem, ln]
  refine l6 (H0 := H) (n := n) hbits (by omega) hb' (Nat.le_refl _) n 0 (by omega) [] _ 0 .nils H1 MadeTo.zero g1 fun l f id v H2 hm g => ?_
  have hmc : MadeC n bits l f := hm.done (by omega) (by omega)
  have lc : aload H2 ⟨true, 2⟩ (.ptr (H.length + 1) 0 0) = some (.agg [.int .i64 (n : Int), v]) := by rw [aload_ptr g.ct]; rfl
  have hl2 := g.len
  have h0 : H2[H.length]? = some (.row 0 [.int .i64 0, .nils] 0 true) := by
    have := congrArg (fun X => X[H.length]?) g.tk
    simpa using this
  have hv : v.isTup = false ∧ v.cells = [v] := by
    rcases g.win with ⟨rfl, _⟩ | ⟨_, _, rfl, _⟩ <;> exact ⟨rfl, rfl⟩
  simp [go_sem, lc]
  rw [storeAg h0 (by omega) (.inl (by omega)) hv.1 hv.2 rfl]
  simp [go_sem]
  obtain ⟨H3, hH3⟩ : ∃ H3, H3 = H2.set H.length (.row 0 [.int .i64 (n : Int), v] 0 true) := ⟨_, rfl⟩
  rw [← hH3]
  have l3 : aload H3 ⟨true, 2⟩ (.ptr H.length 0 0) = some (.agg [.int .i64 (n : Int), v]) := by
    rw [aload_ptr (by rw [hH3, List.getElem?_set_self (by omega)])]; rfl
  have t3 : H3.take H.length = H := by
    rw [hH3, List.take_set_of_le (Nat.le_refl _)]
    have := congrArg (List.take H.length) g.tk
    rw [List.take_take, Nat.min_eq_left (by omega)] at this
    rw [this]; simp
  have w3 : WPr id v l H3 := by
    rcases g.win with hw | ⟨ver, q1, q2, q3⟩
    · exact .inl hw
    · have hid : H.length + 1 < id := by
        rcases g.wid with h' | h'
        · subst h'; cases q2
        · exact h'
      exact .inr ⟨ver, q1, q2, by rw [hH3, List.getElem?_set_ne (by omega)]; exact q3⟩
  obtain ⟨H4, f1, f2⟩ : ∃ H4, frz 7 bar' H3 v = some (outL 2 (prs l), H4) ∧ H4.take H.length = H := by
    rcases w3 with ⟨rfl, rfl⟩ | ⟨ver, q1, rfl, q3⟩
    · exact ⟨H3, rfl, t3⟩
    · have hid : H.length + 1 < id := by
        rcases g.wid with h' | h'
        · cases h'
        · exact h'
      refine ⟨H3.set id (.row ver (prs l) (max 0 (0 + l.length * 2)) false), ?_, by rw [List.take_set_of_le (by omega), t3]⟩
      have hpl := prs_length (l := l)
      rw [frz_vec (xs := prs l) (H' := H3.set id (.row ver (prs l) (max 0 (0 + l.length * 2)) false)) q3 (by rw [hpl]; omega) (by omega) (by
        rw [List.drop_zero, List.take_of_length_le (by rw [hpl]; omega), plains (d := 4) prs_plain])]
      unfold outL
      rw [if_neg (by rw [prs_eq_nil]; exact q1), hpl, show 2 * l.length / 2 = l.length by omega]
  have ho : isP (outL 2 (prs l)) l := isP.out
  simp [go_sem, l3, f1, f2, ho.top]
  exact h l f _ hmc ho
end Go.Proofs.Ytngoldipfgfecaa.Code
end

section
namespace Go.Proofs.Ytngoldipfgfecaa.Code
open Go Go.Ab
variable {pure : Bool} {base bar : Nat} {H : Heap} {Q : AV → Heap → Prop}

/-- how many have a score -/
def cntS (s : List Nat) (a : Nat) : Nat := (s.filter fun x => x == a).length
theorem l3a {n a : Nat} {sv v1 v2 : AV} {s : List Nat} (hsv : isL sv s) (hl : s.length ≤ 100) {R : PQ} :
    ∀ (k i : Nat), i + k = s.length →
    R (.exit 2) [(6, .int .i64 (n : Nat)), (7, sv), (9, v1), (10, v2), (11, .int .i64 (a : Nat)), (12, .int .i64 (cntS s a : Nat)), (54, sv), (55, .int .i64 (s.length : Nat)), (56, .int .i64 (s.length : Nat)), (57, .bool false)] H →
    Wp E base bar (.loop c3_l0) [(6, .int .i64 (n : Nat)), (7, sv), (9, v1), (10, v2), (11, .int .i64 (a : Nat)), (12, .int .i64 (cntS (s.take i) a : Nat)), (54, sv), (55, .int .i64 (s.length : Nat)), (56, .int .i64 (i : Nat))] H R := by
  intro k
  induction k with
  | zero =>
    intro i hi h
    obtain rfl : i = s.length := by omega
    rw [wp_round c3_l0.eq_1]
    simp [go_sem]
    exact h
  | succ k ih =>
    intro i hi h
    have hlt : i < s.length := by omega
    have i1 := fun (H : Heap) (K : AV → Heap → List Nat → Prop) => hsv.ix (H := H) (K := K) (k := .i64) hlt
    have hst : cntS (s.take (i + 1)) a = cntS (s.take i) a + if s[i] = a then 1 else 0 := by
      unfold cntS
      rw [List.take_add_one, List.getElem?_eq_getElem hlt, Option.toList_some, List.filter_append, List.length_append]
      congr 1
      by_cases he : s[i] = a <;> simp [he]
    have hcl : cntS (s.take i) a ≤ 100 := by
      have := List.length_filter_le (fun x => x == a) (s.take i)
      unfold cntS
      rw [List.length_take] at this; omega
    have next := ih (i + 1) (by omega) h
    rw [hst] at next
    generalize s[i] = x at *
    generalize cntS (s.take i) a = c at *
    rw [wp_round c3_l0.eq_1]
    simp [go_sem, hlt]
    rw [i1]
    by_cases he : x = a
    · rw [if_pos he] at next
      have he' : (x : Int) = (a : Int) := by omega
      simp [go_sem, he', i64_suc (show i < 1000000 by omega), i64_suc (show c < 1000000 by omega)]
      exact next
    · rw [if_neg he] at next
      have he' : ¬ (x : Int) = (a : Int) := by omega
      simp [go_sem, he', i64_suc (show i < 1000000 by omega)]
      exact next
/-- the sizes, and how many of each -/
def szL (s : List Nat) (a : Nat) : List Nat := (List.range' 1 (a - 1)).filter fun x => decide (0 < cntS s x)
theorem szL_succ {s : List Nat} {a : Nat} (h : 1 ≤ a) : szL s (a + 1) = if 0 < cntS s a then szL s a ++ [a] else szL s a := by
  unfold szL
  rw [show a + 1 - 1 = (a - 1) + 1 by omega, List.range'_concat, List.filter_append, show 1 + 1 * (a - 1) = a by omega]
  by_cases hc : 0 < cntS s a <;> simp [hc]
theorem szL_len {s : List Nat} {a : Nat} : (szL s a).length ≤ a - 1 := Nat.le_trans (List.length_filter_le _ _) (by simp)
/-- two lists under construction -/
structure TwoL (H : Heap) (i1 i2 : Nat) (v1 v2 : AV) (xs ys : List Nat) : Prop where
  w1 : Pk.WL i1 v1 xs H
  w2 : Pk.WL i2 v2 ys H
  dif : v1 = .nils ∧ v2 = .nils ∨ i1 ≠ i2
theorem l3b {n : Nat} {sv : AV} {s : List Nat} (hsv : isL sv s) (hl : s.length = n) (hn : n ≤ 7) {R : PQ} (hbar : bar = 0) (hbase : base = 0) :
    ∀ (k a : Nat), a + k = n → 1 ≤ a → ∀ (i1 i2 : Nat) (v1 v2 : AV) (H : Heap), TwoL H i1 i2 v1 v2 (szL s a) ((szL s a).map (cntS s)) →
    (∀ i1' i2' v1' v2' H', TwoL H' i1' i2' v1' v2' (szL s n) ((szL s n).map (cntS s)) → R (.exit 0) [(6, .int .i64 (n : Nat)), (7, sv), (9, v1'), (10, v2'), (11, .int .i64 (n : Nat)), (51, .bool false)] H') →
    Wp E base bar (.loop c3_l1) [(6, .int .i64 (n : Nat)), (7, sv), (9, v1), (10, v2), (11, .int .i64 (a : Nat))] H R := by
  intro k
  induction k with
  | zero =>
    intro a ha h1 i1 i2 v1 v2 H hT h
    obtain rfl : a = n := by omega
    rw [wp_round c3_l1.eq_1]
    simp [go_sem]
    exact h i1 i2 v1 v2 H hT
  | succ k ih =>
    intro a ha h1 i1 i2 v1 v2 H hT h
    have hlt : a < n := by omega
    have hsl := szL_len (s := s) (a := a)
    have next := fun i1 i2 v1 v2 H hT => ih (a + 1) (by omega) (by omega) i1 i2 v1 v2 H hT h
    rw [szL_succ h1] at next
    rw [wp_round c3_l1.eq_1]
    simp [go_sem, hlt, hsv.len]
    refine l3a (a := a) hsv (by omega) s.length 0 (by omega) ?_
    by_cases hc : 0 < cntS s a
    · rw [if_pos hc, List.map_append] at next
      simp only [List.map_cons, List.map_nil] at next
      have hc' : (0 : Int) < (cntS s a : Nat) := by omega
      generalize cntS s a = cc at *
      simp [go_sem, hc, aop, fillA, setCells, chunks]
      refine Pk.appW hT.w1 (.inr ⟨by omega, by omega⟩) (by omega) fun v1' H1 tc id1 p1 p2 p3 p4 p5 => ?_
      have q2 : Pk.WL i2 v2 ((szL s a).map (cntS s)) H1 ∧ (v2 ≠ .nils → i2 < H.length ∧ i2 ≠ id1) := by
        rcases hT.w2 with ⟨e1, e2⟩ | ⟨ver, off, cs, e1, e2, e3⟩
        · exact ⟨.inl ⟨e1, e2⟩, fun h => absurd e1 h⟩
        · have hl2 := lt_of_get' e2
          have hd : i1 ≠ i2 := by
            rcases hT.dif with ⟨_, h⟩ | h
            · rw [h] at e1; cases e1
            · exact h
          have hne : i2 ≠ id1 := by
            rcases p2 with ⟨rfl, _⟩ | rfl
            · exact Ne.symm hd
            · omega
          exact ⟨.inr ⟨ver, off, cs, e1, by rw [p4 _ hne hl2]; exact e2, e3⟩, fun _ => ⟨hl2, hne⟩⟩
      simp [go_sem, aop, fillA, setCells, chunks]
      refine Pk.appW q2.1 (.inr ⟨by omega, by omega⟩) (by rw [List.length_map]; omega) fun v2' H2 tc2 id2 r1 r2 r3 r4 r5 => ?_
      have hne : id1 ≠ id2 := by
        rcases r2 with ⟨rfl, hv⟩ | rfl
        · exact Ne.symm (q2.2 hv).2
        · omega
      simp [go_sem, i64_suc (show a < 1000000 by omega)]
      exact next id1 id2 v1' v2' H2 ⟨p1.mono (r4 _ hne p5), r1, .inr hne⟩
    · rw [if_neg hc] at next
      have hc0 : cntS s a = 0 := by omega
      simp [go_sem, hc0, i64_suc (show a < 1000000 by omega)]
      exact next i1 i2 v1 v2 H hT
end Go.Proofs.Ytngoldipfgfecaa.Code
end

section
namespace Go.Proofs.Ytngoldipfgfecaa.Code
open Go Go.Ab
variable {pure : Bool} {base bar : Nat} {H : Heap} {Q : AV → Heap → Prop}

/-- a list of one's own that is read, and frozen now and then -/
def RO (id : Nat) (v : AV) (w : List Nat) (H : Heap) : Prop := ∃ ver off cs fz ex, v = .vec id ver off w.length 1 ∧ H[id]? = some (.row ver cs fz ex) ∧ off + w.length ≤ cs.length ∧ (cs.drop off).take w.length = nats w ∧ w ≠ []
theorem RO.of {id : Nat} {v : AV} {w : List Nat} (h : Pk.WL id v w H) (hw : w ≠ []) : RO id v w H := by
  rcases h with ⟨_, h⟩ | ⟨ver, off, cs, h1, h2, h3, h4⟩
  · exact absurd h hw
  · exact ⟨ver, off, cs, 0, false, h1, h2, h3, h4, hw⟩
theorem RO.len {id : Nat} {v : AV} {w : List Nat} {K : AV → Heap → List Nat → Prop} {H' : Heap} (h : RO id v w H) : lenWp (some v) H' K = K (.int .i64 (w.length : Int)) H' [] := by
  obtain ⟨ver, off, cs, fz, ex, rfl, _⟩ := h; rfl
theorem RO.ix {id : Nat} {v : AV} {w : List Nat} (h : RO id v w H) {i : Nat} (hi : i < w.length) : ∃ ver off, (∀ {k : IntKind} {H' : Heap} {K : AV → Heap → List Nat → Prop}, ixaSWp 1 (some v) (some (.int k (i : Int))) H' K = K (.ptr id ver off) H' []) ∧ aload H ⟨false, 1⟩ (.ptr id ver off) = some (.int .i64 ((w[i] : Nat) : Int)) := by
  obtain ⟨ver, off, cs, fz, ex, rfl, h2, h3, h4, _⟩ := h
  refine ⟨ver, off + i, fun {k H' K} => by simp [go_sem, hi], ?_⟩
  rw [aload_ptr h2, part_one]
  have := congrArg (fun l => l[i]?) h4
  simp only [List.getElem?_take, hi, if_true, List.getElem?_drop] at this
  rw [this, nats_get hi]
theorem RO.frz {id d : Nat} {v : AV} {w : List Nat} (h : RO id v w H) (hb : bar ≤ id) : ∃ v' H', Ab.frz (d + 3) bar H v = some (v', H') ∧ isL v' w ∧ ∀ i u x, RO i u x H → RO i u x H' := by
  obtain ⟨ver, off, cs, fz, ex, rfl, h2, h3, h4, hw⟩ := h
  have hl := lt_of_get' h2
  refine ⟨.lst 1 false (nats w), H.set id (.row ver cs (max fz (off + w.length * 1)) ex), ?_, isL.lst, fun i u x hx => ?_⟩
  · have e := frz_vec (d := d + 2) (bar := bar) (len := w.length) (off := off) (sz := 1) (xs := nats w) (H' := H.set id (.row ver cs (max fz (off + w.length * 1)) ex)) h2 (by omega) hb (by
      rw [Nat.mul_one, h4, plains nats_plain])
    rw [e]
    have := chunks_one (l := nats w)
    rw [nats_length] at this
    rw [this]
  · obtain ⟨ver', off', cs', fz', ex', q1, q2, q3⟩ := hx
    by_cases hi : i = id
    · subst hi
      rw [h2] at q2
      cases q2
      exact ⟨ver, off', cs, _, ex, q1, List.getElem?_set_self hl, q3⟩
    · exact ⟨ver', off', cs', fz', ex', q1, by rw [List.getElem?_set_ne (fun e => hi e.symm)]; exact q2, q3⟩
theorem k9own {i1 i2 : Nat} {v1 v2 : AV} {xs ys : List Nat} (h1 : RO i1 v1 xs H) (h2 : RO i2 v2 ys H) (hs : Pk.Fit xs ys)
    (hQ : ∀ H', RO i1 v1 xs H' → RO i2 v2 ys H' → Q (.tup [outL 1 (nats (Pk.posL (Pk.waysG xs ys) 1001)), .int .i64 0]) H') : WpCall E false base 0 9 [v1, v2] H Q := by
  obtain ⟨u1, H1, e1, a1, p1⟩ := h1.frz (bar := 0) (d := 5) (Nat.zero_le _)
  obtain ⟨u2, H2, e2, a2, p2⟩ := (p1 _ _ _ h2).frz (bar := 0) (d := 5) (Nat.zero_le _)
  have k := Pk.k9 (pure := false) (base := base) (bar := 0) (H := H2) (Q := Q) a1 a2 hs (Nat.zero_le _) (hQ H2 (p2 _ _ _ (p1 _ _ _ h1)) (p2 _ _ _ (p1 _ _ _ h2)))
  have f1 : frzAll 0 H2 [u1, u2] = some ([u1, u2], H2) := by simp [frzAll, frz.frzs, frzsW, a1.frz, a2.frz]
  have f2 : frzAll 0 H [v1, v2] = some ([u1, u2], H2) := by simp [frzAll, frz.frzs, frzsW, e1, e2]
  rw [call9, f1] at k
  rw [call9, f2]
  exact k
theorem k10own {i1 i2 : Nat} {v1 v2 : AV} {xs ys : List Nat} {n : Nat} (h1 : RO i1 v1 xs H) (h2 : RO i2 v2 ys H) (hs : Pk.Fit xs ys) (hn : n ≤ 1000) (hfill : ∃ c, Pk.fitL ys c ∧ Pk.valL xs c = n ∧ c.sum ≤ 1000)
    (hQ : ∀ H' w c, RO i1 v1 xs H' → RO i2 v2 ys H' → isL w c → Pk.fitL ys c → Pk.valL xs c = n → (∀ c', Pk.fitL ys c' → Pk.valL xs c' = n → c.sum ≤ c'.sum) → Q (.tup [w, .int .i64 0]) H') : WpCall E false base 0 10 [v1, v2, .int .i64 (n : Nat)] H Q := by
  obtain ⟨u1, H1, e1, a1, p1⟩ := h1.frz (bar := 0) (d := 5) (Nat.zero_le _)
  obtain ⟨u2, H2, e2, a2, p2⟩ := (p1 _ _ _ h2).frz (bar := 0) (d := 5) (Nat.zero_le _)
  have hlen := hs.len
  have k := Pk.k10 (pure := false) (base := base) (bar := 0) (H := H2) (Q := Q) a1 a2 hs hn (Nat.zero_le _) (fun fls bys g1 g2 g3 g4 => by
    have low : ∀ c, Pk.fitL ys c → Pk.valL xs c = n → Pk.gz (fls 0) n ≤ (c.sum : Int) := fun c c1 c2 => by
      have hcl := Pk.fitL_len c1
      have := Pk.fill_low g2 g3 c 0 (by omega) ((Pk.fitsF_eq c 0 (by omega)).2 (by simpa using c1)) (by rw [Pk.valF_eq c 0 (by omega), List.drop_zero]; omega)
      rw [Pk.valF_eq c 0 (by omega), List.drop_zero, c2] at this
      exact this
    obtain ⟨c, c1, c2, c3⟩ := hfill
    have hlt : Pk.gz (fls 0) n < 1001 := by have := low c c1 c2; omega
    refine ⟨fun h => by omega, fun _ => ?_⟩
    obtain ⟨b1, b2, b3, b4⟩ := Pk.fill_take g2 g4 g3 xs.length 0 n (by omega) (Nat.le_refl _) hlt
    rw [Pk.valF_eq _ 0 (by omega), List.drop_zero] at b2
    rw [Pk.fitsF_eq _ 0 (by omega), List.drop_zero] at b1
    exact hQ H2 _ _ (p2 _ _ _ (p1 _ _ _ h1)) (p2 _ _ _ (p1 _ _ _ h2)) isL.out b1 b2 fun c' d1 d2 => by
      have := low c' d1 d2; omega)
  have f1 : frzAll 0 H2 [u1, u2, .int .i64 (n : Nat)] = some ([u1, u2, .int .i64 (n : Nat)], H2) := by simp [frzAll, frz.frzs, frzsW, a1.frz, a2.frz, frz_int]
  have f2 : frzAll 0 H [v1, v2, .int .i64 (n : Nat)] = some ([u1, u2, .int .i64 (n : Nat)], H2) := by simp [frzAll, frz.frzs, frzsW, e1, e2, frz_int]
  rw [call10, f1] at k
  rw [call10, f2]
  exact k
end Go.Proofs.Ytngoldipfgfecaa.Code
end

section
namespace Go.Proofs.Ytngoldipfgfecaa.Code
open Go Go.Ab
variable {pure : Bool} {base bar : Nat} {H : Heap} {Q : AV → Heap → Prop}

theorem mul_pred {D : Nat} (hD : D ≤ 1000) : IntKind.i64.wrap ((D : Int) - 1) = (D : Int) - 1 ∧ IntKind.i64.wrap ((D : Int) * ((D : Int) - 1)) = ((D * (D - 1) : Nat) : Int) := by
  refine ⟨Go.IntWalk.i64_in _ (by omega), ?_⟩
  have h1 : D * (D - 1) ≤ 1000 * 1000 := Nat.mul_le_mul hD (by omega)
  have h2 : (D : Int) * ((D : Int) - 1) = ((D * (D - 1) : Nat) : Int) := by
    cases D with
    | zero => rfl
    | succ k => rw [show ((k + 1 : Nat) : Int) - 1 = (k : Int) by omega, ← Int.natCast_mul]; rfl
  rw [h2, Go.IntWalk.i64_in _ (by omega)]
theorem quo_half {D : Nat} (hD : D ≤ 1000) : abin .quo (.int .i64 ((D * (D - 1) : Nat) : Int)) (.int .i64 2) = some (.int .i64 ((halfN D : Nat) : Int)) := by
  have h1 : D * (D - 1) ≤ 1000 * 1000 := Nat.mul_le_mul hD (by omega)
  show some (AV.int .i64 (IntKind.i64.wrap (((D * (D - 1) : Nat) : Int).tdiv 2))) = _
  have h2 : ((D * (D - 1) : Nat) : Int).tdiv 2 = ((halfN D : Nat) : Int) := by
    unfold halfN
    rw [Int.tdiv_eq_ediv_of_nonneg (by omega)]; rfl
  have h3 : halfN D ≤ 1000 * 1000 := Nat.le_trans (Nat.div_le_self _ _) h1
  rw [h2, Go.IntWalk.i64_in _ (by omega)]
def subL (ys c : List Nat) : List Nat := List.zipWith (· - ·) ys c
theorem l3c {n m x i0 tot i1 i2 : Nat} {sv v1 v2 av lw mw : AV} {xs ys l c : List Nat} (h1 : RO i1 v1 xs H) (h2 : RO i2 v2 ys H) (hl : isL lw l) (hc : isL mw c) (hxm : xs.length = m) (hym : ys.length = m) (hlm : l.length = m) (hcm : c.length = m) (hm : m ≤ 5)
    (hcy : Pk.fitL ys c) (hl40 : ∀ y ∈ l, y ≤ 40) (hy40 : ∀ y ∈ ys, y ≤ 40) (hcle : ∀ i, i < m → c.getD i 0 ≤ ys.getD i 0) {R : PQ} :
    ∀ (k i : Nat), i + k = m → (l.take i).sum ≤ 40 * i → ((subL ys c).take i).sum ≤ 40 * i →
    R (.exit 6) [(6, .int .i64 (n : Nat)), (7, sv), (9, v1), (10, v2), (123, av), (124, .int .i64 (tot : Nat)), (125, .int .i64 (i0 : Nat)), (18, .int .i64 (x : Nat)), (19, lw), (21, mw), (23, .int .i64 (l.sum : Nat)), (24, .int .i64 ((subL ys c).sum : Nat)), (170, .int .i64 (m : Nat)), (171, .int .i64 (m : Nat)), (172, .bool false)] H →
    Wp E base bar (.loop c3_l2) [(6, .int .i64 (n : Nat)), (7, sv), (9, v1), (10, v2), (123, av), (124, .int .i64 (tot : Nat)), (125, .int .i64 (i0 : Nat)), (18, .int .i64 (x : Nat)), (19, lw), (21, mw), (23, .int .i64 ((l.take i).sum : Nat)), (24, .int .i64 (((subL ys c).take i).sum : Nat)), (170, .int .i64 (m : Nat)), (171, .int .i64 (i : Nat))] H R := by
  have hsl : (subL ys c).length = m := by unfold subL; rw [List.length_zipWith, hym, hcm]; simp
  intro k
  induction k with
  | zero =>
    intro i hi _ _ h
    obtain rfl : i = m := by omega
    rw [List.take_of_length_le (by omega), List.take_of_length_le (by omega)]
    rw [wp_round c3_l2.eq_1]
    simp [go_sem]
    exact h
  | succ k ih =>
    intro i hi b1 b2 h
    have hlt : i < m := by omega
    have hil : i < l.length := by omega
    have hic : i < c.length := by omega
    have hiy : i < ys.length := by omega
    have t1 : (l.take (i + 1)).sum = (l.take i).sum + l[i] := by
      rw [List.take_add_one, List.getElem?_eq_getElem hil, Option.toList_some, List.sum_append, List.sum_cons, List.sum_nil, Nat.add_zero]
    have t2 : ((subL ys c).take (i + 1)).sum = ((subL ys c).take i).sum + (ys[i] - c[i]) := by
      have hg : (subL ys c)[i]'(by omega) = ys[i] - c[i] := by simp [subL]
      rw [List.take_add_one, List.getElem?_eq_getElem (by omega), Option.toList_some, List.sum_append, List.sum_cons, List.sum_nil, Nat.add_zero, hg]
    have hli := hl40 _ (List.getElem_mem hil)
    have hyi := hy40 _ (List.getElem_mem hiy)
    have hci := hcle i hlt
    simp only [List.getD_eq_getElem?_getD, List.getElem?_eq_getElem hic, List.getElem?_eq_getElem hiy, Option.getD_some] at hci
    have next := ih (i + 1) (by omega) (by rw [t1]; omega) (by rw [t2]; omega) h
    rw [t1, t2] at next
    have j1 := fun (H : Heap) (K : AV → Heap → List Nat → Prop) => hl.ix (H := H) (K := K) (k := .i64) hil
    have j2 := fun (H : Heap) (K : AV → Heap → List Nat → Prop) => hc.ix (H := H) (K := K) (k := .i64) hic
    obtain ⟨ver, off, y1, y2⟩ := h2.ix hiy
    generalize l[i] = li at *
    generalize c[i] = ci at *
    generalize ys[i] = yi at *
    generalize (l.take i).sum = s1 at *
    generalize ((subL ys c).take i).sum = s2 at *
    have e1 : IntKind.i64.wrap ((s1 : Int) + (li : Int)) = ((s1 + li : Nat) : Int) := by rw [Go.IntWalk.i64_in _ (by omega)]; omega
    have e2 : IntKind.i64.wrap ((yi : Int) - (ci : Int)) = ((yi - ci : Nat) : Int) := by rw [Go.IntWalk.i64_in _ (by omega)]; omega
    have e3 : IntKind.i64.wrap ((s2 : Int) + ((yi - ci : Nat) : Int)) = ((s2 + (yi - ci) : Nat) : Int) := by rw [Go.IntWalk.i64_in _ (by omega)]; omega
    generalize yi - ci = dd at *
    rw [wp_round c3_l2.eq_1]
    simp [go_sem, hlt]
    rw [j1]
    simp [go_sem, e1, y1, y2]
    rw [j2]
    simp [go_sem, e2, e3, i64_suc (show i < 1000000 by omega)]
    exact next

theorem fit_get : ∀ {ys c : List Nat}, Pk.fitL ys c → ∀ i, c.getD i 0 ≤ ys.getD i 0
  | [], [], _, i => by simp
  | y :: ys, c :: cs, h, 0 => by simpa using h.1
  | y :: ys, c :: cs, h, i + 1 => by simpa using fit_get h.2 i
  | [], _ :: _, h, _ => h.elim
  | _ :: _, [], h, _ => h.elim
theorem fit_sum : ∀ {ys c : List Nat}, Pk.fitL ys c → c.sum ≤ ys.sum
  | [], [], _ => Nat.le_refl _
  | y :: ys, c :: cs, h => by
    have := fit_sum h.2
    have := h.1
    simp only [List.sum_cons]; omega
  | [], _ :: _, h => h.elim
  | _ :: _, [], h => h.elim
theorem fit_mem : ∀ {ys c : List Nat} {B : Nat}, Pk.fitL ys c → (∀ y ∈ ys, y ≤ B) → ∀ x ∈ c, x ≤ B
  | [], [], _, _, _, x, hx => by simp at hx
  | y :: ys, c :: cs, B, h, hB, x, hx => by
    rcases List.mem_cons.1 hx with rfl | hx
    · exact Nat.le_trans h.1 (hB y (List.mem_cons_self ..))
    · exact fit_mem h.2 (fun y hy => hB y (List.mem_cons_of_mem _ hy)) x hx
  | [], _ :: _, _, h, _, _, _ => h.elim
  | _ :: _, [], _, h, _, _, _ => h.elim
theorem l3d {n T i1 i2 : Nat} {sv v1 v2 av : AV} {xs ys A : List Nat} (hs : Pk.Fit xs ys) (hn : n ≤ 7) (hT : T = halfN n) (hys : ys.sum ≤ 1000) (hval : Pk.valL xs ys = T) (hLand : ∀ d, Pk.fitL ys d → halfN d.sum ≤ Pk.valL xs d)
    (hav : isL av A) (hA : ∀ x ∈ A, ∃ c, Pk.fitL ys c ∧ Pk.valL xs c = x) (hAl : A.length ≤ 2000) {R : PQ} :
    ∀ (k i : Nat), i + k = A.length → ∀ H : Heap, RO i1 v1 xs H → RO i2 v2 ys H →
    (∀ H', R (.exit 4) [(6, .int .i64 (n : Nat)), (7, sv), (9, v1), (10, v2), (123, av), (124, .int .i64 (A.length : Nat)), (125, .int .i64 (A.length : Nat)), (126, .bool false)] H') →
    Wp E base 0 (.loop c3_l3) [(6, .int .i64 (n : Nat)), (7, sv), (9, v1), (10, v2), (123, av), (124, .int .i64 (A.length : Nat)), (125, .int .i64 (i : Nat))] H R := by
  have hlen := hs.len
  have hfew := hs.few
  have hTs : T ≤ 21 := by rw [hT]; exact (by decide : ∀ n, n ≤ 7 → halfN n ≤ 21) n hn
  intro k
  induction k with
  | zero =>
    intro i hi H h1 h2 h
    obtain rfl : i = A.length := by omega
    rw [wp_round c3_l3.eq_1]
    simp [go_sem]
    exact h H
  | succ k ih =>
    intro i hi H h1 h2 h
    have hlt : i < A.length := by omega
    have j1 := fun (H : Heap) (K : AV → Heap → List Nat → Prop) => hav.ix (H := H) (K := K) (k := .i64) hlt
    obtain ⟨c, hc1, hc2⟩ := hA _ (List.getElem_mem hlt)
    have next := ih (i + 1) (by omega)
    generalize A[i] = x at *
    obtain ⟨d, hd1, hd2, hd3, _⟩ := Pk.rest_fit (xs := xs) hc1 hlen
    rw [hval, hc2] at hd2
    have hxT : x ≤ T := by omega
    obtain ⟨m1, m2⟩ := mul_pred (D := n) (by omega)
    have m3 := quo_half (D := n) (by omega)
    rw [← hT] at m3
    have m4 : IntKind.i64.wrap ((T : Int) - (x : Int)) = ((T - x : Nat) : Int) := by rw [Go.IntWalk.i64_in _ (by omega)]; omega
    rw [wp_round c3_l3.eq_1]
    simp [go_sem, hlt]
    rw [j1]
    simp [go_sem]
    refine k10own h1 h2 hs (by omega) ⟨c, hc1, hc2, Nat.le_trans (fit_sum hc1) hys⟩ fun H1 lw l r1 r2 hlw f1 f2 f3 => ?_
    generalize n * (n - 1) = nn at *
    simp [go_sem, m1, m2, m3, m4]
    refine k10own r1 r2 hs (by omega) ⟨d, hd1, by omega, Nat.le_trans (fit_sum hd1) hys⟩ fun H2 mw mm r3 r4 hmw f4 f5 _ => ?_
    have hll := Pk.fitL_len f1
    have hml := Pk.fitL_len f4
    obtain ⟨d', q1, q2, q3, q4⟩ := Pk.rest_fit (xs := xs) f4 hlen
    rw [hval, f5] at q2
    have hfm := f3 d' q1 (by omega)
    have hhalf := hLand d' q1
    have hd's := Nat.le_trans (fit_sum q1) hys
    have hsub : subL ys mm = d' := q4.symm
    simp [go_sem, hlw.len, hmw.len, r3.len, hll, hml, hlen]
    refine l3c (m := xs.length) (x := x) (tot := A.length) (i0 := i) r3 r4 hlw hmw rfl hlen (by omega) (by omega) hfew f4 (fit_mem f1 hs.stock) hs.stock (fun i _ => fit_get f4 i) xs.length 0 (by omega) (by simp) (by simp) ?_
    rw [hsub]
    have g1 : ¬ (d'.sum : Int) < (l.sum : Int) := by omega
    obtain ⟨u1, u2⟩ := mul_pred (D := d'.sum) (by omega)
    have u3 := quo_half (D := d'.sum) (by omega)
    have g2 : ¬ (x : Int) < ((halfN d'.sum : Nat) : Int) := by omega
    generalize d'.sum * (d'.sum - 1) = dd at *
    generalize halfN d'.sum = hh at *
    generalize d'.sum = ds at *
    generalize l.sum = ls at *
    simp [go_sem, g1, g2, u1, u2, u3, i64_suc (show i < 1000000 by omega)]
    exact next H2 r3 r4 h
end Go.Proofs.Ytngoldipfgfecaa.Code
end

section
namespace Go.Proofs.Ytngoldipfgfecaa.Code
open Go Go.Ab
variable {pure : Bool} {base bar : Nat} {H : Heap} {Q : AV → Heap → Prop}

/-! 12: are two lists equal -/
theorem l12 {a b : AV} {x y : List Nat} (ha : isL a x) (hb : isL b y) (hxy : x.length = y.length) (hx : x.length < 100000) {R : PQ} :
    ∀ (k i : Nat), i + k = x.length → (x.take i = y.take i) → (x = y → R (.exit 0) [(0, a), (1, b), (12, .int .i64 (x.length : Nat)), (13, .int .i64 (x.length : Nat)), (14, .bool false)] H) → (x ≠ y → R .ret [(4, .bool false)] H) →
    Wp E base bar (.loop c12_l0) [(0, a), (1, b), (12, .int .i64 (x.length : Nat)), (13, .int .i64 (i : Nat))] H R := by
  intro k
  induction k with
  | zero =>
    intro i hi ht h1 h2
    obtain rfl : i = x.length := by omega
    rw [wp_round c12_l0.eq_1]
    simp [go_sem]
    rw [List.take_length, hxy, List.take_length] at ht
    exact h1 ht
  | succ k ih =>
    intro i hi ht h1 h2
    have hlt : i < x.length := by omega
    have hlt2 : i < y.length := by omega
    rw [wp_round c12_l0.eq_1]
    by_cases he : x[i] = y[i]
    · simp [go_sem, hlt, ha.ix hlt, hb.ix hlt2, he, i64_suc (show i < 1000000 by omega)]
      refine ih (i + 1) (by omega) ?_ h1 h2
      rw [List.take_add_one, List.take_add_one, ht, List.getElem?_eq_getElem hlt, List.getElem?_eq_getElem hlt2, he]
    · have hne : ¬ ((x[i] : Nat) : Int) = ((y[i] : Nat) : Int) := fun h => he (by omega)
      simp [go_sem, hlt, ha.ix hlt, hb.ix hlt2, hne]
      exact h2 fun h => he (by subst h; rfl)
theorem k12 {a b : AV} {x y : List Nat} (ha : isL a x) (hb : isL b y) (hx : x.length < 100000) (h : Q (.bool (decide (x = y))) H) : WpCall E pure base bar 12 [a, b] H Q := by
  rw [call12]
  by_cases hl : x.length = y.length
  · simp [go_sem, WpFun, c12, ha.frz, hb.frz, ha.len, hb.len, hl]
    rw [← hl]
    refine l12 ha hb hl hx x.length 0 (by omega) rfl (fun he => ?_) fun he => ?_
    · simp [go_sem]
      simpa [he] using h
    · simp [go_sem]
      simpa [he] using h
  · have hne : x ≠ y := fun h => hl (by rw [h])
    have hl' : ¬ ((x.length : Nat) : Int) = ((y.length : Nat) : Int) := fun h => hl (by omega)
    simp [go_sem, WpFun, c12, ha.frz, hb.frz, ha.len, hb.len, hl']
    simpa [hne] using h


/-! the scores' histogram -/
theorem cnt_cons {s : List Nat} {y a : Nat} : cntS (y :: s) a = cntS s a + if y = a then 1 else 0 := by
  unfold cntS
  rw [List.filter_cons]
  by_cases h : y = a <;> simp [h]
theorem val_add {f : Nat → Nat} {y : Nat} : ∀ {xs : List Nat}, xs.Nodup → Pk.valL xs (xs.map fun a => f a + if y = a then 1 else 0) = Pk.valL xs (xs.map f) + if y ∈ xs then y else 0
  | [], _ => by simp [Pk.valL]
  | a :: xs, hn => by
    rw [List.nodup_cons] at hn
    have ih := val_add (f := f) (y := y) hn.2
    simp only [List.map_cons, Pk.valL, ih, Nat.add_mul]
    by_cases h : y = a
    · subst h
      have : y ∉ xs := hn.1
      simp [this]; omega
    · by_cases h2 : y ∈ xs <;> simp [h, h2] <;> omega
theorem val_hist {xs : List Nat} (hn : xs.Nodup) : ∀ s : List Nat, Pk.valL xs (xs.map (cntS s)) = (s.map fun y => if y ∈ xs then y else 0).sum
  | [] => by
    have : ∀ xs : List Nat, Pk.valL xs (xs.map (cntS [])) = 0 := fun xs => by
      induction xs with
      | nil => rfl
      | cons a r ih => simp only [List.map_cons, Pk.valL, ih]; simp [cntS]
    rw [this]; rfl
  | y :: s => by
    have e : (cntS (y :: s)) = fun a => cntS s a + if y = a then 1 else 0 := by funext a; exact cnt_cons
    rw [e, val_add hn, val_hist hn s, List.map_cons, List.sum_cons]; omega
theorem cnt_pos {s : List Nat} {a : Nat} : 0 < cntS s a ↔ a ∈ s := by
  unfold cntS
  rw [List.length_pos_iff, Ne, List.filter_eq_nil_iff]
  constructor
  · intro h
    apply Decidable.byContradiction
    intro hc
    exact h fun x hx => by
      have : x ≠ a := fun e => hc (e ▸ hx)
      simpa using this
  · intro h hc
    have := hc a h
    simp at this
theorem cnt_range {s : List Nat} {n a : Nat} (hl : s.length = n) : cntS s a = ((List.range n).filter fun j => s.getD j 0 == a).length := by
  have e : s = (List.range n).map fun j => s.getD j 0 := by
    apply List.ext_getElem (by simp [hl])
    intro i h1 h2
    simp [List.getD_eq_getElem?_getD, List.getElem?_eq_getElem h1]
  unfold cntS
  conv => lhs; rw [e]
  rw [List.filter_map, List.length_map]
  rfl
theorem szL_mem {s : List Nat} {n x : Nat} : x ∈ szL s n ↔ (1 ≤ x ∧ x < n) ∧ x ∈ s := by
  unfold szL
  rw [List.mem_filter, List.mem_range'_1, decide_eq_true_eq, cnt_pos]
  constructor
  · rintro ⟨h1, h2⟩; exact ⟨by omega, h2⟩
  · rintro ⟨h1, h2⟩; exact ⟨by omega, h2⟩
theorem szL_ord {s : List Nat} {n : Nat} : (szL s n).Pairwise (· < ·) := by
  unfold szL
  exact (List.pairwise_lt_range' ..).filter _
theorem szL_nodup {s : List Nat} {n : Nat} : (szL s n).Nodup := szL_ord.imp fun h => Nat.ne_of_lt h
theorem hist_sum {s : List Nat} {n : Nat} (hlt : ∀ x ∈ s, x < n) : Pk.valL (szL s n) ((szL s n).map (cntS s)) = s.sum := by
  rw [val_hist szL_nodup]
  congr 1
  have : ∀ t : List Nat, (∀ x ∈ t, x ∈ s) → (t.map fun y => if y ∈ szL s n then y else 0) = t := by
    intro t
    induction t with
    | nil => intro _; rfl
    | cons y r ih =>
      intro h
      rw [List.map_cons, ih fun x hx => h x (List.mem_cons_of_mem _ hx)]
      congr 1
      have hy := h y (List.mem_cons_self ..)
      have := hlt y hy
      by_cases h0 : y = 0
      · simp [h0]
      · rw [if_pos (szL_mem.2 ⟨⟨by omega, this⟩, hy⟩)]
  exact this s fun x hx => hx
/-! all that can be filled: from 0 to all -/
theorem posL_stay {W : List Int} {T : Nat} (h : ∀ x, T < x → x < 1001 → ¬ 0 < Pk.gz W x) : ∀ k, T + 1 + k ≤ 1001 → Pk.posL W (T + 1 + k) = Pk.posL W (T + 1)
  | 0, _ => rfl
  | k + 1, hk => by rw [show T + 1 + (k + 1) = (T + 1 + k) + 1 by omega, Pk.posL_succ, if_neg (h _ (by omega) (by omega)), posL_stay h k (by omega)]
theorem posL_head {W : List Int} (h : 0 < Pk.gz W 0) : ∀ k, ∃ r, Pk.posL W (k + 1) = 0 :: r
  | 0 => ⟨[], by rw [Pk.posL_succ, if_pos h]; rfl⟩
  | k + 1 => by
    obtain ⟨r, hr⟩ := posL_head h k
    rw [Pk.posL_succ]
    split
    · exact ⟨r ++ [k + 1], by rw [hr]; rfl⟩
    · exact ⟨r, hr⟩
theorem posL_mem {W : List Int} {n x : Nat} : x ∈ Pk.posL W n ↔ x < n ∧ 0 < Pk.gz W x := by
  unfold Pk.posL
  rw [List.mem_filter, List.mem_range, decide_eq_true_eq]
end Go.Proofs.Ytngoldipfgfecaa.Code
end

section
namespace Go.Proofs.Ytngoldipfgfecaa.Code
open Go Go.Ab
variable {pure : Bool} {base bar : Nat} {H : Heap} {Q : AV → Heap → Prop}

/-- scores of a contest -/
structure Sc (n : Nat) (s : List Nat) : Prop where
  len : s.length = n
  le : n ≤ 6
  ok : OkS s
  many : ∀ T : List Nat, T.Nodup → (∀ x ∈ T, x < n) → halfN T.length ≤ sumS s T
theorem sum_le40 {B : Nat} : ∀ {l : List Nat}, (∀ y ∈ l, y ≤ B) → l.sum ≤ B * l.length
  | [], _ => by simp
  | y :: l, h => by
    have := sum_le40 (l := l) fun z hz => h z (List.mem_cons_of_mem _ hz)
    have := h y (List.mem_cons_self ..)
    rw [List.sum_cons, List.length_cons, Nat.mul_succ]; omega
theorem fit_zero : ∀ ys xs : List Nat, ∃ c, Pk.fitL ys c ∧ Pk.valL xs c = 0
  | [], xs => ⟨[], trivial, by cases xs <;> rfl⟩
  | y :: ys, [] => by
    obtain ⟨c, h1, _⟩ := fit_zero ys []
    exact ⟨0 :: c, ⟨Nat.zero_le _, h1⟩, rfl⟩
  | y :: ys, x :: xs => by
    obtain ⟨c, h1, h2⟩ := fit_zero ys xs
    exact ⟨0 :: c, ⟨Nat.zero_le _, h1⟩, by rw [Pk.valL, h2]; simp⟩
theorem fit_self : ∀ ys : List Nat, Pk.fitL ys ys
  | [] => trivial
  | _ :: ys => ⟨Nat.le_refl _, fit_self ys⟩
section
variable {n : Nat} {s : List Nat}
theorem Sc.fit (h : Sc n s) (hne : szL s n ≠ []) : Pk.Fit (szL s n) ((szL s n).map (cntS s)) := by
  have hl := h.len
  have hle := h.le
  refine ⟨⟨by simp, Nat.le_trans szL_len (by omega), fun x hx => ?_, fun y hy => ?_⟩, List.length_pos_iff.2 hne, szL_ord⟩
  · have := (szL_mem.1 hx).1; omega
  · obtain ⟨x, _, rfl⟩ := List.mem_map.1 hy
    have := List.length_filter_le (fun z => z == x) s
    unfold cntS; omega
theorem Sc.val (h : Sc n s) : Pk.valL (szL s n) ((szL s n).map (cntS s)) = halfN n := by
  rw [hist_sum fun x hx => by have := h.ok.lt x hx; rw [h.len] at this; exact this, h.ok.sum, h.len]
theorem Sc.land (h : Sc n s) : ∀ d, Pk.fitL ((szL s n).map (cntS s)) d → halfN d.sum ≤ Pk.valL (szL s n) d := fun d hd => by
  have e : (szL s n).map (cntS s) = (szL s n).map fun a => ((List.range n).filter fun j => s.getD j 0 == a).length := List.map_congr_left fun a _ => cnt_range h.len
  rw [e] at hd
  obtain ⟨T, h1, h2, h3, h4⟩ := Pk.pick _ d szL_nodup hd
  rw [← h3, ← h4]
  exact h.many T h1 fun x hx => (h2 x hx).1
theorem Sc.one (h : Sc n s) (he : szL s n = []) : n = 1 ∧ s = [0] := by
  have hz : ∀ x ∈ s, x ≤ 0 := fun x hx => by
    apply Decidable.byContradiction
    intro hc
    have hm : x ∈ szL s n := szL_mem.2 ⟨⟨by omega, by have := h.ok.lt x hx; rw [h.len] at this; exact this⟩, hx⟩
    rw [he] at hm; simp at hm
  have h0 := sum_le40 hz
  rw [Nat.zero_mul] at h0
  have hs := h.ok.sum
  have hp := h.ok.pos
  have hl := h.len
  have hle := h.le
  rw [hl] at hs hp
  have : n = 1 := (by decide : ∀ n, n ≤ 6 → 1 ≤ n → halfN n = 0 → n = 1) n hle hp (by omega)
  subst this
  match s, hl, hz with
  | [x], _, hz => exact ⟨rfl, by rw [Nat.le_zero.1 (hz x (by simp))]⟩
/-- all that can be filled -/
def allN (n : Nat) (s : List Nat) : List Nat := Pk.posL (Pk.waysG (szL s n) ((szL s n).map (cntS s))) 1001
theorem Sc.all (h : Sc n s) (hne : szL s n ≠ []) : (∃ r, allN n s = 0 :: r) ∧ (∃ r, allN n s = r ++ [halfN n]) ∧ (∀ x ∈ allN n s, ∃ c, Pk.fitL ((szL s n).map (cntS s)) c ∧ Pk.valL (szL s n) c = x) ∧ (allN n s).length ≤ 1001 := by
  have hf := h.fit hne
  have hv := h.val
  have hT : halfN n ≤ 15 := (by decide : ∀ n, n ≤ 6 → halfN n ≤ 15) n h.le
  have hl : ((szL s n).map (cntS s)).length = (szL s n).length := by simp
  unfold allN
  generalize (szL s n).map (cntS s) = ys at *
  generalize szL s n = xs at *
  refine ⟨posL_head ((Pk.ways_pos hf.toStore (by omega)).2 (fit_zero ys xs)) 1000, ?_, fun x hx => ?_, Pk.posL_len⟩
  · have := posL_stay (W := Pk.waysG xs ys) (T := halfN n) (fun x h1 h2 h3 => by
      obtain ⟨c, c1, c2⟩ := (Pk.ways_pos hf.toStore h2).1 h3
      obtain ⟨d, _, d2, _⟩ := Pk.rest_fit (xs := xs) c1 hl
      omega) (1000 - halfN n) (by omega)
    rw [show halfN n + 1 + (1000 - halfN n) = 1001 by omega] at this
    rw [this, Pk.posL_succ, if_pos ((Pk.ways_pos hf.toStore (by omega)).2 ⟨ys, fit_self ys, hv⟩)]
    exact ⟨_, rfl⟩
  · have := posL_mem.1 hx
    exact (Pk.ways_pos hf.toStore this.1).1 this.2
theorem k9all {i1 i2 : Nat} {v1 v2 : AV} (h1 : RO i1 v1 (szL s n) H) (h2 : RO i2 v2 ((szL s n).map (cntS s)) H) (hs : Sc n s) (hne : szL s n ≠ [])
    (hQ : ∀ H', RO i1 v1 (szL s n) H' → RO i2 v2 ((szL s n).map (cntS s)) H' → ∀ av, isL av (allN n s) → Q (.tup [av, .int .i64 0]) H') : WpCall E false base 0 9 [v1, v2] H Q := by
  refine k9own h1 h2 (hs.fit hne) fun H' r1 r2 => ?_
  have h := isL.out (l := allN n s)
  unfold allN at h
  exact hQ H' r1 r2 _ h
theorem Sc.lan (h : Sc n s) : Lan (fun x => s.getD x 0) (List.range s.length) := by
  refine ⟨List.nodup_range, fun T h1 h2 => h.many T h1 fun x hx => ?_, ?_⟩
  · have := List.mem_range.1 (h2 x hx); rw [h.len] at this; exact this
  · have := sumS_range (s := s)
    rw [this, h.ok.sum, List.length_range]
theorem MadeC.sc {bits : Nat} {l : List ZZ} {f : Nat → Nat → Bool} (hm : MadeC n bits l f) (h6 : n ≤ 6) : Sc n (oftenS n (boardF l fun _ => 0)) ∧ bestA (oftenS n (boardF l fun _ => 0)) = [] := by
  obtain ⟨hbd, hw⟩ := hm.board
  exact ⟨⟨often_len, h6, often_ok hbd hw hm.pos, fun T h1 h2 => often_sum hbd hw h1 h2⟩, often_bestA hbd hw⟩
end
theorem league_true {p bits : Nat} (hp : p < 256) (hbits : bits < 4294967296) : ∃ f H', acall E f 3 [.int .u8 (p : Nat), .int .u32 (bits : Nat)] [] = some (.bool true, H') := by
  have key : WpCall E false 0 0 3 [.int .u8 (p : Nat), .int .u32 (bits : Nat)] [] (fun v _ => v = .bool true) := by
    rw [call3]
    have e0 : frzAll 0 [] [.int .u8 (p : Nat), .int .u32 (bits : Nat)] = some ([.int .u8 (p : Nat), .int .u32 (bits : Nat)], []) := rfl
    rw [e0]
    obtain ⟨pm, hpm⟩ : ∃ pm, pm = p % 6 := ⟨_, rfl⟩
    have e1 : abin .rem (.int .u8 (p : Int)) (.int .u8 6) = some (.int .u8 (pm : Int)) := by
      show some (AV.int .u8 ((p : Int).tmod 6)) = _
      rw [Int.tmod_eq_emod_of_nonneg (by omega), hpm]; rfl
    simp [go_sem, WpFun, c3, e1]
    obtain ⟨n, hn⟩ : ∃ n, n = 1 + pm := ⟨_, rfl⟩
    have hn6 : n ≤ 6 := by omega
    refine k6 (n := n) (show pm < 256 by omega) hbits (by rw [Nat.mod_eq_of_lt (show pm < 7 by omega)]; exact hn) (Nat.zero_le _) fun l f q hm hq => ?_
    clear hn e1 hpm
    obtain ⟨hsc, hbest⟩ := hm.sc hn6
    have hll : l.length < 1000 := by
      rw [hm.len]; have := (by decide : ∀ n, n ≤ 6 → halfN n ≤ 15) n hn6; omega
    simp [go_sem]
    rw [storeAg (a := .int .i64 0) (b := .nils) (ex := true) (by simp) (by omega) (.inl (by omega)) hq.isTup hq.cells rfl]
    have la : aload [Blk.row 0 [.int .i64 (n : Int), q] 0 true] ⟨true, 2⟩ (.ptr 0 0 0) = some (.agg [.int .i64 (n : Int), q]) := by rw [aload_ptr (by rfl)]; rfl
    have ln : aload [Blk.row 0 [.int .i64 (n : Int), q] 0 true] ⟨false, 1⟩ (.ptr 0 0 0) = some (.int .i64 (n : Int)) := by rw [aload_ptr (by rfl)]; rfl
    simp [go_sem, la, ln]
    refine k7g hq hll hm.ok (Nat.zero_le _) fun sv hsv => ?_
    generalize oftenS n (boardF l fun _ => 0) = s at *
    have hsl := hsc.len
    simp [go_sem, hsv.len, hsl]
    refine l3b (n := n) (a := 1) hsv hsl (by omega) rfl rfl (n - 1) (by have := hm.pos; omega) (Nat.le_refl _) 0 0 .nils .nils _ ⟨.inl ⟨rfl, rfl⟩, .inl ⟨rfl, rfl⟩, .inl ⟨rfl, rfl⟩⟩ fun i1 i2 v1 v2 H1 hT => ?_
    by_cases he : szL s n = []
    · obtain ⟨rfl, rfl⟩ := hsc.one he
      have hl := fun (K : AV → Heap → List Nat → Prop) => hT.w1.len (H' := H1) (K := K)
      rw [he] at hl
      simp [go_sem, hl]
      have j := fun (H : Heap) (K : AV → Heap → List Nat → Prop) => hsv.ix (H := H) (K := K) (k := .i64) (show 0 < [0].length by simp)
      rw [show ((0 : Nat) : Int) = 0 from rfl] at j
      rw [j]
      simp [go_sem, call8]
    · have hf := hsc.fit he
      have hx0 : ¬ (szL s n).length = 0 := fun h => he (List.length_eq_zero_iff.1 h)
      have hx1 : ¬ ((szL s n).length : Int) = 0 := by omega
      simp [go_sem, hT.w1.len, he]
      refine k9all (RO.of hT.w1 he) (RO.of hT.w2 (by simpa using he)) hsc he fun H2 r1 r2 av hav => ?_
      obtain ⟨⟨A1, hA1⟩, ⟨A2, hA2⟩, hA3, hA4⟩ := hsc.all he
      generalize allN n s = A at *
      have hAl1 : 0 < A.length := by rw [hA1]; simp
      have hAl2 : A.length - 1 < A.length := by omega
      have hg0 : A[0] = 0 := (List.getElem_eq_iff _).2 (by rw [hA1]; rfl)
      have hg1 : A[A.length - 1] = halfN n := (List.getElem_eq_iff _).2 (by rw [hA2]; simp)
      have ha0 : ¬ (A.length : Int) = 0 := by omega
      have ha1 : ¬ A = [] := by intro h; rw [h] at hAl1; simp at hAl1
      have ea : IntKind.i64.wrap ((A.length : Int) - 1) = ((A.length - 1 : Nat) : Int) := by
        rw [Go.IntWalk.i64_in _ (by omega)]; omega
      obtain ⟨m1, m2⟩ := mul_pred (D := n) (by omega)
      have m3 := quo_half (D := n) (by omega)
      generalize n * (n - 1) = nn at m2 m3
      have j0 := fun (H : Heap) (K : AV → Heap → List Nat → Prop) => hav.ix (H := H) (K := K) (k := .i64) hAl1
      have j1 := fun (H : Heap) (K : AV → Heap → List Nat → Prop) => hav.ix (H := H) (K := K) (k := .i64) hAl2
      rw [hg0, show ((0 : Nat) : Int) = 0 from rfl] at j0
      rw [hg1] at j1
      have hA4' : A.length ≤ 2000 := by omega
      have hys : ((szL s n).map (cntS s)).sum ≤ 1000 := Nat.le_trans (sum_le40 hf.stock) (by
        have := hf.few
        have h2 := hf.len
        omega)
      simp [go_sem, hav.len, ha0, ha1]
      rw [j0]
      simp [go_sem, hav.len, ea]
      rw [j1]
      simp [go_sem, m1, m2, m3, hav.len]
      refine l3d (T := halfN n) hf (by omega) rfl hys hsc.val hsc.land hav hA3 hA4' A.length 0 (by omega) H2 r1 r2 fun H3 => ?_
      simp [go_sem]
      refine k11 hsv hsc.ok hbest hsc.lan (Nat.zero_le _) fun qq ms hqq hms hok hsc2 => ?_
      rw [hsl] at hok hsc2 ⊢
      simp [go_sem]
      rw [storeAg (a := .int .i64 0) (b := .nils) (ex := true) (by simp) (by omega) (.inl (by omega)) hqq.isTup hqq.cells rfl]
      have la2 : ∀ H3 : Heap, aload (H3 ++ [Blk.row 0 [.int .i64 (n : Int), qq] 0 true]) ⟨true, 2⟩ (.ptr H3.length 0 0) = some (.agg [.int .i64 (n : Int), qq]) := fun H3 => by rw [aload_ptr (ver := 0) (cs := [.int .i64 (n : Int), qq]) (fz := 0) (ex := true) (by simp)]; rfl
      simp [go_sem, la2]
      obtain ⟨hbd2, hw2⟩ := hok.board
      refine k7g hqq (by omega) hok (Nat.zero_le _) fun sv2 hsv2 => ?_
      rw [scores_eq hsl hbd2 hw2 hsc2] at hsv2
      simp [go_sem]
      refine k12 hsv2 hsv (by omega) ?_
      simp [go_sem, call8]
  obtain ⟨f, v, H', h1, rfl⟩ := key
  exact ⟨f, H', h1⟩
end Go.Proofs.Ytngoldipfgfecaa.Code
end

