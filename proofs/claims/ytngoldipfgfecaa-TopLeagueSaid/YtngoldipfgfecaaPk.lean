/-
  Part of the proofs about this chapter: contracts of functions, answers of calls, and plain laws.
-/
import Derived.Test.YtngoldipfgfecaaCall
set_option linter.all false
section
namespace Go.Proofs.Ytngoldipfgfecaa.Code.Pk
open Go Go.Ab
variable {pure : Bool} {base bar : Nat} {H : Heap} {Q : AV → Heap → Prop}

/-! the numbers of fillings -/
theorem set_self {α : Type} : ∀ {l : List α} {i : Nat} {x : α}, l[i]? = some x → l.set i x = l
  | [], _, _, h => by simp at h
  | y :: r, 0, x, h => by simp at h; simp [h]
  | y :: r, i + 1, x, h => by simp at h; simp [set_self h]
def zs (l : List Int) : List AV := l.map (.int .i64)
theorem zs_length {l : List Int} : (zs l).length = l.length := by simp [zs]
theorem zs_plain {l : List Int} : ∀ c ∈ zs l, Plain c := fun c hc => by
  simp only [zs, List.mem_map] at hc
  obtain ⟨a, _, rfl⟩ := hc
  exact Plain.int
/-- an entry, 0 outside -/
def gz (l : List Int) (i : Nat) : Int := l.getD i 0
theorem zs_tops {l : List Int} : AV.top.tops (zs l) = 0 := tops_zero fun x hx => by
  simp only [zs, List.mem_map] at hx
  obtain ⟨a, _, rfl⟩ := hx; rfl
theorem zs_get {l : List Int} {i : Nat} (hi : i < l.length) : (zs l)[i]? = some (.int .i64 (gz l i)) := by
  simp [zs, gz, List.getD_eq_getElem?_getD, List.getElem?_eq_getElem hi]
theorem zs_set {l : List Int} {i : Nat} {n : Int} : setCells (zs l) i [.int .i64 n] = zs (l.set i n) := by
  simp [setCells, zs, List.map_set]
theorem loadZ {id ver off fz s : Nat} {ex : Bool} {l : List Int} (h : H[id]? = some (.row ver (zs l) fz ex)) (hi : off < l.length) :
    aload H ⟨false, s⟩ (.ptr id ver off) = some (.int .i64 (gz l off)) := by
  rw [aload_ptr h, part_one, zs_get hi]
theorem storeZ {K : AV → Heap → List Nat → Prop} {id ver off : Nat} {ex : Bool} {l : List Int} {n : Int} (h : H[id]? = some (.row ver (zs l) 0 ex)) (hi : off < l.length) (hb : bar ≤ id) :
    storeWp base bar 1 (.ptr id ver off) (.int .i64 n) H K = K (.tup []) (H.set id (.row ver (zs (l.set off n)) 0 ex)) [id] := by
  rw [storeWp_ptr (size := 1) h rfl rfl (by omega) (by rw [zs_length]; omega) hb (.inr (by simp [AV.cells, tops_cons, tops_nil, top_int]))]
  simp only [AV.cells, zs_set]

/-- one more place: with packets of a size; d: all of them and one more -/
def stepW (a : List Int) (s d : Nat) (c : List Int) (x : Nat) : List Int :=
  let v := IntKind.i64.wrap (gz c x + gz c (x - s))
  if d ≤ x then c.set x (IntKind.i64.wrap (v - gz a (x - d))) else c.set x v
def foldW (a : List Int) (s d : Nat) : List Int → Nat → Nat → List Int
  | c, _, 0 => c
  | c, x, n + 1 => foldW a s d (stepW a s d c x) (x + 1) n
theorem stepW_len {a c : List Int} {s d x : Nat} : (stepW a s d c x).length = c.length := by
  unfold stepW; dsimp only; split <;> simp
theorem foldW_len {a : List Int} {s d : Nat} : ∀ {n x : Nat} {c : List Int}, (foldW a s d c x n).length = c.length
  | 0, _, _ => rfl
  | n + 1, x, c => by rw [foldW, foldW_len, stepW_len]
theorem lw {b A B vA fzA k s st m : Nat} {exA exB : Bool} {a : List Int} {sv tv : AV} {ys : List Nat} (hs1 : 1 ≤ s) (hs : s ≤ 30) (htv : isL tv ys) (hk : k < ys.length) (hst : ys[k]? = some st) (hst4 : st ≤ 40)
    (hla : a.length = 1001) (hAB : A ≠ B) (hbB : b ≠ B) (hbar : bar ≤ B) {R : PQ} :
    ∀ (n x : Nat), x + n = 1001 → s ≤ x → ∀ (c : List Int) (H : Heap), c.length = 1001 → H[b]? = some (.row 0 [sv, tv] 0 true) → H[A]? = some (.row vA (zs a) fzA exA) → H[B]? = some (.row 0 (zs c) 0 exB) →
    R (.exit 2) [(1, .ptr b 0 0), (3, .vec A vA 0 1001 1), (13, sv), (14, .int .i64 (m : Nat)), (15, .int .i64 (k : Nat)), (4, .int .i64 (k : Nat)), (5, .int .i64 (s : Nat)), (6, .vec B 0 0 1001 1), (7, .int .i64 1001), (24, .bool false)] (H.set B (.row 0 (zs (foldW a s ((st + 1) * s) c x n)) 0 exB)) →
    Wp E base bar (.loop c70_l0) [(1, .ptr b 0 0), (3, .vec A vA 0 1001 1), (13, sv), (14, .int .i64 (m : Nat)), (15, .int .i64 (k : Nat)), (4, .int .i64 (k : Nat)), (5, .int .i64 (s : Nat)), (6, .vec B 0 0 1001 1), (7, .int .i64 (x : Nat))] H R := by
  have hd : (st + 1) * s ≤ 41 * 30 := Nat.mul_le_mul (by omega) hs
  intro n
  induction n with
  | zero =>
    intro x hx hsx c H hc h1 h2 h3 h
    obtain rfl : x = 1001 := by omega
    rw [wp_round c70_l0.eq_1]
    simp [go_sem]
    have e : H.set B (.row 0 (zs (foldW a s ((st + 1) * s) c 1001 0)) 0 exB) = H := by
      simp only [foldW]
      exact set_self h3
    rw [e] at h
    exact h
  | succ n ih =>
    intro x hx hsx c H hc h1 h2 h3 h
    have l1 : aload H ⟨false, 1⟩ (.ptr B 0 x) = some (.int .i64 (gz c x)) := loadZ h3 (by omega)
    have l2 : aload H ⟨false, 1⟩ (.ptr B 0 (x - s)) = some (.int .i64 (gz c (x - s))) := loadZ h3 (by omega)
    have e1 : IntKind.i64.wrap ((x : Int) - (s : Int)) = ((x - s : Nat) : Int) := by
      rw [Go.IntWalk.i64_in _ (by omega)]; omega
    have hle : (x : Int) ≤ 1000 := by omega
    obtain ⟨X, hX⟩ : ∃ X, X = c.set x (IntKind.i64.wrap (gz c x + gz c (x - s))) := ⟨_, rfl⟩
    have hXl : X.length = 1001 := by rw [hX, List.length_set]; exact hc
    have hb1 : (H.set B (.row 0 (zs X) 0 exB))[b]? = some (.row 0 [sv, tv] 0 true) := by
      rw [List.getElem?_set_ne (Ne.symm hbB)]; exact h1
    have hA1 : (H.set B (.row 0 (zs X) 0 exB))[A]? = some (.row vA (zs a) fzA exA) := by
      rw [List.getElem?_set_ne (Ne.symm hAB)]; exact h2
    have hBl : B < H.length := by
      rcases Nat.lt_or_ge B H.length with h | h
      · exact h
      · rw [List.getElem?_eq_none h] at h3; cases h3
    have hB1 : (H.set B (.row 0 (zs X) 0 exB))[B]? = some (.row 0 (zs X) 0 exB) := by
      rw [List.getElem?_set_self hBl]
    have lb : aload (H.set B (.row 0 (zs X) 0 exB)) ⟨false, 1⟩ (.ptr b 0 1) = some tv := by rw [aload_ptr hb1]; rfl
    have hyk : ys[k] = st := by rw [List.getElem?_eq_getElem hk] at hst; exact Option.some.inj hst
    have hix := fun (H : Heap) (K : AV → Heap → List Nat → Prop) => htv.ix (H := H) (K := K) (k := .i64) hk
    rw [hyk] at hix
    have e2 : IntKind.i64.wrap ((st : Int) + 1) = ((st + 1 : Nat) : Int) := by
      rw [Go.IntWalk.i64_in _ (by omega)]; omega
    have e3 : IntKind.i64.wrap (((st + 1 : Nat) : Int) * (s : Int)) = (((st + 1) * s : Nat) : Int) := by
      rw [← Int.natCast_mul, Go.IntWalk.i64_in _ (by omega)]
    have e4 : IntKind.i64.wrap ((x : Int) + 1) = ((x + 1 : Nat) : Int) := by
      rw [Go.IntWalk.i64_in _ (by omega)]; omega
    generalize hdd : (st + 1) * s = d at *
    generalize hst1 : st + 1 = st1 at *
    simp only [Int.natCast_add] at e4
    have next : ∀ X' : List Int, X' = stepW a s d c x → Wp E base bar (.loop c70_l0) [(1, .ptr b 0 0), (3, .vec A vA 0 1001 1), (13, sv), (14, .int .i64 (m : Nat)), (15, .int .i64 (k : Nat)), (4, .int .i64 (k : Nat)), (5, .int .i64 (s : Nat)), (6, .vec B 0 0 1001 1), (7, .int .i64 ((x : Int) + ((1 : Nat) : Int)))] (H.set B (.row 0 (zs X') 0 exB)) R := fun X' hX' => by
      subst hX'
      have := ih (x + 1) (by omega) (by omega) (stepW a s d c x) (H.set B (.row 0 (zs (stepW a s d c x)) 0 exB)) (by rw [stepW_len]; exact hc) (by rw [List.getElem?_set_ne (Ne.symm hbB)]; exact h1)
        (by rw [List.getElem?_set_ne (Ne.symm hAB)]; exact h2) (List.getElem?_set_self hBl) (by simpa [foldW] using h)
      exact this
    rw [wp_round c70_l0.eq_1]
    simp [go_sem, hle, l1, l2, e1]
    refine ⟨by omega, by omega, by omega, ?_⟩
    rw [storeZ h3 (by omega) hbar, ← hX]
    simp [go_sem, lb]
    rw [hix]
    by_cases hf : d ≤ x
    · have e6 : IntKind.i64.wrap ((x : Int) - (d : Int)) = ((x - d : Nat) : Int) := by
        rw [Go.IntWalk.i64_in _ (by omega)]; omega
      have l3 := loadZ (s := 1) hB1 (off := x) (by omega)
      have l4 := loadZ (s := 1) hA1 (off := x - d) (by omega)
      have hx1 : gz X x = IntKind.i64.wrap (gz c x + gz c (x - s)) := by
        rw [hX]; simp [gz, List.getElem?_set_self (show x < c.length by omega)]
      rw [hx1] at l3
      simp [go_sem, e2, e3, e6, l3, l4]
      refine ⟨by omega, by omega, by omega, ?_⟩
      rw [storeZ hB1 (by omega) hbar]
      simp [go_sem, e4]
      have := next (X.set x (IntKind.i64.wrap (IntKind.i64.wrap (gz c x + gz c (x - s)) - gz a (x - d)))) (by rw [hX]; simp [stepW, hf])
      simpa using this
    · have e6 : ¬ 0 ≤ IntKind.i64.wrap ((x : Int) - (d : Int)) := by
        rw [Go.IntWalk.i64_in _ (by omega)]; omega
      simp [go_sem, e2, e3, e6, e4]
      have := next X (by rw [hX]; simp [stepW, hf])
      simpa using this
theorem frz_z {d A vA fz : Nat} {ex : Bool} {a : List Int} {m : Nat} (hm : a.length = m) (h : H[A]? = some (.row vA (zs a) fz ex)) (hb : bar ≤ A) :
    frz (d + 3) bar H (.vec A vA 0 m 1) = some (.lst 1 false (zs a), H.set A (.row vA (zs a) (max fz m) ex)) := by
  have e := frz_vec (d := d + 2) (bar := bar) (len := m) (off := 0) (sz := 1) (xs := zs a) (H' := H.set A (.row vA (zs a) (max fz m) ex)) h (by rw [zs_length]; omega) hb (by
    rw [show 0 + m * 1 = m by omega, List.drop_zero, List.take_of_length_le (by rw [zs_length]; omega), plains zs_plain])
  rw [e]
  have := chunks_one (l := zs a)
  rw [zs_length, hm] at this
  rw [this]
theorem flat_zs : ∀ {b : List Int}, (zs b).flatMap AV.cells = zs b
  | [] => rfl
  | x :: r => by
    have := flat_zs (b := r)
    simp only [zs, List.map_cons, List.flatMap_cons, AV.cells] at this ⊢; rw [this]; rfl
theorem eq_nn {K : AV → Heap → List Nat → Prop} : eqWp false .nilS (some .nils) (some .nils) H K = K (.bool true) H [] := (rfl)
theorem eq_ln {n : Nat} {ex : Bool} {l : List AV} {K : AV → Heap → List Nat → Prop} : eqWp false .nilS (some (.lst n ex l)) (some .nils) H K = K (.bool false) H [] := (rfl)
theorem k38 {A vA fz : Nat} {ex : Bool} {a : List Int} {m : Nat} (hm : a.length = m) (h0 : 0 < m) (hm2 : m < 100000) (h : H[A]? = some (.row vA (zs a) fz ex)) (hb : bar ≤ A)
    (hQ : Q (.vec H.length 0 0 m 1) (H.set A (.row vA (zs a) (max fz m) ex) ++ [.row 0 (zs a) 0 false])) : WpCall E pure base bar 38 [.vec A vA 0 m 1] H Q := by
  rw [call38]
  have e1 : frzAll bar H [.vec A vA 0 m 1] = some ([.lst 1 false (zs a)], H.set A (.row vA (zs a) (max fz m) ex)) := by
    simp [frzAll, frz.frzs, frzsW, frz_z (d := 5) hm h hb]
  rw [e1]
  have hz : ∀ {bar : Nat} {H : Heap}, frzsW (frz 8 bar) H (zs a) = some (zs a, H) := plains (d := 6) zs_plain
  simp [go_sem, WpFun, c38, eq_ln, aop, fillA, chunks]
  rw [wpop_app]
  simp [Opd.ev, go_sem, appWp, asrc, aappend, flat_zs, zs_length, hm]
  simp only [hz]
  have hne : zs a ≠ [] := fun e => by
    have h9 := congrArg List.length e
    rw [zs_length, List.length_nil] at h9; omega
  simp [hne, zs_length, hm, show m * 8 ≤ 140737488355328 by omega]
  simpa using hQ

/-- size by size -/
def itG : List Int → List (Nat × Nat) → List Int
  | a, [] => a
  | a, (s, t) :: r => itG (foldW a s ((t + 1) * s) a s (1001 - s)) r
theorem itG_len : ∀ {r : List (Nat × Nat)} {a : List Int}, (itG a r).length = a.length
  | [], _ => rfl
  | (s, t) :: r, a => by rw [itG, itG_len, foldW_len]
theorem lw1 {b n0 m : Nat} {sv tv : AV} {xs ys : List Nat} {H0 : Heap} (hsv : isL sv xs) (htv : isL tv ys) (hxl : xs.length = m) (hyl : ys.length = m) (hm : m ≤ 5) (hxs : ∀ x ∈ xs, 1 ≤ x ∧ x ≤ 30) (hys : ∀ y ∈ ys, y ≤ 40) (hn0 : n0 ≤ b) (hbar : bar ≤ n0) {R : PQ} :
    ∀ (n k : Nat), k + n = m → ∀ (a : List Int) (A fz : Nat) (ex : Bool) (H : Heap), a.length = 1001 → b < A → H.take n0 = H0 → H[b]? = some (.row 0 [sv, tv] 0 true) → H[A]? = some (.row 0 (zs a) fz ex) → A + 1 = H.length →
    (∀ A' fz' ex' H', b < A' → H'.take n0 = H0 → H'[A']? = some (.row 0 (zs (itG a ((xs.zip ys).drop k))) fz' ex') →
      R (.exit 0) [(1, .ptr b 0 0), (3, .vec A' 0 0 1001 1), (13, sv), (14, .int .i64 (m : Nat)), (15, .int .i64 (m : Nat)), (16, .bool false)] H') →
    Wp E base bar (.loop c70_l1) [(1, .ptr b 0 0), (3, .vec A 0 0 1001 1), (13, sv), (14, .int .i64 (m : Nat)), (15, .int .i64 (k : Nat))] H R := by
  intro n
  induction n with
  | zero =>
    intro k hk a A fz ex H ha hbA ht h1 h2 hA h
    obtain rfl : k = m := by omega
    rw [wp_round c70_l1.eq_1]
    simp [go_sem]
    have hd : (xs.zip ys).drop k = [] := List.drop_eq_nil_of_le (by rw [List.length_zip]; omega)
    rw [hd] at h
    exact h A fz ex H hbA ht h2
  | succ n ih =>
    intro k hk a A fz ex H ha hbA ht h1 h2 hA h
    have hkm : k < m := by omega
    have hkx : k < xs.length := by omega
    have hky : k < ys.length := by omega
    obtain ⟨hp1, hp⟩ := hxs _ (List.getElem_mem hkx)
    have hq := hys _ (List.getElem_mem hky)
    have hdrop : (xs.zip ys).drop k = (xs[k], ys[k]) :: (xs.zip ys).drop (k + 1) := by
      have hz : k < (xs.zip ys).length := by rw [List.length_zip]; omega
      rw [List.drop_eq_getElem_cons hz, List.getElem_zip]
    have hyk : ys[k]? = some ys[k] := List.getElem?_eq_getElem hky
    have hix := fun (H : Heap) (K : AV → Heap → List Nat → Prop) => hsv.ix (H := H) (K := K) (k := .i64) hkx
    rw [hdrop, itG] at h
    generalize xs[k] = s at *
    generalize ys[k] = t at *
    rw [wp_round c70_l1.eq_1]
    simp [go_sem, hkm]
    rw [hix]
    simp [go_sem]
    refine k38 ha (by omega) (by omega) h2 (by omega) ?_
    simp [go_sem]
    have hA1 : A < H.length := by omega
    refine lw (k := k) (s := s) (st := t) (exB := false) hp1 hp htv hky hyk hq ha (by omega) (by omega) (by omega) (1001 - s) s (by omega) (Nat.le_refl _) a _ ha
      (by rw [List.getElem?_append_left (by simp; omega), List.getElem?_set_ne (by omega)]; exact h1)
      (by rw [List.getElem?_append_left (by simp; omega), List.getElem?_set_self hA1])
      (by rw [List.getElem?_append_right (by simp)]; simp) ?_
    simp [go_sem]
    have e4 : IntKind.i64.wrap ((k : Int) + 1) = ((k + 1 : Nat) : Int) := by
      rw [Go.IntWalk.i64_in _ (by omega)]; omega
    rw [e4]
    refine ih (k + 1) (by omega) (foldW a s ((t + 1) * s) a s (1001 - s)) H.length 0 false _ (by rw [foldW_len]; exact ha) (by omega) ?_ ?_ ?_ (by simp) ?_
    · rw [List.take_append_of_le_length (by simp; omega), List.take_set_of_le (by omega)]; exact ht
    · rw [List.getElem?_append_left (by simp; omega), List.getElem?_set_ne (by omega)]; exact h1
    · rw [List.getElem?_append_right (by simp)]; simp
    · intro A' fz' ex' H' g1 g2 g3
      exact h A' fz' ex' H' g1 g2 g3
def zeros : List Int := List.replicate 1001 0
theorem zeros_len : zeros.length = 1001 := List.length_replicate
/-- the numbers of fillings -/
def waysG (xs ys : List Nat) : List Int := itG (zeros.set 0 1) (xs.zip ys)
theorem waysG_len {xs ys : List Nat} : (waysG xs ys).length = 1001 := by unfold waysG; rw [itG_len, List.length_set, zeros_len]
theorem zs_rep {m : Nat} : (List.replicate m [AV.int .i64 0]).flatten = zs (List.replicate m 0) := by
  induction m with
  | zero => rfl
  | succ m ih => rw [List.replicate_succ, List.flatten_cons, ih, List.replicate_succ]; rfl
theorem mk_z {base : Nat} {fr : Ab.Frame} : aop base bar (.mkslice [.int .i64 0] 8 (.c (.int .i64 1001)) (.c (.int .i64 1001))) fr H = some (.vec H.length 0 0 1001 1, H ++ [.row 0 (zs zeros) 0 true], []) := by
  show aop base bar _ fr H = some (.vec H.length 0 0 1001 1, H ++ [.row 0 (zs (List.replicate 1001 0)) 0 true], [])
  rw [← zs_rep]; rfl
theorem aload_own {x y : AV} {r : Blk} {s : Nat} : aload (H ++ [.row 0 [x, y] 0 true, r]) ⟨false, s⟩ (.ptr H.length 0 0) = some x := by
  rw [aload_ptr (ver := 0) (cs := [x, y]) (fz := 0) (ex := true) (by simp)]; rfl
theorem frzA {x y : AV} {d : Nat} (hx : frz (d + 1) bar H x = some (x, H)) (hy : frz (d + 1) bar H y = some (y, H)) : frz (d + 2) bar H (.agg [x, y]) = some (.agg [x, y], H) := by
  simp [frz_agg, frzsW_cons, frzsW_nil, hx, hy]
/-- sizes and stock as they may be -/
structure Store (xs ys : List Nat) : Prop where
  len : ys.length = xs.length
  few : xs.length ≤ 5
  size : ∀ x ∈ xs, 1 ≤ x ∧ x ≤ 30
  stock : ∀ y ∈ ys, y ≤ 40
theorem k70 {sv tv : AV} {xs ys : List Nat} (hsv : isL sv xs) (htv : isL tv ys) (hs : Store xs ys) (hbar : bar ≤ H.length) (hQ : Q (.lst 1 false (zs (waysG xs ys))) H) : WpCall E pure base bar 70 [.agg [sv, tv]] H Q := by
  rw [call70]
  have e1 : frzAll bar H [.agg [sv, tv]] = some ([.agg [sv, tv]], H) := by
    simp [frzAll, frz.frzs, frzsW, frzA (d := 6) hsv.frz htv.frz]
  rw [e1]
  simp [go_sem, WpFun, c70, hsv.isTup, htv.isTup]
  rw [mk_z]
  simp [go_sem]
  rw [storeZ (ex := true) (l := zeros) (by simp) (by rw [zeros_len]; omega) (by split <;> omega)]
  simp [go_sem, aload_own, hsv.len]
  refine lw1 (b := H.length) (n0 := H.length) (H0 := H) (m := xs.length) (bar := if pure = true then H.length else bar) hsv htv rfl hs.len hs.few hs.size hs.stock (Nat.le_refl _)
    (by split <;> omega) xs.length 0 (by omega) (zeros.set 0 1) (H.length + 1) 0 true _ (by rw [List.length_set, zeros_len]) (by omega) ?_ ?_ ?_ ?_ ?_
  · simp
  · simp
  · simp
  · simp
  · intro A' fz' ex' H' g1 g2 g3
    simp [go_sem]
    rw [List.drop_zero] at g3
    have hl : (itG (zeros.set 0 1) (xs.zip ys)).length = 1001 := by
      rw [itG_len, List.length_set, zeros_len]
    rw [frz_z (d := 5) (m := 1001) hl g3 (by split <;> omega)]
    simp [go_sem]
    rw [List.take_set_of_le (by omega), g2]
    rw [zs_tops, if_pos (Nat.zero_le _)]
    unfold waysG at hQ
    exact hQ
theorem i64_suc {i : Nat} (h : i < 1000000) : IntKind.i64.wrap ((i : Int) + 1) = ((i + 1 : Nat) : Int) := by
  rw [Go.IntWalk.i64_in _ (by omega)]; omega
theorem i64_one : IntKind.i64.wrap 1 = 1 := rfl
/-! 71, 68: sizes are checked -/
theorem k71 {n a b : Int} : WpCall E pure base bar 71 [.int .i64 n, .int .i64 a, .int .i64 b] H Q ↔ Q (.bool (decide (a ≤ n) && decide (n ≤ b))) H := by
  rw [call71]
  by_cases h : a ≤ n <;> simp [go_sem, WpFun, c71, h]
theorem l68 {sv : AV} {xs : List Nat} (hsv : isL sv xs) (hfew : xs.length ≤ 5) (hsz : ∀ x ∈ xs, 1 ≤ x ∧ x ≤ 30) (hord : xs.Pairwise (· < ·)) {R : PQ} :
    ∀ (k i last : Nat), i + k = xs.length → (∀ j (hj : j < xs.length), i ≤ j → last < xs[j]) → (∀ last', R (.exit 1) [(14, sv), (15, .int .i64 (xs.length : Nat)), (16, .int .i64 (xs.length : Nat)), (3, .int .i64 (last' : Nat)), (17, .bool false)] H) →
    Wp E base bar (.loop c68_l0) [(14, sv), (15, .int .i64 (xs.length : Nat)), (16, .int .i64 (i : Nat)), (3, .int .i64 (last : Nat))] H R := by
  intro k
  induction k with
  | zero =>
    intro i last hi hl h
    obtain rfl : i = xs.length := by omega
    rw [wp_round c68_l0.eq_1]
    simp [go_sem]
    exact h last
  | succ k ih =>
    intro i last hi hl h
    have hlt : i < xs.length := by omega
    obtain ⟨p1, p2⟩ := hsz _ (List.getElem_mem hlt)
    have hll := hl i hlt (Nat.le_refl _)
    have hnx : ∀ j (hj : j < xs.length), i + 1 ≤ j → xs[i] < xs[j] := fun j hj hij => List.pairwise_iff_getElem.1 hord i j hlt hj (by omega)
    have hix := fun (H : Heap) (K : AV → Heap → List Nat → Prop) => hsv.ix (H := H) (K := K) (k := .i64) hlt
    have hn := ih (i + 1) xs[i] (by omega) hnx h
    generalize xs[i] = s at *
    have e1 : (1 : Int) ≤ (s : Int) := by omega
    have e2 : (s : Int) ≤ 30 := by omega
    have e3 : ¬ (s : Int) ≤ (last : Int) := by omega
    rw [wp_round c68_l0.eq_1]
    simp [go_sem, hlt]
    rw [hix]
    simp [go_sem, k71, e1, e2, e3, i64_suc (show i < 1000000 by omega)]
    exact hn
theorem k68 {sv : AV} {xs : List Nat} (hsv : isL sv xs) (h1 : 1 ≤ xs.length) (hfew : xs.length ≤ 5) (hsz : ∀ x ∈ xs, 1 ≤ x ∧ x ≤ 30) (hord : xs.Pairwise (· < ·)) (hQ : Q (.int .i64 0) H) : WpCall E pure base bar 68 [sv] H Q := by
  rw [call68]
  have e1 : ¬ (xs.length : Int) = 0 := by omega
  have e2 : ¬ (5 : Int) < (xs.length : Int) := by omega
  have hne : xs ≠ [] := fun h => by rw [h] at h1; simp at h1
  have hlt : 0 < xs.length := h1
  obtain ⟨p1, p2⟩ := hsz _ (List.getElem_mem hlt)
  have hnx : ∀ j (hj : j < xs.length), 1 ≤ j → xs[0] < xs[j] := fun j hj hij => List.pairwise_iff_getElem.1 hord 0 j hlt hj (by omega)
  have hix := fun (H : Heap) (K : AV → Heap → List Nat → Prop) => hsv.ix (H := H) (K := K) (k := .i64) hlt
  have key := fun (base bar : Nat) (R : PQ) => l68 (base := base) (bar := bar) (H := H) (R := R) hsv hfew hsz hord (xs.length - 1) 1 xs[0] (by omega) hnx
  generalize xs[0] = s at *
  have e3 : (1 : Int) ≤ (s : Int) := by omega
  have e4 : (s : Int) ≤ 30 := by omega
  have e5 : ¬ s = 0 := by omega
  simp [go_sem, WpFun, c68, hsv.frz, hsv.len, e1, e2, hne]
  rw [wp_round c68_l0.eq_1]
  simp [go_sem, hlt]
  simp only [Int.natCast_zero] at hix
  rw [hix]
  simp [go_sem, k71, e3, e4, e5, i64_one]
  refine key _ _ _ fun last' => ?_
  simp [go_sem]
  exact hQ
/-! 69, 19: least and greatest -/
theorem l69 {sv : AV} {xs : List Nat} (hsv : isL sv xs) (hl : xs.length < 1000) {R : PQ} :
    ∀ (k i m : Nat), i + k = xs.length → (∀ m' : Nat, R (.exit 0) [(0, sv), (3, .int .i64 (m' : Nat)), (4, .int .i64 (xs.length : Nat)), (15, .bool false)] H) →
    Wp E base bar (.loop c69_l0) [(0, sv), (3, .int .i64 (m : Nat)), (4, .int .i64 (i : Nat))] H R := by
  intro k
  induction k with
  | zero =>
    intro i m hi h
    obtain rfl : i = xs.length := by omega
    rw [wp_round c69_l0.eq_1]
    simp [go_sem, hsv.len]
    exact h m
  | succ k ih =>
    intro i m hi h
    have hlt : i < xs.length := by omega
    have hix := fun (H : Heap) (K : AV → Heap → List Nat → Prop) => hsv.ix (H := H) (K := K) (k := .i64) hlt
    generalize xs[i] = s at *
    rw [wp_round c69_l0.eq_1]
    simp [go_sem, hsv.len, hlt]
    rw [hix]
    simp [go_sem]
    simp [go_sem, aop, evs, Opd.ev, i64_suc (show i < 1000000 by omega)]
    have hr : (if s < m then (s : Int) else (m : Int)) = ((if s < m then s else m : Nat) : Int) := by split <;> rfl
    rw [hr]
    exact ih (i + 1) _ (by omega) h
theorem l19 {sv : AV} {xs : List Nat} {B : Nat} (hsv : isL sv xs) (hl : xs.length < 1000) (hB : ∀ x ∈ xs, x ≤ B) {R : PQ} :
    ∀ (k i m : Nat), i + k = xs.length → m ≤ B → (∀ m' : Nat, m' ≤ B → R (.exit 0) [(0, sv), (3, .int .i64 (m' : Nat)), (4, .int .i64 (xs.length : Nat)), (15, .bool false)] H) →
    Wp E base bar (.loop c19_l0) [(0, sv), (3, .int .i64 (m : Nat)), (4, .int .i64 (i : Nat))] H R := by
  intro k
  induction k with
  | zero =>
    intro i m hi hm h
    obtain rfl : i = xs.length := by omega
    rw [wp_round c19_l0.eq_1]
    simp [go_sem, hsv.len]
    exact h m hm
  | succ k ih =>
    intro i m hi hm h
    have hlt : i < xs.length := by omega
    have hs := hB _ (List.getElem_mem hlt)
    have hix := fun (H : Heap) (K : AV → Heap → List Nat → Prop) => hsv.ix (H := H) (K := K) (k := .i64) hlt
    generalize xs[i] = s at *
    rw [wp_round c19_l0.eq_1]
    simp [go_sem, hsv.len, hlt]
    rw [hix]
    simp [go_sem, aop, evs, Opd.ev, i64_suc (show i < 1000000 by omega)]
    have hr : (if m < s then (s : Int) else (m : Int)) = ((if m < s then s else m : Nat) : Int) := by split <;> rfl
    rw [hr]
    exact ih (i + 1) _ (by omega) (by split <;> omega) h
theorem k69 {sv : AV} {xs : List Nat} (hsv : isL sv xs) (h1 : 1 ≤ xs.length) (hl : xs.length < 1000) (h : ∀ m : Nat, Q (.int .i64 (m : Nat)) H) : WpCall E pure base bar 69 [sv] H Q := by
  rw [call69]
  have hne : xs ≠ [] := fun h => by rw [h] at h1; simp at h1
  have hlt : 0 < xs.length := h1
  have hix := fun (H : Heap) (K : AV → Heap → List Nat → Prop) => hsv.ix (H := H) (K := K) (k := .i64) hlt
  have e1 : ¬ (xs.length : Int) < 1 := by omega
  simp only [Int.natCast_zero] at hix
  simp [go_sem, WpFun, c69, hsv.frz, hsv.len, hne, e1]
  rw [hix]
  simp [go_sem]
  refine l69 hsv hl (xs.length - 1) 1 xs[0] (by omega) fun m => ?_
  simp [go_sem]
  exact h m
theorem k19 {sv : AV} {xs : List Nat} {B : Nat} (hsv : isL sv xs) (h1 : 1 ≤ xs.length) (hl : xs.length < 1000) (hB : ∀ x ∈ xs, x ≤ B) (h : ∀ m : Nat, m ≤ B → Q (.int .i64 (m : Nat)) H) : WpCall E pure base bar 19 [sv] H Q := by
  rw [call19]
  have hne : xs ≠ [] := fun h => by rw [h] at h1; simp at h1
  have hlt : 0 < xs.length := h1
  have hix := fun (H : Heap) (K : AV → Heap → List Nat → Prop) => hsv.ix (H := H) (K := K) (k := .i64) hlt
  have e1 : ¬ (xs.length : Int) < 1 := by omega
  simp only [Int.natCast_zero] at hix
  simp [go_sem, WpFun, c19, hsv.frz, hsv.len, hne, e1]
  rw [hix]
  simp [go_sem]
  refine l19 hsv hl hB (xs.length - 1) 1 xs[0] (by omega) (hB _ (List.getElem_mem hlt)) fun m hm => ?_
  simp [go_sem]
  exact h m hm
theorem storeA {id : Nat} {ex : Bool} {x y a b : AV} {K : AV → Heap → List Nat → Prop} (h : H[id]? = some (.row 0 [a, b] 0 ex)) (hb : bar ≤ id) (hx : x.top = 0) (hy : y.top = 0) :
    storeWp base bar 2 (.ptr id 0 0) (.agg [x, y]) H K = K (.tup []) (H.set id (.row 0 [x, y] 0 ex)) [id] := by
  rw [storeWp_ptr (size := 2) h rfl rfl (Nat.zero_le _) (by simp) hb (.inr (by simp [AV.cells, tops_cons, tops_nil, hx, hy]))]
  simp [AV.cells, setCells]
theorem aload_a {id : Nat} {ex : Bool} {x y : AV} (h : H[id]? = some (.row 0 [x, y] 0 ex)) : aload H ⟨true, 2⟩ (.ptr id 0 0) = some (.agg [x, y]) := by
  rw [aload_ptr h]; rfl
/-- sizes and stock that are in order -/
structure Fit (xs ys : List Nat) : Prop extends Store xs ys where
  pos : 1 ≤ xs.length
  ord : xs.Pairwise (· < ·)
theorem k33 {sv tv : AV} {xs ys : List Nat} (hsv : isL sv xs) (htv : isL tv ys) (hs : Fit xs ys) (hbar : bar ≤ H.length) (hQ : Q (.tup [.agg [sv, tv], .int .i64 0]) H) : WpCall E pure base bar 33 [sv, tv] H Q := by
  have hlen := hs.len
  have hpos := hs.pos
  have hfew := hs.few
  have e1 : frzAll bar H [sv, tv] = some ([sv, tv], H) := by simp [frzAll, frz.frzs, frzsW, hsv.frz, htv.frz]
  have hb' : (if pure = true then H.length else bar) ≤ H.length := by split <;> omega
  rw [call33, e1]
  simp [go_sem, WpFun, c33]
  refine k68 hsv hpos hfew hs.size hs.ord ?_
  simp [go_sem, hsv.len, htv.len, hlen]
  refine k69 htv (by omega) (by omega) fun m => ?_
  have e2 : ¬ (m : Int) < 0 := by omega
  simp [go_sem, e2]
  refine k19 htv (by omega) (by omega) hs.stock fun m' hm' => ?_
  have e3 : ¬ (40 : Int) < (m' : Int) := by omega
  simp [go_sem, e3, hsv.isTup, htv.isTup, hsv.cells, htv.cells, setCells]
  rw [storeA (a := .nils) (b := .nils) (ex := true) (by simp) hb' hsv.top htv.top]
  simp [go_sem]
  rw [aload_a (x := sv) (y := tv) (ex := true) (by simp)]
  simp [go_sem, hsv.frz, htv.frz, hsv.top, htv.top]
  exact hQ
theorem k36 {sv tv : AV} {xs ys : List Nat} {n : Nat} (hsv : isL sv xs) (htv : isL tv ys) (hs : Fit xs ys) (hn : n ≤ 1000) (hbar : bar ≤ H.length) (hQ : Q (.tup [.agg [sv, tv], .int .i64 0]) H) : WpCall E pure base bar 36 [sv, tv, .int .i64 (n : Nat)] H Q := by
  have e1 : frzAll bar H [sv, tv, .int .i64 (n : Nat)] = some ([sv, tv, .int .i64 (n : Nat)], H) := by simp [frzAll, frz.frzs, frzsW, hsv.frz, htv.frz, frz_int]
  have hb' : (if pure = true then H.length else bar) ≤ H.length := by split <;> omega
  have hle : (n : Int) ≤ 1000 := by omega
  rw [call36, e1]
  simp [go_sem, WpFun, c36]
  refine k33 hsv htv hs (by simp; omega) ?_
  simp [go_sem]
  rw [storeA (a := .nils) (b := .nils) (ex := true) (by simp) (by omega) hsv.top htv.top]
  simp [go_sem, k71, hle]
  rw [aload_a (x := sv) (y := tv) (ex := true) (by simp)]
  simp [go_sem]
  rw [storeA (a := .nils) (b := .nils) (ex := true) (by simp) hb' hsv.top htv.top]
  simp [go_sem]
  rw [aload_a (x := sv) (y := tv) (ex := true) (by simp)]
  simp [go_sem, hsv.frz, htv.frz, hsv.top, htv.top]
  exact hQ
end Go.Proofs.Ytngoldipfgfecaa.Code.Pk
end

section
namespace Go.Proofs.Ytngoldipfgfecaa.Code.Pk
open Go Go.Ab
variable {pure : Bool} {base bar : Nat} {H : Heap} {Q : AV → Heap → Prop}

/-! all numbers that can be filled -/
def posL (W : List Int) (n : Nat) : List Nat := (List.range n).filter fun i => decide (0 < gz W i)
theorem posL_succ {W : List Int} {n : Nat} : posL W (n + 1) = if 0 < gz W n then posL W n ++ [n] else posL W n := by
  unfold posL
  rw [List.range_succ, List.filter_append]
  by_cases h : 0 < gz W n <;> simp [h]
theorem posL_len {W : List Int} {n : Nat} : (posL W n).length ≤ n := Nat.le_trans (List.length_filter_le _ _) (by simp)
theorem growV {l : List Nat} {H0 : Heap} {v : AV} (g : Grow 1 (nats l) H0 v H) : v.isTup = false ∧ v.cells = [v] := by
  rcases g with ⟨_, rfl, _⟩ | ⟨_, _, _, _, rfl, _⟩ <;> exact ⟨rfl, rfl⟩
theorem l34 {W : List Int} (hW : W.length = 1001) {X : AV → Heap} {c N : Nat} (hXget : ∀ v, (X v)[c]? = some (.row 0 [v] 0 true)) (hXset : ∀ v v', (X v).set c (.row 0 [v'] 0 true) = X v') (hXlen : ∀ v, (X v).length = N)
    (hcN : c < N) (hbar : bar ≤ c) (hbase : base ≤ c) {R : PQ} :
    ∀ (k i : Nat), i + k = 1001 → ∀ (v : AV) (H : Heap), Grow 1 (nats (posL W i)) (X v) v H →
    (∀ v' H', Grow 1 (nats (posL W 1001)) (X v') v' H' → R (.exit 0) [(1, .fn 35 [] [.ptr c 0 0]), (7, .lst 1 false (zs W)), (8, .int .i64 1001), (9, .int .i64 1001), (10, .bool false)] H') →
    Wp E base bar (.loop c34_l0) [(1, .fn 35 [] [.ptr c 0 0]), (7, .lst 1 false (zs W)), (8, .int .i64 1001), (9, .int .i64 (i : Nat))] H R := by
  intro k
  induction k with
  | zero =>
    intro i hi v H g h
    obtain rfl : i = 1001 := by omega
    rw [wp_round c34_l0.eq_1]
    simp [go_sem]
    exact h v H g
  | succ k ih =>
    intro i hi v H g h
    have hlt : i < 1001 := by omega
    have hz : (zs W)[i]? = some (.int .i64 (gz W i)) := zs_get (by omega)
    have hp := posL_succ (W := W) (n := i)
    have hpl := posL_len (W := W) (n := i)
    have hnext := fun v H g => ih (i + 1) (by omega) v H g h
    rw [hp] at hnext
    generalize gz W i = w at *
    have lv : aload H ⟨false, 1⟩ (.ptr c 0 0) = some v := by rw [aload_ptr (g.get (hXget v))]; rfl
    have hi1 : (i : Int) < 1001 := by omega
    generalize zs W = Z at *
    rw [wp_round c34_l0.eq_1]
    by_cases hw : 0 < w
    · rw [if_pos hw] at hnext
      simp [go_sem, hi1, hz, hw, call35, c35, WpFun, lv, aop, fillA, setCells, chunks]
      rw [wpop_app]
      simp [Opd.ev, go_sem]
      have hNl := g.len
      rw [hXlen] at hNl
      refine g.nat (by rw [hXlen]; omega) (by rw [hXlen]; omega) (by omega) fun v' H' tc g' => ?_
      obtain ⟨s1, s2⟩ := growV g'
      simp [go_sem]
      rw [storeWp_ptr (size := 1) (g'.get (hXget v)) s1 (by rw [s2]; rfl) (by omega) (by simp) (by omega) (.inl (by omega))]
      have g2 := g'.set (i := c) (b := .row 0 [v'] 0 true) (by rw [hXlen]; omega)
      rw [hXset] at g2
      simp [go_sem, s2, setCells, i64_suc (show i < 1000000 by omega)]
      exact hnext v' _ g2
    · rw [if_neg hw] at hnext
      simp [go_sem, hi1, hz, hw, i64_suc (show i < 1000000 by omega)]
      exact hnext v H g

theorem k9 {sv tv : AV} {xs ys : List Nat} (hsv : isL sv xs) (htv : isL tv ys) (hs : Fit xs ys) (hbar : bar ≤ H.length) (hQ : Q (.tup [outL 1 (nats (posL (waysG xs ys) 1001)), .int .i64 0]) H) : WpCall E pure base bar 9 [sv, tv] H Q := by
  have e1 : frzAll bar H [sv, tv] = some ([sv, tv], H) := by simp [frzAll, frz.frzs, frzsW, hsv.frz, htv.frz]
  have hb' : (if pure = true then H.length else bar) ≤ H.length := by split <;> omega
  have hWl := waysG_len (xs := xs) (ys := ys)
  rw [call9, e1]
  simp [go_sem, WpFun, c9]
  refine k33 hsv htv hs (by omega) ?_
  simp [go_sem]
  rw [storeA (a := .nils) (b := .nils) (ex := true) (by simp) hb' hsv.top htv.top]
  simp [go_sem]
  rw [aload_a (x := sv) (y := tv) (ex := true) (by simp)]
  simp [go_sem, call34, hsv.frz, htv.frz, WpFun, c34, hsv.isTup, htv.isTup]
  rw [aload_a (x := sv) (y := tv) (ex := true) (by simp)]
  simp [go_sem]
  refine k70 hsv htv hs.toStore (by simp; omega) ?_
  generalize waysG xs ys = W at *
  have hzl : (zs W).length = 1001 := by rw [zs_length]; exact hWl
  generalize hZ : zs W = Z at *
  simp [go_sem, hzl]
  rw [← hZ]
  refine l34 hWl (X := fun v => H ++ [.row 0 [sv, tv] 0 true, .row 0 [v] 0 true, .row 0 [sv, tv] 0 true]) (c := H.length + 1) (N := H.length + 3) (fun v => by simp) (fun v v' => by simp) (fun v => by simp) (by omega) (by omega) (by omega)
    1001 0 (by omega) .nils _ Grow.nil fun v' H' g => ?_
  have lv : aload H' ⟨false, 1⟩ (.ptr (H.length + 1) 0 0) = some v' := by rw [aload_ptr (ver := 0) (cs := [v']) (fz := 0) (ex := true) (g.get (by simp))]; rfl
  obtain ⟨H2, h1, _, _, h4⟩ := g.frz (d := 5) (bar := if pure = true then H.length else bar) (by decide) (Nat.one_dvd _) nats_plain (by simp; omega)
  have e4 : H2.take H.length = H := by
    have := congrArg (List.take H.length) h4
    simpa [List.take_take] using this
  have e5 : (outL 1 (nats (posL W 1001))).top = 0 := (isL.out (l := posL W 1001)).top
  simp [go_sem, lv, h1, e4, e5]
  exact hQ
end Go.Proofs.Ytngoldipfgfecaa.Code.Pk
end

section
namespace Go.Proofs.Ytngoldipfgfecaa.Code
open Go Go.Ab

/-! a window that moves: plain -/
section
variable {q : Nat → Int} {t j : Nat} {w : List Nat}
structure Inv (q : Nat → Int) (t j : Nat) (w : List Nat) : Prop where
  srt : w.Pairwise (fun a b => a < b ∧ q a < q b)
  rng : ∀ i ∈ w, i ≤ j ∧ j ≤ i + t
  dom : ∀ i, i ≤ j → j ≤ i + t → ∃ i' ∈ w, i ≤ i' ∧ q i' ≤ q i
/-- what is left when those that cost as much or more are taken off the end -/
def PopOK (q : Nat → Int) (J : Nat) (w w' : List Nat) : Prop := ∃ d, w = w' ++ d ∧ (∀ i ∈ d, q J ≤ q i) ∧ ∀ a r, w' = r ++ [a] → q a < q J
def cutW (t J : Nat) : List Nat → List Nat
  | [] => []
  | h :: r => if h + t < J then r else h :: r
theorem Inv.head (h : Inv q t j w) : ∃ a r, w = a :: r ∧ ∀ i, i ≤ j → j ≤ i + t → q a ≤ q i := by
  cases w with
  | nil =>
    obtain ⟨i', hi, _⟩ := h.dom j (Nat.le_refl _) (by omega)
    simp at hi
  | cons a r =>
    refine ⟨a, r, rfl, fun i h1 h2 => ?_⟩
    obtain ⟨i', hi, _, hq⟩ := h.dom i h1 h2
    rcases List.mem_cons.1 hi with rfl | hi
    · exact hq
    · have := ((List.pairwise_cons.1 h.srt).1 i' hi).2
      omega
theorem srt_last {w : List Nat} {J : Nat} (hs : w.Pairwise (fun a b => a < b ∧ q a < q b)) (hl : ∀ a r, w = r ++ [a] → q a < q J) : ∀ a ∈ w, q a < q J := by
  intro a ha
  rcases List.eq_nil_or_concat w with rfl | ⟨r, b, e⟩
  · simp at ha
  · rw [List.concat_eq_append] at e
    subst e
    have hb := hl b r rfl
    rcases List.mem_append.1 ha with h | h
    · have := (List.pairwise_append.1 hs).2.2 a h b (by simp)
      omega
    · rw [List.mem_singleton] at h; subst h; exact hb
theorem inv_first : Inv q t 0 [0] :=
  ⟨List.pairwise_singleton _ _, fun i hi => by rw [List.mem_singleton] at hi; omega, fun i h1 _ => ⟨0, by simp, by omega, by rw [show i = 0 by omega]; exact Int.le_refl _⟩⟩
theorem inv_step {w' : List Nat} (h : Inv q t j w) (hp : PopOK q (j + 1) w w') : Inv q t (j + 1) (cutW t (j + 1) (w' ++ [j + 1])) := by
  obtain ⟨d, hw, hd, hl⟩ := hp
  have hs' : w'.Pairwise (fun a b => a < b ∧ q a < q b) := by
    have := h.srt; rw [hw] at this; exact (List.pairwise_append.1 this).1
  have hr' : ∀ i ∈ w', i ≤ j ∧ j ≤ i + t := fun i hi => h.rng i (by rw [hw]; exact List.mem_append_left _ hi)
  have hq' := srt_last hs' hl
  have hsu : (w' ++ [j + 1]).Pairwise (fun a b => a < b ∧ q a < q b) := by
    rw [List.pairwise_append]
    refine ⟨hs', List.pairwise_singleton _ _, fun a ha b hb => ?_⟩
    rw [List.mem_singleton] at hb; subst hb
    exact ⟨by have := (hr' a ha).1; omega, hq' a ha⟩
  have hdu : ∀ i, i ≤ j + 1 → j + 1 ≤ i + t → ∃ i' ∈ w' ++ [j + 1], i ≤ i' ∧ q i' ≤ q i := fun i h1 h2 => by
    rcases Nat.lt_or_ge j i with h3 | h3
    · obtain rfl : i = j + 1 := by omega
      exact ⟨j + 1, by simp, Nat.le_refl _, Int.le_refl _⟩
    · obtain ⟨i', hi, hii, hqi⟩ := h.dom i h3 (by omega)
      rw [hw] at hi
      rcases List.mem_append.1 hi with hi | hi
      · exact ⟨i', List.mem_append_left _ hi, hii, hqi⟩
      · exact ⟨j + 1, by simp, by omega, Int.le_trans (hd i' hi) hqi⟩
  have hru : ∀ i ∈ w' ++ [j + 1], i ≤ j + 1 ∧ j + 1 ≤ i + t + 1 := fun i hi => by
    rcases List.mem_append.1 hi with hi | hi
    · have := hr' i hi; omega
    · rw [List.mem_singleton] at hi; omega
  generalize hu : w' ++ [j + 1] = u at *
  cases u with
  | nil => simp at hu
  | cons a r =>
    have hc := List.pairwise_cons.1 hsu
    show Inv q t (j + 1) (if a + t < j + 1 then r else a :: r)
    split
    · rename_i hcut
      refine ⟨hc.2, fun i hi => ?_, fun i h1 h2 => ?_⟩
      · have e1 := hru i (List.mem_cons_of_mem _ hi)
        have e2 := (hc.1 i hi).1
        have e3 := hru a (List.mem_cons_self ..)
        omega
      · obtain ⟨i', hi, hii, hqi⟩ := hdu i h1 h2
        rcases List.mem_cons.1 hi with rfl | hi
        · omega
        · exact ⟨i', hi, hii, hqi⟩
    · rename_i hcut
      refine ⟨hsu, fun i hi => ?_, hdu⟩
      have e1 := hru i hi
      rcases List.mem_cons.1 hi with rfl | hi
      · omega
      · have e2 := (hc.1 i hi).1
        omega
end
end Go.Proofs.Ytngoldipfgfecaa.Code
end

section
namespace Go.Proofs.Ytngoldipfgfecaa.Code.Pk
open Go Go.Ab
variable {pure : Bool} {base bar : Nat} {H : Heap} {Q : AV → Heap → Prop}

/-- what a cost looks at: fewest packets, where the circle begins, the size, the round -/
structure HC (H : Heap) (pf F pr ps pj : Nat) (fl : List Int) (r s j : Nat) : Prop where
  few : H[pf]? = some (.row 0 [.vec F 0 0 fl.length 1] 0 true)
  row : ∃ fz ex, H[F]? = some (.row 0 (zs fl) fz ex)
  r : H[pr]? = some (.row 0 [.int .i64 (r : Nat)] 0 true)
  s : H[ps]? = some (.row 0 [.int .i64 (s : Nat)] 0 true)
  j : H[pj]? = some (.row 0 [.int .i64 (j : Nat)] 0 true)
/-- numbers of packets -/
def FL (fl : List Int) : Prop := fl.length ≤ 1001 ∧ ∀ x, 0 ≤ gz fl x ∧ gz fl x ≤ 1001
theorem k72 {pf F pr ps pj r s j i : Nat} {fl : List Int} (h : HC H pf F pr ps pj fl r s j) (hf : FL fl) (hi : r + i * s < fl.length) (hs : i * s ≤ 1001) (hi2 : i ≤ 1001) (hj2 : j ≤ 1001) :
    WpCall E pure base bar 72 [.int .i64 (i : Nat), .ptr pf 0 0, .ptr pr 0 0, .ptr ps 0 0, .ptr pj 0 0] H Q ↔ Q (.int .i64 (gz fl (r + i * s) + (j : Int) - (i : Int))) H := by
  obtain ⟨hl, hg⟩ := hf
  have hg' := hg (r + i * s)
  obtain ⟨fz, ex, hrow⟩ := h.row
  have l1 : ∀ t : Nat, aload H ⟨false, t⟩ (.ptr pf 0 0) = some (.vec F 0 0 fl.length 1) := fun t => by rw [aload_ptr h.few]; rfl
  have l2 : ∀ t : Nat, aload H ⟨false, t⟩ (.ptr pr 0 0) = some (.int .i64 (r : Nat)) := fun t => by rw [aload_ptr h.r]; rfl
  have l3 : ∀ t : Nat, aload H ⟨false, t⟩ (.ptr ps 0 0) = some (.int .i64 (s : Nat)) := fun t => by rw [aload_ptr h.s]; rfl
  have l4 : ∀ t : Nat, aload H ⟨false, t⟩ (.ptr pj 0 0) = some (.int .i64 (j : Nat)) := fun t => by rw [aload_ptr h.j]; rfl
  have l5 := loadZ (s := 1) hrow hi
  have e1 : IntKind.i64.wrap ((i : Int) * (s : Int)) = ((i * s : Nat) : Int) := by
    rw [← Int.natCast_mul, i64_nat (by omega)]
  generalize i * s = y at *
  have e2 : IntKind.i64.wrap ((r : Int) + (y : Int)) = ((r + y : Nat) : Int) := by
    rw [← Int.natCast_add, i64_nat (by omega)]
  generalize r + y = x at *
  generalize gz fl x = g at *
  have e3 : IntKind.i64.wrap (g + (j : Int)) = g + (j : Int) := Go.IntWalk.i64_in _ (by omega)
  have e4 : IntKind.i64.wrap (g + (j : Int) - (i : Int)) = g + (j : Int) - (i : Int) := Go.IntWalk.i64_in _ (by omega)
  rw [call72]
  simp [go_sem, WpFun, c72, l1, l2, l3, l4, e1, e2, l5, e3, e4, hi]

/-- the window: a list in a block of its own, from some cell on -/
def WL (id : Nat) (v : AV) (w : List Nat) (H : Heap) : Prop := (v = .nils ∧ w = []) ∨ ∃ ver off cs, v = .vec id ver off w.length 1 ∧ H[id]? = some (.row ver cs 0 false) ∧ off + w.length ≤ cs.length ∧ (cs.drop off).take w.length = nats w
theorem WL.len {id : Nat} {v : AV} {w : List Nat} {K : AV → Heap → List Nat → Prop} {H' : Heap} (h : WL id v w H) : lenWp (some v) H' K = K (.int .i64 (w.length : Int)) H' [] := by
  rcases h with ⟨rfl, rfl⟩ | ⟨ver, off, cs, rfl, _⟩ <;> rfl
theorem WL.ix {id : Nat} {v : AV} {w : List Nat} (h : WL id v w H) {i : Nat} (hi : i < w.length) : ∃ ver off, (∀ {k : IntKind} {H' : Heap} {K : AV → Heap → List Nat → Prop}, ixaSWp 1 (some v) (some (.int k (i : Int))) H' K = K (.ptr id ver off) H' []) ∧ aload H ⟨false, 1⟩ (.ptr id ver off) = some (.int .i64 ((w[i] : Nat) : Int)) := by
  rcases h with ⟨rfl, rfl⟩ | ⟨ver, off, cs, rfl, h2, h3, h4⟩
  · simp at hi
  · refine ⟨ver, off + i, fun {k H' K} => by simp [go_sem, hi], ?_⟩
    rw [aload_ptr h2, part_one]
    have := congrArg (fun l => l[i]?) h4
    simp only [List.getElem?_take, hi, if_true, List.getElem?_drop] at this
    rw [this, nats_get hi]
theorem WL.mono {id : Nat} {v : AV} {w : List Nat} {H' : Heap} (h : WL id v w H) (hH : H'[id]? = H[id]?) : WL id v w H' := by
  rcases h with h | ⟨ver, off, cs, h1, h2, h3⟩
  · exact .inl h
  · exact .inr ⟨ver, off, cs, h1, by rw [hH]; exact h2, h3⟩
theorem bound_nat {z m : Nat} (h : z ≤ m) : bound1 (.int .i64 (z : Int)) m = some z := by simp [bound1, AV.asNat, h]
/-- less the last -/
theorem WL.pop {id : Nat} {v : AV} {w : List Nat} {a : Nat} (h : WL id v (w ++ [a]) H) : ∃ v', aslice H (.slc 1) v none (some (.int .i64 (w.length : Int))) none = some v' ∧ WL id v' w H := by
  rcases h with ⟨_, h⟩ | ⟨ver, off, cs, rfl, h2, h3, h4⟩
  · simp at h
  · rw [List.length_append, List.length_singleton] at h3 h4
    refine ⟨.vec id ver off w.length 1, ?_, .inr ⟨ver, off, cs, rfl, h2, by omega, ?_⟩⟩
    · have hb : bound1 (.int .i64 (w.length : Int)) ((cs.length - off) / 1) = some w.length := bound_nat (by rw [Nat.div_one]; omega)
      simp only [aslice, h2, optBound, hb]
      simp
    · have := congrArg (List.take w.length) h4
      rw [List.take_take, Nat.min_eq_left (by omega)] at this
      rw [this]
      simp [nats]
/-- less the first -/
theorem WL.tail {id : Nat} {v : AV} {w : List Nat} {a : Nat} (h : WL id v (a :: w) H) : ∃ v', aslice H (.slc 1) v (some (.int .i64 1)) none none = some v' ∧ ((w ≠ [] → WL id v' w H)) := by
  rcases h with ⟨_, h⟩ | ⟨ver, off, cs, rfl, h2, h3, h4⟩
  · simp at h
  · rw [List.length_cons] at h3 h4
    by_cases hw : w = []
    · subst hw
      have hb : bound1 (.int .i64 1) 1 = some 1 := by rfl
      by_cases hc : off + 1 < cs.length
      · exact ⟨.vec id ver (off + 1) 0 1, by simp [aslice, h2, optBound, hb, hc], fun h => absurd rfl h⟩
      · exact ⟨.lst 1 false [], by simp [aslice, h2, optBound, hb, hc], fun h => absurd rfl h⟩
    · have hb : bound1 (.int .i64 1) (w.length + 1) = some 1 := by simp [bound1, AV.asNat]
      have hl : 0 < w.length := List.length_pos_iff.2 hw
      refine ⟨.vec id ver (off + 1) w.length 1, ?_, fun _ => .inr ⟨ver, off + 1, cs, rfl, h2, by omega, ?_⟩⟩
      · simp only [aslice, h2, optBound, List.length_cons, hb]
        simp
        exact fun _ => hw
      · have := congrArg (List.drop 1) h4
        rw [List.drop_take, List.drop_drop] at this
        rw [show w.length = w.length + 1 - 1 by omega, this]
        simp [nats]
theorem take_set_end {α : Type} : ∀ {l : List α} {n : Nat} {x : α}, n < l.length → (l.set n x).take (n + 1) = l.take n ++ [x]
  | [], n, x, h => by simp at h
  | y :: r, 0, x, _ => by simp
  | y :: r, n + 1, x, h => by
    have := take_set_end (l := r) (n := n) (x := x) (by simpa using h)
    simp [this]
theorem drop_set_at {α : Type} : ∀ {l : List α} {o n : Nat} {x : α}, (l.set (o + n) x).drop o = (l.drop o).set n x
  | [], o, n, x => by simp
  | y :: r, 0, n, x => by simp
  | y :: r, o + 1, n, x => by
    have := drop_set_at (l := r) (o := o) (n := n) (x := x)
    rw [show o + 1 + n = (o + n) + 1 by omega]
    simpa using this
/-- one more -/
theorem appW {id : Nat} {v : AV} {w : List Nat} {J : Nat} {ex : Bool} {K : AV → Heap → List Nat → Prop} (h : WL id v w H) (hid : v = .nils ∨ (bar ≤ id ∧ base ≤ id)) (hl : w.length < 100000)
    (hK : ∀ v' H' tc id', WL id' v' (w ++ [J]) H' → (id' = id ∧ v ≠ .nils ∨ id' = H.length) → H.length ≤ H'.length → (∀ i, i ≠ id' → i < H.length → H'[i]? = H[i]?) → id' < H'.length → K v' H' tc) :
    appWp base bar 1 8 (some v) (some (.lst 1 ex [.int .i64 (J : Int)])) H K := by
  have e : asrc H 1 (.lst 1 ex [.int .i64 (J : Int)]) = some [.int .i64 (J : Int)] := by rw [asrc_lst]; rfl
  rcases h with ⟨rfl, rfl⟩ | ⟨ver, off, cs, rfl, h2, h3, h4⟩
  · simp [appWp, e, go_sem, aappend, AV.noVec.noVecs, AV.noVec]
    refine hK _ _ _ H.length (.inr ⟨0, 0, [.int .i64 (J : Int)], rfl, by simp, by simp, by simp [nats]⟩) (.inr rfl) (by simp) (fun i _ hi => ?_) (by simp)
    rw [List.getElem?_append_left hi]
  · have hidl : id < H.length := by
      rcases Nat.lt_or_ge id H.length with h | h
      · exact h
      · rw [List.getElem?_eq_none h] at h2; cases h2
    have hb : bar ≤ id ∧ base ≤ id := by
      rcases hid with h | h
      · cases h
      · exact h
    have hnt : ¬ cs.length < off + w.length := by omega
    have hnl : ¬ 140737488355328 < (w.length + 1) * 8 := by omega
    have hsl : (cs.drop off).take w.length ++ [AV.int .i64 (J : Int)] = nats (w ++ [J]) := by rw [h4, nats_append, nats_one]
    have hkeep : ∀ (b : Blk) (i : Nat), i ≠ id → i < H.length → (H.set id b)[i]? = H[i]? := fun b i h1 _ => by rw [List.getElem?_set_ne (Ne.symm h1)]
    by_cases hcap : off + (w.length + 1) ≤ cs.length
    · have hset : ((setCells cs (off + w.length) [AV.int .i64 (J : Int)]).drop off).take (w.length + 1) = nats (w ++ [J]) := by
        rw [← hsl]
        show ((cs.set (off + w.length) _).drop off).take (w.length + 1) = _
        rw [drop_set_at, take_set_end (by rw [List.length_drop]; omega)]
      have hwl : WL id (.vec id ver off (w.length + 1) 1) (w ++ [J]) (H.set id (.row ver (setCells cs (off + w.length) [AV.int .i64 (J : Int)]) 0 false)) :=
        .inr ⟨ver, off, _, by simp, by rw [List.getElem?_set_self hidl], by simp [setCells]; omega, by simpa using hset⟩
      have hg := fun tc => hK _ _ tc id hwl (.inl ⟨rfl, by simp⟩) (by simp) (fun i h1 h2 => hkeep _ i h1 h2) (by simpa using hidl)
      rcases Nat.eq_zero_or_pos off with h0 | h0
      · subst h0
        simp only [Nat.zero_add] at hg hcap hnt
        simp [appWp, e, go_sem, aappend, AV.noVec.noVecs, AV.noVec, h2, hb, hnt, hnl, hcap]
        exact hg _
      · simp [appWp, e, go_sem, aappend, AV.noVec.noVecs, AV.noVec, h2, hb, hnt, hnl, hcap, h0, show ¬ off = 0 by omega]
        exact hg _
    · have hwl : ∀ fz : Nat, WL id (.vec id (ver + 1) 0 (w.length + 1) 1) (w ++ [J]) (H.set id (.row (ver + 1) ((cs.drop off).take w.length ++ [AV.int .i64 (J : Int)]) 0 false)) := fun fz =>
        .inr ⟨ver + 1, 0, _, by simp, by rw [List.getElem?_set_self hidl], by rw [hsl, nats_length]; simp, by rw [hsl, List.drop_zero, List.take_of_length_le (by rw [nats_length]; exact Nat.le_refl _)]⟩
      have hg := fun tc => hK _ _ tc id (hwl 0) (.inl ⟨rfl, by simp⟩) (by simp) (fun i h1 h2 => hkeep _ i h1 h2) (by simpa using hidl)
      rcases Nat.eq_zero_or_pos off with h0 | h0
      · subst h0
        simp only [Nat.zero_add, List.drop_zero] at hg hcap hnt
        simp [appWp, e, go_sem, aappend, AV.noVec.noVecs, AV.noVec, h2, hb, hnt, hnl, hcap]
        exact hg _
      · simp [appWp, e, go_sem, aappend, AV.noVec.noVecs, AV.noVec, h2, hb, hnt, hnl, hcap, h0, show ¬ off = 0 by omega]
        exact hg _
end Go.Proofs.Ytngoldipfgfecaa.Code.Pk
end

section
namespace Go.Proofs.Ytngoldipfgfecaa.Code.Pk
open Go Go.Ab
variable {pure : Bool} {base bar : Nat} {H : Heap} {Q : AV → Heap → Prop}

/-- what a number of packets costs, less the round -/
def qF (fl : List Int) (r s : Nat) (i : Nat) : Int := gz fl (r + i * s) - (i : Int)
/-- the frame inside a circle -/
def frW (pf pr ps pj : Nat) (v1 v2 v8 v9 v11 v12 v13 v67 v68 v : AV) (rest : List (Nat × AV)) : List (Nat × AV) :=
  (1, v1) :: (2, v2) :: (6, .ptr pf 0 0) :: (8, v8) :: (9, v9) :: (10, .ptr ps 0 0) :: (11, v11) :: (12, v12) :: (13, v13) :: (67, v67) :: (68, v68) :: (14, .ptr pr 0 0) :: (15, v) :: (16, .ptr pj 0 0) :: rest
theorem l37a {pf F pr ps pj r s J id : Nat} {fl : List Int} (h : HC H pf F pr ps pj fl r s J) (hf : FL fl) (hJ : J ≤ 1001) (hJx : r + J * s < fl.length) (hs1 : 1 ≤ s) {v1 v2 v8 v9 v11 v12 v13 v67 v68 : AV} {w0 : List Nat} (hw0 : ∀ i ∈ w0, i ≤ J) (hl0 : w0.length < 100000) {R : PQ} :
    ∀ (k : Nat) (w d : List Nat) (v : AV), w.length = k → w0 = w ++ d → (∀ i ∈ d, qF fl r s J ≤ qF fl r s i) → WL id v w H →
    (∀ v' w', PopOK (qF fl r s) J w0 w' → WL id v' w' H → (v = .nils → v' = .nils) → R (.exit 8) (frW pf pr ps pj v1 v2 v8 v9 v11 v12 v13 v67 v68 v' [(17, .fn 72 [] [.ptr pf 0 0, .ptr pr 0 0, .ptr ps 0 0, .ptr pj 0 0]), (97, .bool false)]) H) →
    Wp E base bar (.loop c37_l1) (frW pf pr ps pj v1 v2 v8 v9 v11 v12 v13 v67 v68 v [(17, .fn 72 [] [.ptr pf 0 0, .ptr pr 0 0, .ptr ps 0 0, .ptr pj 0 0])]) H R := by
  intro k
  induction k with
  | zero =>
    intro w d v hk hw hd hwl hR
    obtain rfl : w = [] := List.length_eq_zero_iff.1 hk
    rw [wp_round c37_l1.eq_1]
    simp [go_sem, frW, hwl.len]
    exact hR v [] ⟨d, by simpa using hw, hd, fun a r h => by simp at h⟩ hwl (fun e => e)
  | succ k ih =>
    intro w d v hk hw hd hwl hR
    rcases List.eq_nil_or_concat w with rfl | ⟨w1, a, e⟩
    · simp at hk
    rw [List.concat_eq_append] at e
    subst e
    have hk1 : w1.length = k := by simpa using hk
    have hlen : (w1 ++ [a]).length = k + 1 := hk
    have ha0 : a ≤ J := hw0 a (by rw [hw]; simp)
    have hkl : k + 1 < 100000 := by have := congrArg List.length hw; rw [List.length_append, hlen] at this; omega
    have hax : r + a * s < fl.length := Nat.lt_of_le_of_lt (Nat.add_le_add_left (Nat.mul_le_mul_right s ha0) r) hJx
    obtain ⟨ver, off, x1, x2⟩ := hwl.ix (i := k) (by omega)
    have hget : (w1 ++ [a])[k]'(by omega) = a := by simp [← hk1]
    rw [hget] at x2
    have hms : J * s ≤ 1001 := by have := hf.1; omega
    have hams : a * s ≤ 1001 := Nat.le_trans (Nat.mul_le_mul_right s ha0) hms
    have c1 := fun (P : Bool) (B C : Nat) (Q : AV → Heap → Prop) => k72 (pure := P) (base := B) (bar := C) (Q := Q) h hf (i := a) hax hams (by omega) hJ
    have c2 := fun (P : Bool) (B C : Nat) (Q : AV → Heap → Prop) => k72 (pure := P) (base := B) (bar := C) (Q := Q) h hf (i := J) hJx hms hJ hJ
    have lj : aload H ⟨false, 1⟩ (.ptr pj 0 0) = some (.int .i64 (J : Nat)) := by rw [aload_ptr h.j]; rfl
    have e1 : IntKind.i64.wrap (k : Int) = (k : Int) := i64_nat (by omega)
    have e2 : (0 : Int) < (k : Int) + 1 := by omega
    obtain ⟨v', p1, p2⟩ := hwl.pop
    rw [hk1] at p1
    have hlw := hwl.len (H' := H) (K := fun _ _ _ => True)
    have hlen2 : ∀ {H' : Heap} {K : AV → Heap → List Nat → Prop}, lenWp (some v) H' K = K (.int .i64 ((k : Int) + 1)) H' [] := by
      intro H' K; rw [hwl.len, hlen]; rfl
    rw [wp_round c37_l1.eq_1]
    by_cases hc : qF fl r s J ≤ qF fl r s a
    · have hc' : gz fl (r + J * s) + (J : Int) - (J : Int) ≤ gz fl (r + a * s) + (J : Int) - (a : Int) := by
        unfold qF at hc; omega
      have next := ih w1 (a :: d) v' hk1 (by rw [hw]; simp) (fun i hi => by
        rcases List.mem_cons.1 hi with rfl | hi
        · exact hc
        · exact hd i hi) p2
      generalize gz fl (r + J * s) + (J : Int) - (J : Int) = g1 at *
      generalize gz fl (r + a * s) + (J : Int) - (a : Int) = g2 at *
      simp [go_sem, frW, hlen2, e1, e2, x1, x2, c1, c2, lj, hc', aop, Opd.evo, p1]
      have hnn : v ≠ .nils := fun e => by
        subst e
        rcases hwl with ⟨_, h⟩ | ⟨_, _, _, h, _⟩
        · simp at h
        · cases h
      exact next fun v'' w'' q1 q2 _ => hR v'' w'' q1 q2 fun e => absurd e hnn
    · have hc' : ¬ gz fl (r + J * s) + (J : Int) - (J : Int) ≤ gz fl (r + a * s) + (J : Int) - (a : Int) := by
        unfold qF at hc; omega
      have hfin := hR v (w1 ++ [a]) ⟨d, hw, hd, fun a' r' e => by
        have := List.append_inj_right' e rfl
        simp at this; subst this; omega⟩ hwl (fun e => e)
      generalize gz fl (r + J * s) + (J : Int) - (J : Int) = g1 at *
      generalize gz fl (r + a * s) + (J : Int) - (a : Int) = g2 at *
      simp [go_sem, frW, hlen2, e1, e2, x1, x2, c1, c2, lj, hc']
      exact hfin
end Go.Proofs.Ytngoldipfgfecaa.Code.Pk
end

section
namespace Go.Proofs.Ytngoldipfgfecaa.Code.Pk
open Go Go.Ab
variable {pure : Bool} {base bar : Nat} {H : Heap} {Q : AV → Heap → Prop}

/-- a number is filled by c packets of a size and the fewest of the others -/
def GoodAt (fl : List Int) (s t x : Nat) (v c : Int) : Prop := ∃ c0 : Nat, c = (c0 : Int) ∧ c0 ≤ t ∧ c0 * s ≤ x ∧ v = min 1001 (gz fl (x - c0 * s) + (c0 : Int)) ∧ ∀ c', c' ≤ t → c' * s ≤ x → gz fl (x - c0 * s) + (c0 : Int) ≤ gz fl (x - c' * s) + (c' : Int)
theorem good_of {fl : List Int} {r s t J a : Nat} {w : List Nat} (hrs : r < s) (hI : Inv (qF fl r s) t J (a :: w)) (h : ∀ i, i ≤ J → J ≤ i + t → qF fl r s a ≤ qF fl r s i) :
    GoodAt fl s t (r + J * s) (min 1001 (gz fl (r + a * s) + (J : Int) - (a : Int))) ((J : Int) - (a : Int)) := by
  obtain ⟨ha1, ha2⟩ := hI.rng a (List.mem_cons_self ..)
  have hms : (J - a) * s = J * s - a * s := Nat.sub_mul J a s
  have hle : a * s ≤ J * s := Nat.mul_le_mul_right s ha1
  have hx : r + J * s - (J - a) * s = r + a * s := by omega
  refine ⟨J - a, by omega, by omega, by omega, ?_, fun c' h1 h2 => ?_⟩
  · rw [hx]; congr 1; omega
  · rw [hx]
    rcases Nat.lt_or_ge J c' with h3 | h3
    · exfalso
      have e1 : (J + 1) * s ≤ c' * s := Nat.mul_le_mul_right s h3
      rw [Nat.succ_mul] at e1
      omega
    · have h4 := h (J - c') (by omega) (by omega)
      unfold qF at h4
      have e1 : (J - c') * s = J * s - c' * s := Nat.sub_mul J c' s
      have e2 : c' * s ≤ J * s := Nat.mul_le_mul_right s h3
      rw [show r + J * s - c' * s = r + (J - c') * s by omega]
      omega

/-- the blocks below: next and by as they are now -/
def HB (Hb : Heap) (N1 N2 : Nat) (nx bx : List Int) : Heap := (Hb.set N1 (.row 0 (zs nx) 0 true)).set N2 (.row 0 (zs bx) 0 true)
/-- the blocks below, as they are before a size -/
structure Base (Hb : Heap) (pf F ps N1 N2 : Nat) (fl : List Int) (s : Nat) : Prop where
  few : Hb[pf]? = some (.row 0 [.vec F 0 0 fl.length 1] 0 true)
  row : ∃ fz ex, Hb[F]? = some (.row 0 (zs fl) fz ex)
  s : Hb[ps]? = some (.row 0 [.int .i64 (s : Nat)] 0 true)
  l1 : N1 < Hb.length
  l2 : N2 < Hb.length
  n12 : N1 ≠ N2
  d1 : N1 ≠ pf ∧ N1 ≠ F ∧ N1 ≠ ps
  d2 : N2 ≠ pf ∧ N2 ≠ F ∧ N2 ≠ ps
theorem lt_of_get {H : Heap} {i : Nat} {b : Blk} (h : H[i]? = some b) : i < H.length := by
  rcases Nat.lt_or_ge i H.length with h' | h'
  · exact h'
  · rw [List.getElem?_eq_none h'] at h; cases h
theorem HB_len {Hb : Heap} {N1 N2 : Nat} {nx bx : List Int} : (HB Hb N1 N2 nx bx).length = Hb.length := by simp [HB]
theorem HB_other {Hb : Heap} {N1 N2 i : Nat} {nx bx : List Int} (h1 : N1 ≠ i) (h2 : N2 ≠ i) : (HB Hb N1 N2 nx bx)[i]? = Hb[i]? := by
  unfold HB; rw [List.getElem?_set_ne h2, List.getElem?_set_ne h1]
theorem HB_1 {Hb : Heap} {N1 N2 : Nat} {nx bx : List Int} (h : N1 < Hb.length) (hne : N1 ≠ N2) : (HB Hb N1 N2 nx bx)[N1]? = some (.row 0 (zs nx) 0 true) := by
  unfold HB; rw [List.getElem?_set_ne (Ne.symm hne), List.getElem?_set_self h]
theorem HB_2 {Hb : Heap} {N1 N2 : Nat} {nx bx : List Int} (h : N2 < Hb.length) : (HB Hb N1 N2 nx bx)[N2]? = some (.row 0 (zs bx) 0 true) := by
  unfold HB; rw [List.getElem?_set_self (by simpa using h)]
theorem HB_set1 {Hb : Heap} {N1 N2 : Nat} {nx bx nx' : List Int} (hne : N1 ≠ N2) : (HB Hb N1 N2 nx bx).set N1 (.row 0 (zs nx') 0 true) = HB Hb N1 N2 nx' bx := by
  unfold HB; rw [List.set_comm _ _ (Ne.symm hne), List.set_set]
theorem HB_set2 {Hb : Heap} {N1 N2 : Nat} {nx bx bx' : List Int} : (HB Hb N1 N2 nx bx).set N2 (.row 0 (zs bx') 0 true) = HB Hb N1 N2 nx bx' := by
  unfold HB; rw [List.set_set]
theorem take_get {H X : Heap} {k i : Nat} (h : H.take k = X) (hi : i < k) : H[i]? = X[i]? := by
  rw [← h, List.getElem?_take_of_lt hi]
/-- the heap inside a circle -/
structure CH (Hb H : Heap) (pf F ps N1 N2 pj id : Nat) (fl nx bx : List Int) (r s J : Nat) (v : AV) (w : List Nat) : Prop where
  bs : Base Hb pf F ps N1 N2 fl s
  tk : H.take Hb.length = HB Hb N1 N2 nx bx
  fr : H[Hb.length]? = some (.row 0 [.int .i64 (r : Nat)] 0 true)
  fj : H[pj]? = some (.row 0 [.int .i64 (J : Nat)] 0 true)
  lp : Hb.length < pj
  win : WL id v w H
  wid : v = .nils ∨ (Hb.length < id ∧ id ≠ pj)
section
variable {Hb : Heap} {pf F ps N1 N2 pj id r s J : Nat} {fl nx bx : List Int} {v : AV} {w : List Nat}
theorem CH.hc (h : CH Hb H pf F ps N1 N2 pj id fl nx bx r s J v w) : HC H pf F Hb.length ps pj fl r s J := by
  have hb := h.bs
  obtain ⟨fz, ex, hrow⟩ := hb.row
  have g : ∀ i, N1 ≠ i → N2 ≠ i → i < Hb.length → H[i]? = Hb[i]? := fun i h1 h2 h3 => by rw [take_get h.tk h3, HB_other h1 h2]
  exact ⟨by rw [g pf hb.d1.1 hb.d2.1 (lt_of_get hb.few)]; exact hb.few, ⟨fz, ex, by rw [g F hb.d1.2.1 hb.d2.2.1 (lt_of_get hrow)]; exact hrow⟩, h.fr,
    by rw [g ps hb.d1.2.2 hb.d2.2.2 (lt_of_get hb.s)]; exact hb.s, h.fj⟩
theorem CH.n1 (h : CH Hb H pf F ps N1 N2 pj id fl nx bx r s J v w) : H[N1]? = some (.row 0 (zs nx) 0 true) := by
  rw [take_get h.tk h.bs.l1, HB_1 h.bs.l1 h.bs.n12]
theorem CH.n2 (h : CH Hb H pf F ps N1 N2 pj id fl nx bx r s J v w) : H[N2]? = some (.row 0 (zs bx) 0 true) := by
  rw [take_get h.tk h.bs.l2, HB_2 h.bs.l2]
theorem CH.len (h : CH Hb H pf F ps N1 N2 pj id fl nx bx r s J v w) : pj < H.length := lt_of_get h.fj
theorem CH.win' (h : CH Hb H pf F ps N1 N2 pj id fl nx bx r s J v w) {v' : AV} {w' : List Nat} (hw : WL id v' w' H) (hn : v = .nils → v' = .nils) : CH Hb H pf F ps N1 N2 pj id fl nx bx r s J v' w' :=
  ⟨h.bs, h.tk, h.fr, h.fj, h.lp, hw, h.wid.imp hn fun x => x⟩
/-- after one more in the window -/
theorem CH.app (h : CH Hb H pf F ps N1 N2 pj id fl nx bx r s J v w) {v' : AV} {w' : List Nat} {H' : Heap} {id' : Nat} (hw : WL id' v' w' H') (hi : id' = id ∧ v ≠ .nils ∨ id' = H.length) (hk : ∀ i, i ≠ id' → i < H.length → H'[i]? = H[i]?) :
    CH Hb H' pf F ps N1 N2 pj id' fl nx bx r s J v' w' := by
  have hlen := h.len
  have hpj := h.lp
  have hid : Hb.length < id' ∧ id' ≠ pj := by
    rcases hi with ⟨rfl, hv⟩ | rfl
    · rcases h.wid with h' | h'
      · exact absurd h' hv
      · exact h'
    · omega
  refine ⟨h.bs, ?_, by rw [hk _ (by omega) (by omega)]; exact h.fr, by rw [hk _ (Ne.symm hid.2) hlen]; exact h.fj, hpj, hw, .inr hid⟩
  rw [← h.tk]
  apply List.ext_getElem?
  intro i
  rw [List.getElem?_take, List.getElem?_take]
  split
  · exact hk i (by omega) (by omega)
  · rfl
theorem CH.set1 (h : CH Hb H pf F ps N1 N2 pj id fl nx bx r s J v w) {nx' : List Int} : CH Hb (H.set N1 (.row 0 (zs nx') 0 true)) pf F ps N1 N2 pj id fl nx' bx r s J v w := by
  have h1 := h.bs.l1
  have hpj := h.lp
  refine ⟨h.bs, by rw [List.take_set, h.tk, HB_set1 h.bs.n12], by rw [List.getElem?_set_ne (by omega)]; exact h.fr, by rw [List.getElem?_set_ne (by omega)]; exact h.fj, hpj, ?_, h.wid⟩
  rcases h.wid with hv | ⟨h3, _⟩
  · subst hv
    rcases h.win with ⟨_, hw⟩ | ⟨_, _, _, e, _⟩
    · exact .inl ⟨rfl, hw⟩
    · cases e
  · exact h.win.mono (by rw [List.getElem?_set_ne (by omega)])
theorem CH.set2 (h : CH Hb H pf F ps N1 N2 pj id fl nx bx r s J v w) {bx' : List Int} : CH Hb (H.set N2 (.row 0 (zs bx') 0 true)) pf F ps N1 N2 pj id fl nx bx' r s J v w := by
  have h1 := h.bs.l2
  have hpj := h.lp
  refine ⟨h.bs, by rw [List.take_set, h.tk, HB_set2], by rw [List.getElem?_set_ne (by omega)]; exact h.fr, by rw [List.getElem?_set_ne (by omega)]; exact h.fj, hpj, ?_, h.wid⟩
  rcases h.wid with hv | ⟨h3, _⟩
  · subst hv
    rcases h.win with ⟨_, hw⟩ | ⟨_, _, _, e, _⟩
    · exact .inl ⟨rfl, hw⟩
    · cases e
  · exact h.win.mono (by rw [List.getElem?_set_ne (by omega)])
/-- the next round's number, in a new block -/
theorem CH.next (h : CH Hb H pf F ps N1 N2 pj id fl nx bx r s J v w) {J' : Nat} : CH Hb (H ++ [.row 0 [.int .i64 (J' : Nat)] 0 true]) pf F ps N1 N2 H.length id fl nx bx r s J' v w := by
  have hlen := h.len
  have hpj := h.lp
  refine ⟨h.bs, by rw [List.take_append_of_le_length (by omega)]; exact h.tk, by rw [List.getElem?_append_left (by omega)]; exact h.fr, by simp, by omega, ?_, ?_⟩
  · rcases h.win with hw | ⟨ver, off, cs, h1, h2, h3⟩
    · exact .inl hw
    · exact .inr ⟨ver, off, cs, h1, by rw [List.getElem?_append_left (lt_of_get h2)]; exact h2, h3⟩
  · rcases h.win with ⟨hv, _⟩ | ⟨ver, off, cs, h1, h2, _⟩
    · exact .inl hv
    · rcases h.wid with hv | ⟨h3, _⟩
      · exact .inl hv
      · exact .inr ⟨h3, by have := lt_of_get h2; omega⟩
end

/-- the frame inside a circle, with lists as they are -/
theorem store1 {H : Heap} {x : AV} {k : IntKind} {y : Int} {K : AV → Heap → List Nat → Prop} (hb : bar ≤ H.length) : storeWp base bar 1 (.ptr H.length 0 0) (.int k y) (H ++ [.row 0 [x] 0 true]) K = K (.tup []) (H ++ [.row 0 [.int k y] 0 true]) [H.length] := by
  rw [storeWp_ptr (size := 1) (ver := 0) (cs := [x]) (fz := 0) (ex := true) (by simp) rfl rfl (Nat.zero_le _) (by simp) hb (.inr (by simp [AV.cells, tops_cons, tops_nil, top_int]))]
  simp [AV.cells, setCells]
theorem aload1 {H : Heap} {x : AV} {s : Nat} : aload (H ++ [.row 0 [x] 0 true]) ⟨false, s⟩ (.ptr H.length 0 0) = some x := by
  rw [aload_ptr (ver := 0) (cs := [x]) (fz := 0) (ex := true) (by simp)]; rfl
theorem gz_set_self {l : List Int} {i : Nat} {v : Int} (h : i < l.length) : gz (l.set i v) i = v := by simp [gz, h]
theorem gz_set_ne {l : List Int} {i x : Nat} {v : Int} (h : x ≠ i) : gz (l.set i v) x = gz l x := by simp [gz, List.getElem?_set_ne (Ne.symm h)]
theorem cutW_len {t J : Nat} : ∀ {u : List Nat}, (cutW t J u).length ≤ u.length
  | [] => Nat.le_refl _
  | h :: r => by
    show (if h + t < J then r else h :: r).length ≤ _
    split <;> simp
theorem l37b {Hb : Heap} {pf F ps N1 N2 r s t n : Nat} {fl nx0 bx0 : List Int} (hf : FL fl) (hn : fl.length = n + 1) (hrs : r < s) (hrn : r ≤ n) (hs30 : s ≤ 30) (ht : t ≤ 40) (hbar : bar ≤ N1 ∧ bar ≤ N2) (hbase : base ≤ Hb.length) (hbar2 : bar ≤ Hb.length) {v2 v8 v9 v67 v68 : AV} {R : PQ} :
    ∀ (k J : Nat), k + J = n + 1 → ∀ (pj id : Nat) (v : AV) (w : List Nat) (nx bx : List Int) (H : Heap), CH Hb H pf F ps N1 N2 pj id fl nx bx r s J v w → nx.length = n + 1 → bx.length = n + 1 →
    (J = 0 ∧ w = [] ∨ ∃ j, J = j + 1 ∧ Inv (qF fl r s) t j w) → w.length ≤ J →
    (∀ j, j < J → GoodAt fl s t (r + j * s) (gz nx (r + j * s)) (gz bx (r + j * s))) → (∀ x, (∀ j, j < J → x ≠ r + j * s) → gz nx x = gz nx0 x ∧ gz bx x = gz bx0 x) →
    (∀ pj' id' v' w' nx' bx' H' J', CH Hb H' pf F ps N1 N2 pj' id' fl nx' bx' r s J' v' w' → nx'.length = n + 1 → bx'.length = n + 1 → n < r + J' * s →
      (∀ j, j < J' → GoodAt fl s t (r + j * s) (gz nx' (r + j * s)) (gz bx' (r + j * s))) → (∀ x, (∀ j, j < J' → x ≠ r + j * s) → gz nx' x = gz nx0 x ∧ gz bx' x = gz bx0 x) →
      R (.exit 6) (frW pf Hb.length ps pj' (.int .i64 (n : Nat)) v2 v8 v9 (.int .i64 (t : Nat)) (.vec N1 0 0 (n + 1) 1) (.vec N2 0 0 (n + 1) 1) v67 v68 v' [(77, .bool false)]) H') →
    Wp E base bar (.loop c37_l2) (frW pf Hb.length ps pj (.int .i64 (n : Nat)) v2 v8 v9 (.int .i64 (t : Nat)) (.vec N1 0 0 (n + 1) 1) (.vec N2 0 0 (n + 1) 1) v67 v68 v []) H R := by
  intro k
  induction k with
  | zero =>
    intro J hJ pj id v w nx bx H hC hnl hbl _ _ hG hO hR
    have hc := hC.hc
    have lr : aload H ⟨false, 1⟩ (.ptr Hb.length 0 0) = some (.int .i64 (r : Nat)) := by rw [aload_ptr hc.r]; rfl
    have ls : aload H ⟨false, 1⟩ (.ptr ps 0 0) = some (.int .i64 (s : Nat)) := by rw [aload_ptr hc.s]; rfl
    have lj : aload H ⟨false, 1⟩ (.ptr pj 0 0) = some (.int .i64 (J : Nat)) := by rw [aload_ptr hc.j]; rfl
    have hn1 : n ≤ 1000 := by have := hf.1; omega
    have hJs : J * s ≤ 1001 * 30 := Nat.mul_le_mul (by omega) hs30
    have hJ1 : J * 1 ≤ J * s := Nat.mul_le_mul_left J (by omega)
    have e1 : IntKind.i64.wrap ((J : Int) * (s : Int)) = ((J * s : Nat) : Int) := by
      rw [← Int.natCast_mul, i64_nat (by omega)]
    have e2 : IntKind.i64.wrap ((r : Int) + ((J * s : Nat) : Int)) = ((r + J * s : Nat) : Int) := by
      rw [← Int.natCast_add, i64_nat (by omega)]
    have hfin := hR pj id v w nx bx H J hC hnl hbl (by omega) hG hO
    obtain ⟨y, hy⟩ : ∃ y, y = J * s := ⟨_, rfl⟩
    rw [← hy] at e1 e2 hJs hJ1
    obtain ⟨X, hX⟩ : ∃ X, X = r + y := ⟨_, rfl⟩
    rw [← hX] at e2
    have hx' : ¬ (X : Int) ≤ (n : Int) := by omega
    rw [wp_round c37_l2.eq_1]
    simp [go_sem, frW, lr, ls, lj, e1, e2, hx']
    exact hfin
  | succ k ih =>
    intro J hJ pj id v w nx bx H hC hnl hbl hI hwl hG hO hR
    have hc := hC.hc
    have lr : aload H ⟨false, 1⟩ (.ptr Hb.length 0 0) = some (.int .i64 (r : Nat)) := by rw [aload_ptr hc.r]; rfl
    have ls : aload H ⟨false, 1⟩ (.ptr ps 0 0) = some (.int .i64 (s : Nat)) := by rw [aload_ptr hc.s]; rfl
    have lj : aload H ⟨false, 1⟩ (.ptr pj 0 0) = some (.int .i64 (J : Nat)) := by rw [aload_ptr hc.j]; rfl
    have hn1 : n ≤ 1000 := by have := hf.1; omega
    have hJs : J * s ≤ 1001 * 30 := Nat.mul_le_mul (by omega) hs30
    have e1 : IntKind.i64.wrap ((J : Int) * (s : Int)) = ((J * s : Nat) : Int) := by
      rw [← Int.natCast_mul, i64_nat (by omega)]
    have e2 : IntKind.i64.wrap ((r : Int) + ((J * s : Nat) : Int)) = ((r + J * s : Nat) : Int) := by
      rw [← Int.natCast_add, i64_nat (by omega)]
    have hGn := hG
    have hnextG := ih (J + 1) (by omega)
    obtain ⟨y, hy⟩ : ∃ y, y = J * s := ⟨_, rfl⟩
    rw [← hy] at e1 e2 hJs
    obtain ⟨X, hX⟩ : ∃ X, X = r + y := ⟨_, rfl⟩
    rw [← hX] at e2
    have hq : ∀ {β : Prop}, (r + J * s = X → β) → β := fun f => f (by rw [hX, hy])
    rw [wp_round c37_l2.eq_1]
    by_cases hx : X ≤ n
    · have hx' : (X : Int) ≤ (n : Int) := by omega
      have hJ1 : J ≤ 1001 := by omega
      have hJx : r + J * s < fl.length := by rw [← hy, ← hX]; omega
      have hw0 : ∀ i ∈ w, i ≤ J := fun i hi => by
        rcases hI with ⟨_, rfl⟩ | ⟨j, rfl, h⟩
        · simp at hi
        · have := (h.rng i hi).1; omega
      simp [go_sem, frW, lr, ls, lj, e1, e2, hx']
      refine l37a (w0 := w) hc hf hJ1 hJx (by omega) hw0 (by omega) w.length w [] v rfl (by simp) (by simp) hC.win fun u1 w1 hp hw1 hnil => ?_
      have hC1 := hC.win' hw1 hnil
      have hw1l : w1.length ≤ w.length := by obtain ⟨d, e, _⟩ := hp; rw [e]; simp
      simp [go_sem, frW, lj, aop, fillA, setCells, chunks]
      rw [wpop_app]
      simp [Opd.ev, go_sem]
      have hbid : u1 = .nils ∨ (bar ≤ id ∧ base ≤ id) := by
        rcases hC1.wid with h | ⟨h, _⟩
        · exact .inl h
        · exact .inr ⟨by omega, by omega⟩
      refine appW hw1 hbid (by omega) fun v2' H1 tc id' hw2 hid hlen hkeep hidl => ?_
      have hC2 := hC1.app hw2 hid hkeep
      have hInv : Inv (qF fl r s) t J (cutW t J (w1 ++ [J])) := by
        rcases hI with ⟨rfl, rfl⟩ | ⟨j, rfl, h⟩
        · obtain ⟨d, e, _⟩ := hp
          obtain rfl : w1 = [] := by cases w1 <;> simp at e ⊢
          exact inv_first
        · exact inv_step h hp
      have hcl : (cutW t J (w1 ++ [J])).length ≤ J + 1 := Nat.le_trans cutW_len (by simp; omega)
      have hc2 := hC2.hc
      have lj2 : aload H1 ⟨false, 1⟩ (.ptr pj 0 0) = some (.int .i64 (J : Nat)) := by rw [aload_ptr hc2.j]; rfl
      have lr2 : aload H1 ⟨false, 1⟩ (.ptr Hb.length 0 0) = some (.int .i64 (r : Nat)) := by rw [aload_ptr hc2.r]; rfl
      have ls2 : aload H1 ⟨false, 1⟩ (.ptr ps 0 0) = some (.int .i64 (s : Nat)) := by rw [aload_ptr hc2.s]; rfl
      have e5 : IntKind.i64.wrap ((J : Int) - (t : Int)) = (J : Int) - (t : Int) := Go.IntWalk.i64_in _ (by omega)
      generalize hu : w1 ++ [J] = u at *
      cases u with
      | nil => simp at hu
      | cons a ur =>
      obtain ⟨ver, off, x1, x2⟩ := hw2.ix (i := 0) (by simp)
      simp only [Int.natCast_zero, List.getElem_cons_zero] at x1 x2
      simp [go_sem, x1, x2, lj2, e5]
      by_cases hcut : a + t < J
      · have hcut' : (a : Int) < (J : Int) - (t : Int) := by omega
        have hcu : cutW t J (a :: ur) = ur := if_pos hcut
        rw [hcu] at hInv hcl
        obtain ⟨b0, br, hur, _⟩ := hInv.head
        subst hur
        obtain ⟨v3, z1, z2⟩ := hw2.tail
        have hC3 := hC2.win' (z2 (by simp)) (fun e => by
          subst e
          rcases hw2 with ⟨_, h⟩ | ⟨_, _, _, h, _⟩
          · simp at h
          · cases h)
        have hI3 := hInv
        obtain ⟨ver3, off3, y1, y2⟩ := hC3.win.ix (i := 0) (by simp)
        simp only [Int.natCast_zero, List.getElem_cons_zero] at y1 y2
        obtain ⟨hb1, hb2⟩ := hI3.rng b0 (List.mem_cons_self ..)
        have hbs : b0 * s ≤ J * s := Nat.mul_le_mul_right s hb1
        have hbx : r + b0 * s < fl.length := by omega
        have hJs2 : J * s ≤ 1001 := by rw [← hy]; omega
        have c1 := fun (P : Bool) (B C : Nat) (Q : AV → Heap → Prop) => k72 (pure := P) (base := B) (bar := C) (Q := Q) hC3.hc hf (i := b0) hbx (by omega) (by omega) hJ1
        have hgood := good_of hrs hI3 (by obtain ⟨a', r', e, h⟩ := hI3.head; simp at e; rw [← e.1] at h; exact h)
        rw [← hy, ← hX] at hgood
        have e6 : IntKind.i64.wrap ((J : Int) - (b0 : Int)) = (J : Int) - (b0 : Int) := Go.IntWalk.i64_in _ (by omega)
        have e7 : IntKind.i64.wrap ((J : Int) + 1) = ((J + 1 : Nat) : Int) := i64_suc (by omega)
        have hmin : (if gz fl (r + b0 * s) + (J : Int) - (b0 : Int) < 1001 then gz fl (r + b0 * s) + (J : Int) - (b0 : Int) else 1001) = min 1001 (gz fl (r + b0 * s) + (J : Int) - (b0 : Int)) := by split <;> omega
        generalize gz fl (r + b0 * s) + (J : Int) - (b0 : Int) = g1 at *
        simp [go_sem, hcut', aop, Opd.evo, z1, lr2, ls2, lj2, e1, e2, y1, y2, c1, evs, Opd.ev, e6]
        refine ⟨by omega, ?_⟩
        rw [hmin, storeZ hC3.n1 (by omega) hbar.1]
        have hC4 := hC3.set1 (nx' := nx.set X (min 1001 g1))
        have hlp := hC3.lp
        have hl1 := hC3.bs.l1
        have hl2 := hC3.bs.l2
        have hid3 : Hb.length < id' := by
          rcases hC3.wid with h | h
          · subst h
            rcases hC3.win with ⟨_, h⟩ | ⟨_, _, _, h, _⟩
            · simp at h
            · cases h
          · exact h.1
        generalize hH4 : H1.set N1 (.row 0 (zs (nx.set X (min 1001 g1))) 0 true) = H4 at *
        simp [go_sem]
        refine ⟨by omega, ?_⟩
        rw [storeZ hC4.n2 (by omega) hbar.2]
        have hC5 := hC4.set2 (bx' := bx.set X ((J : Int) - (b0 : Int)))
        have hH4l : H4.length = H1.length := by rw [← hH4]; simp
        generalize hH5 : H4.set N2 (.row 0 (zs (bx.set X ((J : Int) - (b0 : Int)))) 0 true) = H5 at *
        have lj5 : aload H5 ⟨false, 1⟩ (.ptr pj 0 0) = some (.int .i64 (J : Nat)) := by rw [aload_ptr hC5.hc.j]; rfl
        have hpl := hC5.len
        simp [go_sem, clearOf, show ¬ N1 = id' by omega, show ¬ N1 = pj by omega, show ¬ N2 = pj by omega, show ¬ id' = N1 by omega, show ¬ pj = N1 by omega, show ¬ pj = N2 by omega, lj5]
        have hbH5 : bar ≤ H5.length := by omega
        rw [store1 hbH5]
        simp [go_sem, aload1, e7]
        rw [store1 hbH5]
        simp [go_sem]
        have hXr : X = r + J * s := by rw [hX, hy]
        have hne : ∀ j, j ≠ J → r + j * s ≠ X := fun j hj he => by
          rw [hXr] at he
          have h1 : j * s = J * s := by omega
          exact hj (Nat.eq_of_mul_eq_mul_right (by omega) h1)
        refine hnextG H5.length id' v3 (b0 :: br) (nx.set X (min 1001 g1)) (bx.set X ((J : Int) - (b0 : Int))) _ hC5.next (by simp [hnl]) (by simp [hbl]) (.inr ⟨J, rfl, hI3⟩) hcl (fun j hj => ?_) (fun x hx2 => ?_) hR
        · by_cases hjJ : j = J
          · subst hjJ
            rw [← hXr, gz_set_self (by omega), gz_set_self (by omega)]
            exact hgood
          · rw [gz_set_ne (hne j hjJ), gz_set_ne (hne j hjJ)]
            exact hG j (by omega)
        · have hxX : x ≠ X := by rw [hXr]; exact hx2 J (by omega)
          rw [gz_set_ne hxX, gz_set_ne hxX]
          exact hO x fun j hj => hx2 j (by omega)
      · have hcut' : ¬ (a : Int) < (J : Int) - (t : Int) := by omega
        have hcu : cutW t J (a :: ur) = a :: ur := if_neg hcut
        rw [hcu] at hInv hcl
        obtain ⟨b0, hb0⟩ : ∃ b0, b0 = a := ⟨_, rfl⟩
        obtain ⟨br, hbr⟩ : ∃ br, br = ur := ⟨_, rfl⟩
        obtain ⟨v3, hv3⟩ : ∃ v3, v3 = v2' := ⟨_, rfl⟩
        subst hb0 hbr hv3
        have hC3 := hC2
        have hI3 := hInv
        obtain ⟨ver3, off3, y1, y2⟩ := hC3.win.ix (i := 0) (by simp)
        simp only [Int.natCast_zero, List.getElem_cons_zero] at y1 y2
        obtain ⟨hb1, hb2⟩ := hI3.rng b0 (List.mem_cons_self ..)
        have hbs : b0 * s ≤ J * s := Nat.mul_le_mul_right s hb1
        have hbx : r + b0 * s < fl.length := by omega
        have hJs2 : J * s ≤ 1001 := by rw [← hy]; omega
        have c1 := fun (P : Bool) (B C : Nat) (Q : AV → Heap → Prop) => k72 (pure := P) (base := B) (bar := C) (Q := Q) hC3.hc hf (i := b0) hbx (by omega) (by omega) hJ1
        have hgood := good_of hrs hI3 (by obtain ⟨a', r', e, h⟩ := hI3.head; simp at e; rw [← e.1] at h; exact h)
        rw [← hy, ← hX] at hgood
        have e6 : IntKind.i64.wrap ((J : Int) - (b0 : Int)) = (J : Int) - (b0 : Int) := Go.IntWalk.i64_in _ (by omega)
        have e7 : IntKind.i64.wrap ((J : Int) + 1) = ((J + 1 : Nat) : Int) := i64_suc (by omega)
        have hmin : (if gz fl (r + b0 * s) + (J : Int) - (b0 : Int) < 1001 then gz fl (r + b0 * s) + (J : Int) - (b0 : Int) else 1001) = min 1001 (gz fl (r + b0 * s) + (J : Int) - (b0 : Int)) := by split <;> omega
        generalize gz fl (r + b0 * s) + (J : Int) - (b0 : Int) = g1 at *
        simp [go_sem, hcut', aop, lr2, ls2, lj2, e1, e2, y1, y2, c1, evs, Opd.ev, e6]
        refine ⟨by omega, ?_⟩
        rw [hmin, storeZ hC3.n1 (by omega) hbar.1]
        have hC4 := hC3.set1 (nx' := nx.set X (min 1001 g1))
        have hlp := hC3.lp
        have hl1 := hC3.bs.l1
        have hl2 := hC3.bs.l2
        have hid3 : Hb.length < id' := by
          rcases hC3.wid with h | h
          · subst h
            rcases hC3.win with ⟨_, h⟩ | ⟨_, _, _, h, _⟩
            · simp at h
            · cases h
          · exact h.1
        generalize hH4 : H1.set N1 (.row 0 (zs (nx.set X (min 1001 g1))) 0 true) = H4 at *
        simp [go_sem]
        refine ⟨by omega, ?_⟩
        rw [storeZ hC4.n2 (by omega) hbar.2]
        have hC5 := hC4.set2 (bx' := bx.set X ((J : Int) - (b0 : Int)))
        have hH4l : H4.length = H1.length := by rw [← hH4]; simp
        generalize hH5 : H4.set N2 (.row 0 (zs (bx.set X ((J : Int) - (b0 : Int)))) 0 true) = H5 at *
        have lj5 : aload H5 ⟨false, 1⟩ (.ptr pj 0 0) = some (.int .i64 (J : Nat)) := by rw [aload_ptr hC5.hc.j]; rfl
        have hpl := hC5.len
        simp [go_sem, clearOf, show ¬ N1 = id' by omega, show ¬ N1 = pj by omega, show ¬ N2 = pj by omega, show ¬ id' = N1 by omega, show ¬ pj = N1 by omega, show ¬ pj = N2 by omega, lj5]
        have hbH5 : bar ≤ H5.length := by omega
        rw [store1 hbH5]
        simp [go_sem, aload1, e7]
        rw [store1 hbH5]
        simp [go_sem]
        have hXr : X = r + J * s := by rw [hX, hy]
        have hne : ∀ j, j ≠ J → r + j * s ≠ X := fun j hj he => by
          rw [hXr] at he
          have h1 : j * s = J * s := by omega
          exact hj (Nat.eq_of_mul_eq_mul_right (by omega) h1)
        refine hnextG H5.length id' v3 (b0 :: br) (nx.set X (min 1001 g1)) (bx.set X ((J : Int) - (b0 : Int))) _ hC5.next (by simp [hnl]) (by simp [hbl]) (.inr ⟨J, rfl, hI3⟩) hcl (fun j hj => ?_) (fun x hx2 => ?_) hR
        · by_cases hjJ : j = J
          · subst hjJ
            rw [← hXr, gz_set_self (by omega), gz_set_self (by omega)]
            exact hgood
          · rw [gz_set_ne (hne j hjJ), gz_set_ne (hne j hjJ)]
            exact hG j (by omega)
        · have hxX : x ≠ X := by rw [hXr]; exact hx2 J (by omega)
          rw [gz_set_ne hxX, gz_set_ne hxX]
          exact hO x fun j hj => hx2 j (by omega)
    · have hx' : ¬ (X : Int) ≤ (n : Int) := by omega
      simp [go_sem, frW, lr, ls, lj, e1, e2, hx']
      exact hR pj id v w nx bx H J hC hnl hbl (by rw [← hy, ← hX]; omega) hG hO
end Go.Proofs.Ytngoldipfgfecaa.Code.Pk
end

section
namespace Go.Proofs.Ytngoldipfgfecaa.Code.Pk
open Go Go.Ab
variable {pure : Bool} {base bar : Nat} {H : Heap} {Q : AV → Heap → Prop}

theorem l37c {Hb : Heap} {pf F ps N1 N2 s t n m : Nat} {fl : List Int} (hf : FL fl) (hn : fl.length = n + 1) (hs1 : 1 ≤ s) (hs30 : s ≤ 30) (ht : t ≤ 40) (hb : Base Hb pf F ps N1 N2 fl s) (hm : m = min s (n + 1)) (hbar : bar ≤ N1 ∧ bar ≤ N2) (hbar2 : bar ≤ Hb.length)
    {v2 v8 v9 : AV} (h2 : v2.top ≤ Hb.length) (h8 : v8.top ≤ Hb.length) (h9 : v9.top ≤ Hb.length) {R : PQ} :
    ∀ (k r : Nat), r + k = m → ∀ (nx bx : List Int), nx.length = n + 1 → bx.length = n + 1 → (∀ x, x ≤ n → x % s < r → GoodAt fl s t x (gz nx x) (gz bx x)) →
    (∀ nx' bx', nx'.length = n + 1 → bx'.length = n + 1 → (∀ x, x ≤ n → GoodAt fl s t x (gz nx' x) (gz bx' x)) →
      R (.exit 4) [(1, .int .i64 (n : Nat)), (2, v2), (6, .ptr pf 0 0), (8, v8), (9, v9), (10, .ptr ps 0 0), (11, .int .i64 (t : Nat)), (12, .vec N1 0 0 (n + 1) 1), (13, .vec N2 0 0 (n + 1) 1), (67, .int .i64 (m : Nat)), (68, .int .i64 (m : Nat)), (69, .bool false)] (HB Hb N1 N2 nx' bx')) →
    Wp E base bar (.loop c37_l3) [(1, .int .i64 (n : Nat)), (2, v2), (6, .ptr pf 0 0), (8, v8), (9, v9), (10, .ptr ps 0 0), (11, .int .i64 (t : Nat)), (12, .vec N1 0 0 (n + 1) 1), (13, .vec N2 0 0 (n + 1) 1), (67, .int .i64 (m : Nat)), (68, .int .i64 (r : Nat))] (HB Hb N1 N2 nx bx) R := by
  have hn1 : n ≤ 1000 := by have := hf.1; omega
  intro k
  induction k with
  | zero =>
    intro r hr nx bx hnl hbl hG h
    obtain rfl : r = m := by omega
    rw [wp_round c37_l3.eq_1]
    simp [go_sem]
    exact h nx bx hnl hbl fun x hx => hG x hx (by
      have h1 : x % s < s := Nat.mod_lt _ (by omega)
      have h2 : x % s ≤ x := Nat.mod_le _ _
      omega)
  | succ k ih =>
    intro r hr nx bx hnl hbl hG h
    have hrm : r < m := by omega
    have hrs : r < s := by omega
    have hrn : r ≤ n := by omega
    have hHl := HB_len (Hb := Hb) (N1 := N1) (N2 := N2) (nx := nx) (bx := bx)
    obtain ⟨HX, hHX⟩ : ∃ HX, HX = HB Hb N1 N2 nx bx := ⟨_, rfl⟩
    rw [← hHX] at hHl ⊢
    have hbX : bar ≤ HX.length := by omega
    rw [wp_round c37_l3.eq_1]
    simp [go_sem, hrm]
    rw [store1 hbX]
    simp [go_sem]
    have st2 : ∀ K : AV → Heap → List Nat → Prop, storeWp HX.length bar 1 (.ptr (HX.length + 1) 0 0) (.int .i64 0) (HX ++ [.row 0 [.int .i64 (r : Nat)] 0 true, .row 0 [.int .i64 0] 0 true]) K = K (.tup []) (HX ++ [.row 0 [.int .i64 (r : Nat)] 0 true, .row 0 [.int .i64 0] 0 true]) [HX.length + 1] := fun K => by
      have := store1 (base := HX.length) (bar := bar) (H := HX ++ [.row 0 [.int .i64 (r : Nat)] 0 true]) (x := .int .i64 0) (k := .i64) (y := 0) (K := K) (by simp; omega)
      simpa using this
    rw [st2]
    simp [go_sem]
    have hC : CH Hb (HX ++ [.row 0 [.int .i64 (r : Nat)] 0 true, .row 0 [.int .i64 ((0 : Nat) : Int)] 0 true]) pf F ps N1 N2 (HX.length + 1) 0 fl nx bx r s 0 .nils [] :=
      ⟨hb, by rw [List.take_append_of_le_length (by omega), ← hHX, ← hHl, List.take_length], by rw [← hHl]; simp, by simp, by omega, .inl ⟨rfl, rfl⟩, .inl rfl⟩
    rw [hHl] at hC ⊢
    refine l37b (v2 := v2) (v8 := v8) (v9 := v9) (v67 := .int .i64 (m : Nat)) (v68 := .int .i64 (r : Nat)) (nx0 := nx) (bx0 := bx) hf hn hrs hrn hs30 ht hbar (by omega) hbar2 (n + 1) 0 (by omega) (Hb.length + 1) 0 .nils [] nx bx _ hC hnl hbl (.inl ⟨rfl, rfl⟩) (by simp) (fun j hj => by omega) (fun x _ => ⟨rfl, rfl⟩) fun pj' id' v' w' nx' bx' H' J' hC' hnl' hbl' hJ' hG' hO' => ?_
    have hpf := lt_of_get hb.few
    have hps := lt_of_get hb.s
    have hl1 := hb.l1
    have hl2 := hb.l2
    have htk := hC'.tk
    have next := ih (r + 1) (by omega) nx' bx' hnl' hbl' (fun x hx hxr => ?_) h
    · simp [go_sem, frW, htk, ftop, AV.top, i64_suc (show r < 1000000 by omega)]
      refine ⟨by omega, ?_⟩
      exact next
    · rcases Nat.lt_or_ge (x % s) r with h1 | h1
      · have hne : ∀ j, x ≠ r + j * s := fun j he => by
          have : x % s = r := by rw [he, Nat.add_mul_mod_self_right, Nat.mod_eq_of_lt hrs]
          omega
        obtain ⟨o1, o2⟩ := hO' x fun j _ => hne j
        rw [o1, o2]
        exact hG x hx h1
      · have hxs : x % s = r := by omega
        have hdiv : x = r + x / s * s := by
          have := Nat.div_add_mod x s
          rw [Nat.mul_comm] at this; omega
        have hj : x / s < J' := by
          rcases Nat.lt_or_ge (x / s) J' with h' | h'
          · exact h'
          · have := Nat.mul_le_mul_right s h'
            omega
        rw [hdiv]
        exact hG' _ hj
end Go.Proofs.Ytngoldipfgfecaa.Code.Pk
end

section
namespace Go.Proofs.Ytngoldipfgfecaa.Code.Pk
open Go Go.Ab
variable {pure : Bool} {base bar : Nat} {H : Heap} {Q : AV → Heap → Prop}

theorem aop_mv {x : Opd} {fr : List (Nat × AV)} {v : AV} (hx : x.ev fr = some v) : aop base bar (.mv x) fr H = some (v, H, []) := by simp [aop, hx]
theorem mk_zn {x : Opd} {fr : List (Nat × AV)} {N : Nat} (hx : x.ev fr = some (.int .i64 (N : Int))) (hN : N ≤ 1001) : aop base bar (.mkslice [.int .i64 0] 8 x x) fr H = some (.vec H.length 0 0 N 1, H ++ [.row 0 (zs (List.replicate N 0)) 0 true], []) := by
  have hN2 : N * 8 ≤ 140737488355328 := by omega
  simp only [aop, hx]
  simp [AV.asNat, hN2, ← zs_rep]
/-- the heap between two sizes: packets of the sizes from k on have been looked at -/
structure FS (H H0 : Heap) (n0 pf F b C n m k : Nat) (sv tv : AV) (fl : List Int) (B : Nat → Nat) (bys : Nat → List Int) (cells : List AV) : Prop where
  tk : H.take n0 = H0
  lo : n0 ≤ pf ∧ n0 ≤ C ∧ n0 ≤ b
  few : H[pf]? = some (.row 0 [.vec F 0 0 (n + 1) 1] 0 true)
  row : H[F]? = some (.row 0 (zs fl) 0 true)
  st : H[b]? = some (.row 0 [sv, tv] 0 true)
  ch : H[C]? = some (.row 0 cells 0 true)
  cl : cells.length = m
  dif : pf ≠ C ∧ pf ≠ b ∧ C ≠ b ∧ F ≠ pf ∧ F ≠ C
  by_ : ∀ i, k ≤ i → i < m → cells[i]? = some (.vec (B i) 0 0 (n + 1) 1) ∧ H[B i]? = some (.row 0 (zs (bys i)) 0 true) ∧ B i ≠ pf ∧ B i ≠ C ∧ (bys i).length = n + 1
/-- the fewest packets of the sizes from k on, and how many of each size -/
def Chain (n : Nat) (xs ys : List Nat) (fls bys : Nat → List Int) (m k : Nat) : Prop := ∀ i, k ≤ i → i < m → ∀ x, x ≤ n → GoodAt (fls (i + 1)) (xs.getD i 0) (ys.getD i 0) x (gz (fls i) x) (gz (bys i) x)
theorem l37d {n0 pf b C n m : Nat} {sv tv : AV} {xs ys : List Nat} {H0 : Heap} (hsv : isL sv xs) (htv : isL tv ys) (hs : Store xs ys) (hxl : xs.length = m) (hn : n ≤ 1000) (hbar : bar ≤ n0) (hbase : base ≤ n0) {R : PQ} :
    ∀ (k : Nat), k ≤ m → ∀ (F : Nat) (fls bys : Nat → List Int) (B : Nat → Nat) (cells : List AV) (H : Heap), FS H H0 n0 pf F b C n m k sv tv (fls k) B bys cells → (∀ i, (fls i).length = n + 1 ∧ FL (fls i)) → Chain n xs ys fls bys m k →
    (∀ F' fls' bys' B' cells' H', FS H' H0 n0 pf F' b C n m 0 sv tv (fls' 0) B' bys' cells' → (∀ i, (fls' i).length = n + 1 ∧ FL (fls' i)) → Chain n xs ys fls' bys' m 0 → fls' m = fls m →
      R (.exit 2) [(1, .int .i64 (n : Nat)), (2, .ptr b 0 0), (6, .ptr pf 0 0), (8, .vec C 0 0 m 1), (9, .int .i64 (-1)), (45, .bool false)] H') →
    Wp E base bar (.loop c37_l4) [(1, .int .i64 (n : Nat)), (2, .ptr b 0 0), (6, .ptr pf 0 0), (8, .vec C 0 0 m 1), (9, .int .i64 ((k : Int) - 1))] H R := by
  intro k
  induction k with
  | zero =>
    intro _ F fls bys B cells H hF hfl hCh h
    rw [wp_round c37_l4.eq_1]
    simp [go_sem]
    exact h F fls bys B cells H hF hfl hCh rfl
  | succ k ih =>
    intro hkm F fls bys B cells H hF hfl hCh h
    have hkx : k < xs.length := by omega
    have hky : k < ys.length := by have := hs.len; omega
    obtain ⟨hs1, hs2⟩ := hs.size _ (List.getElem_mem hkx)
    have ht := hs.stock _ (List.getElem_mem hky)
    have i1 := fun (H : Heap) (K : AV → Heap → List Nat → Prop) => hsv.ix (H := H) (K := K) (k := .i64) hkx
    have i2 := fun (H : Heap) (K : AV → Heap → List Nat → Prop) => htv.ix (H := H) (K := K) (k := .i64) hky
    have hxs : xs.getD k 0 = xs[k] := by simp [List.getD_eq_getElem?_getD, List.getElem?_eq_getElem hkx]
    have hys : ys.getD k 0 = ys[k] := by simp [List.getD_eq_getElem?_getD, List.getElem?_eq_getElem hky]
    generalize xs[k] = s at *
    generalize ys[k] = t at *
    have la : aload H ⟨false, 1⟩ (.ptr b 0 0) = some sv := by rw [aload_ptr hF.st]; rfl
    have lb : aload H ⟨false, 1⟩ (.ptr b 0 1) = some tv := by rw [aload_ptr hF.st]; rfl
    have e0 : ((k + 1 : Nat) : Int) - 1 = (k : Int) := by omega
    rw [e0, wp_round c37_l4.eq_1]
    simp [go_sem, la, lb]
    rw [i1]
    simp [go_sem, lb]
    rw [i2]
    simp [go_sem]
    have hlo := hF.lo
    have hHn : n0 ≤ H.length := by have := lt_of_get hF.few; omega
    have hbl0 := lt_of_get hF.st
    have hpl := lt_of_get hF.few
    have hCl := lt_of_get hF.ch
    have hbH : bar ≤ H.length := by omega
    have e1 : IntKind.i64.wrap ((n : Int) + 1) = ((n + 1 : Nat) : Int) := i64_suc (by omega)
    rw [store1 hbH]
    simp [go_sem, clearOf, show ¬ H.length = b by omega, show ¬ b = H.length by omega]
    rw [wp_twin]
    simp only [wptwin_cons, wptwin_nil]
    have ab : ∀ (u : Nat) (H : Heap), aop base bar (.bin .add (.t u) (.c (.int .i64 1))) [(u, .int .i64 (n : Int))] H = some (.int .i64 ((n : Int) + 1), H, []) := fun u H => by
      simp [aop, Opd.ev, fgetC, abin, binInt, e1]
    have mk : ∀ (u : Nat) (H : Heap), aop base bar (.mkslice [.int .i64 0] 8 (.t u) (.t u)) [(u, .int .i64 ((n : Int) + 1))] H = some (.vec H.length 0 0 (n + 1) 1, H ++ [.row 0 (zs (List.replicate (n + 1) 0)) 0 true], []) := fun u H =>
      mk_zn (N := n + 1) (by simp [Opd.ev, fgetC]) (by omega)
    have lz : (List.replicate (n + 1) (0 : Int)).length = n + 1 := List.length_replicate
    generalize List.replicate (n + 1) (0 : Int) = zz at *
    simp [go_sem, twWp, aop_mv, ab, mk, AV.vlen]
    obtain ⟨m', hm'⟩ : ∃ m', m' = min s (n + 1) := ⟨_, rfl⟩
    have hmin : (if (n : Int) + 1 < (s : Int) then (n : Int) + 1 else (s : Int)) = (m' : Int) := by rw [hm']; split <;> omega
    obtain ⟨Hb, hHb⟩ : ∃ Hb, Hb = H ++ [Blk.row 0 [.int .i64 (s : Int)] 0 true, Blk.row 0 (zs zz) 0 true, Blk.row 0 (zs zz) 0 true] := ⟨_, rfl⟩
    have hHbl : Hb.length = H.length + 3 := by rw [hHb]; simp
    have hold : ∀ i, i < H.length → Hb[i]? = H[i]? := fun i hi => by rw [hHb, List.getElem?_append_left hi]
    have g0 : Hb[H.length]? = some (.row 0 [.int .i64 (s : Int)] 0 true) := by rw [hHb]; simp
    have g1 : Hb[H.length + 1]? = some (.row 0 (zs zz) 0 true) := by rw [hHb]; simp
    have g2 : Hb[H.length + 2]? = some (.row 0 (zs zz) 0 true) := by rw [hHb]; simp
    have hFl := lt_of_get hF.row
    have hfk := hfl (k + 1)
    have hB : Base Hb pf F H.length (H.length + 1) (H.length + 2) (fls (k + 1)) s :=
      ⟨by rw [hold _ hpl, hfk.1]; exact hF.few, ⟨0, true, by rw [hold _ hFl]; exact hF.row⟩, g0, by omega, by omega, by omega, by omega, by omega⟩
    have hHB : Hb = HB Hb (H.length + 1) (H.length + 2) zz zz := by
      unfold HB
      rw [set_self g1, set_self g2]
    have ls : aload Hb ⟨false, 1⟩ (.ptr H.length 0 0) = some (.int .i64 (s : Int)) := by rw [aload_ptr g0]; rfl
    rw [← hHb]
    simp [go_sem, ls, aop, evs, Opd.ev, e1, hmin]
    rw [hHB]
    refine l37c (v2 := .ptr b 0 0) (v8 := .vec C 0 0 m 1) (v9 := .int .i64 (k : Int)) hfk.2 hfk.1 hs1 hs2 ht hB hm' ⟨by omega, by omega⟩ (by omega) (by simp [AV.top]; omega) (by simp [AV.top]; omega) (by simp [AV.top]) m' 0 (by omega) zz zz lz lz (fun x _ h => absurd h (Nat.not_lt_zero _)) fun nx bx hnl hbl hG => ?_
    obtain ⟨HX, hHX⟩ : ∃ HX, HX = HB Hb (H.length + 1) (H.length + 2) nx bx := ⟨_, rfl⟩
    have hXl : HX.length = H.length + 3 := by rw [hHX, HB_len, hHbl]
    have hXo : ∀ i, i < H.length → HX[i]? = H[i]? := fun i hi => by rw [hHX, HB_other (by omega) (by omega), hold i hi]
    have hX1 : HX[H.length + 1]? = some (.row 0 (zs nx) 0 true) := by rw [hHX]; exact HB_1 (by omega) (by omega)
    have hX2 : HX[H.length + 2]? = some (.row 0 (zs bx) 0 true) := by rw [hHX]; exact HB_2 (by omega)
    rw [← hHX]
    have hdif := hF.dif
    have hcl := hF.cl
    have hfX : HX[pf]? = some (.row 0 [.vec F 0 0 (n + 1) 1] 0 true) := by rw [hXo _ hpl]; exact hF.few
    simp [go_sem]
    rw [storeWp_ptr (size := 1) hfX rfl rfl (Nat.zero_le _) (by simp) (by omega) (.inl (by omega))]
    have hcX : (HX.set pf (.row 0 [.vec (H.length + 1) 0 0 (n + 1) 1] 0 true))[C]? = some (.row 0 cells 0 true) := by
      rw [List.getElem?_set_ne hdif.1, hXo _ hCl]; exact hF.ch
    simp [go_sem, AV.cells, setCells, show k < m by omega]
    rw [storeWp_ptr (size := 1) hcX rfl rfl (Nat.zero_le _) (by rw [hcl]; omega) (by omega) (.inl (by omega))]
    have hk5 : k < 5 := by have := hs.few; omega
    have e9 : IntKind.i64.wrap ((k : Int) - 1) = (k : Int) - 1 := Go.IntWalk.i64_in _ (by omega)
    simp [go_sem, AV.cells, setCells, e9]
    refine ih (by omega) (H.length + 1) (fun i => if i = k then nx else fls i) (fun i => if i = k then bx else bys i) (fun i => if i = k then H.length + 2 else B i) (cells.set k (.vec (H.length + 2) 0 0 (n + 1) 1)) _ ⟨?_, hlo, ?_, ?_, ?_, ?_, by rw [List.length_set]; exact hcl, ⟨hdif.1, hdif.2.1, hdif.2.2.1, by omega, by omega⟩, ?_⟩ ?_ ?_ ?_
    · rw [List.take_set_of_le hlo.2.1, List.take_set_of_le hlo.1, ← hF.tk]
      apply List.ext_getElem?
      intro i
      rw [List.getElem?_take, List.getElem?_take]
      split
      · exact hXo i (by omega)
      · rfl
    · rw [List.getElem?_set_ne (Ne.symm hdif.1), List.getElem?_set_self (by omega)]
    · rw [List.getElem?_set_ne (by omega), List.getElem?_set_ne (by omega)]
      simpa using hX1
    · rw [List.getElem?_set_ne hdif.2.2.1, List.getElem?_set_ne hdif.2.1, hXo _ hbl0]; exact hF.st
    · rw [List.getElem?_set_self (by simp; omega)]
    · intro i hki him
      by_cases hik : i = k
      · subst hik
        simp only [if_true]
        refine ⟨by rw [List.getElem?_set_self (by omega)], ?_, by omega, by omega, hbl⟩
        rw [List.getElem?_set_ne (by omega), List.getElem?_set_ne (by omega)]; exact hX2
      · obtain ⟨c1, c2, c3, c4, c5⟩ := hF.by_ i (by omega) him
        simp only [hik, if_false]
        have hBl := lt_of_get c2
        refine ⟨by rw [List.getElem?_set_ne (fun e => hik e.symm)]; exact c1, ?_, c3, c4, c5⟩
        rw [List.getElem?_set_ne (Ne.symm c4), List.getElem?_set_ne (Ne.symm c3), hXo _ hBl]; exact c2
    · intro i
      by_cases hik : i = k
      · subst hik
        simp only [if_true]
        refine ⟨hnl, by omega, fun x => ?_⟩
        rcases Nat.lt_or_ge x (n + 1) with hx | hx
        · obtain ⟨c0, _, _, _, hv, _⟩ := hG x (by omega)
          have := hfk.2.2 (x - c0 * s)
          rw [hv]; omega
        · have : gz nx x = 0 := by simp [gz, List.getElem?_eq_none (show nx.length ≤ x by omega)]
          rw [this]; omega
      · simp only [hik, if_false]; exact hfl i
    · intro i hki him x hx
      by_cases hik : i = k
      · subst hik
        simp only [show ¬ i + 1 = i by omega, if_false, if_true, hxs, hys]
        exact hG x hx
      · simp only [show ¬ i + 1 = k by omega, hik, if_false]
        exact hCh i (by omega) him x hx
    · intro F' fls' bys' B' cells' H' q1 q2 q3 q4
      refine h F' fls' bys' B' cells' H' q1 q2 q3 ?_
      rw [q4]
      simp only [show ¬ m = k by omega, if_false]
end Go.Proofs.Ytngoldipfgfecaa.Code.Pk
end

section
namespace Go.Proofs.Ytngoldipfgfecaa.Code.Pk
open Go Go.Ab
variable {pure : Bool} {base bar : Nat} {H : Heap} {Q : AV → Heap → Prop}

theorem l37e {pf F n : Nat} {p2 : AV} (hn : n ≤ 1000) (hF : F ≠ pf) (hbar : bar ≤ F) (hbase : base ≤ F) {R : PQ} :
    ∀ (k i : Nat), i + k = n + 1 → ∀ (l : List Int) (H : Heap), l.length = n + 1 → (∀ x, x < i → gz l x = 1001) → H[pf]? = some (.row 0 [.vec F 0 0 (n + 1) 1] 0 true) → H[F]? = some (.row 0 (zs l) 0 true) →
    (∀ l', l'.length = n + 1 → (∀ x, x < n + 1 → gz l' x = 1001) → R (.exit 0) [(1, .int .i64 (n : Nat)), (2, p2), (6, .ptr pf 0 0), (26, .int .i64 ((n + 1 : Nat) : Int)), (27, .int .i64 ((n + 1 : Nat) : Int)), (28, .bool false)] (H.set F (.row 0 (zs l') 0 true))) →
    Wp E base bar (.loop c37_l0) [(1, .int .i64 (n : Nat)), (2, p2), (6, .ptr pf 0 0), (26, .int .i64 ((n + 1 : Nat) : Int)), (27, .int .i64 (i : Nat))] H R := by
  intro k
  induction k with
  | zero =>
    intro i hi l H hl hG h1 h2 h
    obtain rfl : i = n + 1 := by omega
    rw [wp_round c37_l0.eq_1]
    simp [go_sem]
    have := h l hl hG
    rw [set_self h2] at this
    exact this
  | succ k ih =>
    intro i hi l H hl hG h1 h2 h
    have hlt : (i : Int) < ((n + 1 : Nat) : Int) := by omega
    have lf : aload H ⟨false, 1⟩ (.ptr pf 0 0) = some (.vec F 0 0 (n + 1) 1) := by rw [aload_ptr h1]; rfl
    have hFl := lt_of_get h2
    generalize hN : n + 1 = N at *
    rw [wp_round c37_l0.eq_1]
    simp [go_sem, hlt, lf, show i < N by omega]
    rw [storeZ h2 (by omega) hbar]
    simp [go_sem, i64_suc (show i < 1000000 by omega)]
    refine ih (i + 1) (by omega) (l.set i 1001) _ (by simp [hl]) (fun x hx => ?_) (by rw [List.getElem?_set_ne hF]; exact h1) (List.getElem?_set_self hFl) fun l' q1 q2 => ?_
    · by_cases hxi : x = i
      · subst hxi; exact gz_set_self (by omega)
      · rw [gz_set_ne hxi]; exact hG x (by omega)
    · rw [List.set_set]; exact h l' q1 q2
/-! what is taken: from the first size on -/
def takeN (xs : List Nat) (bys : Nat → List Int) : Nat → Nat → Nat → List Nat
  | 0, _, _ => []
  | k + 1, i, x => (gz (bys i) x).toNat :: takeN xs bys k (i + 1) (x - (gz (bys i) x).toNat * xs.getD i 0)
theorem mk_nil {x : Opd} {fr : List (Nat × AV)} {N : Nat} (hx : x.ev fr = some (.int .i64 (N : Int))) (hN : N ≤ 1001) : aop base bar (.mkslice [.nils] 24 x x) fr H = some (.vec H.length 0 0 N 1, H ++ [.row 0 (List.replicate N .nils) 0 true], []) := by
  have hN2 : N * 24 ≤ 140737488355328 := by omega
  have hr : (List.replicate N [AV.nils]).flatten = List.replicate N AV.nils := by
    clear hx hN hN2
    induction N with
    | zero => rfl
    | succ m ih => rw [List.replicate_succ, List.flatten_cons, ih, List.replicate_succ]; rfl
  simp only [aop, hx]
  simp [AV.asNat, hN2, hr]
theorem l37f {H0 HF : Heap} {n0 pf F b C n m : Nat} {sv tv : AV} {xs ys : List Nat} {fl : List Int} {fls bys : Nat → List Int} {B : Nat → Nat} {cells : List AV} (hF : FS HF H0 n0 pf F b C n m 0 sv tv fl B bys cells) (hsv : isL sv xs) (hs : Store xs ys) (hxl : xs.length = m) (hn : n ≤ 1000) (hCh : Chain n xs ys fls bys m 0) (hbl : ∀ i, i < m → (bys i).length = n + 1)
    (hbar : bar ≤ HF.length) (hbase : base ≤ HF.length) {R : PQ} :
    ∀ (k i x : Nat), i + k = m → x ≤ n → ∀ (done : List Nat) (v : AV) (H : Heap), Grow 1 (nats done) HF v H → done.length = i →
    (∀ v' H' x', Grow 1 (nats (done ++ takeN xs bys k i x)) HF v' H' → R (.exit 10) [(1, .int .i64 (x' : Nat)), (2, .ptr b 0 0), (19, v'), (150, .vec C 0 0 m 1), (151, .int .i64 (m : Nat)), (152, .int .i64 (m : Nat)), (153, .bool false)] H') →
    Wp E base bar (.loop c37_l5) [(1, .int .i64 (x : Nat)), (2, .ptr b 0 0), (19, v), (150, .vec C 0 0 m 1), (151, .int .i64 (m : Nat)), (152, .int .i64 (i : Nat))] H R := by
  intro k
  induction k with
  | zero =>
    intro i x hi hx done v H g hd h
    obtain rfl : i = m := by omega
    rw [wp_round c37_l5.eq_1]
    simp [go_sem]
    exact h v H x (by simpa [takeN] using g)
  | succ k ih =>
    intro i x hi hx done v H g hd h
    have hlt : i < m := by omega
    have hix : i < xs.length := by omega
    have hm5 : m ≤ 5 := by have := hs.few; omega
    obtain ⟨c1, c2, _, _, _⟩ := hF.by_ i (Nat.zero_le _) hlt
    obtain ⟨c0, hc0, hct, hcs, _, _⟩ := hCh i (Nat.zero_le _) hlt x hx
    have hbi := hbl i hlt
    have hch := g.get hF.ch
    have hst := g.get hF.st
    have hrow := g.get c2
    have l1 : aload H ⟨false, 1⟩ (.ptr C 0 i) = some (.vec (B i) 0 0 (n + 1) 1) := by rw [aload_ptr hch, part_one, c1]
    have l2 := loadZ (s := 1) hrow (off := x) (by omega)
    have l3 : aload H ⟨false, 1⟩ (.ptr b 0 0) = some sv := by rw [aload_ptr hst]; rfl
    have i1 := fun (H : Heap) (K : AV → Heap → List Nat → Prop) => hsv.ix (H := H) (K := K) (k := .i64) hix
    have hxs : xs.getD i 0 = xs[i] := by simp [List.getD_eq_getElem?_getD, List.getElem?_eq_getElem hix]
    have hsz := (hs.size _ (List.getElem_mem hix)).2
    rw [hxs] at hcs
    have hR := h
    rw [takeN, hc0, Int.toNat_natCast, hxs] at hR
    rw [hc0] at l2
    generalize xs[i] = s at *
    have hcm : c0 * s ≤ 40 * 30 := Nat.mul_le_mul (by
      have hky : i < ys.length := by have := hs.len; omega
      have := hs.stock _ (List.getElem_mem hky)
      simp only [List.getD_eq_getElem?_getD, List.getElem?_eq_getElem hky, Option.getD_some] at hct
      omega) hsz
    have e1 : IntKind.i64.wrap ((c0 : Int) * (s : Int)) = ((c0 * s : Nat) : Int) := by
      rw [← Int.natCast_mul, i64_nat (by omega)]
    have next := fun v' H' g' => ih (i + 1) (x - c0 * s) (by omega) (by omega) (done ++ [c0]) v' H' g' (by simp [hd]) (fun v'' H'' x'' q => hR v'' H'' x'' (by simpa using q))
    generalize c0 * s = y at *
    have e2 : IntKind.i64.wrap ((x : Int) - (y : Int)) = ((x - y : Nat) : Int) := by
      rw [Go.IntWalk.i64_in _ (by omega)]; omega
    rw [wp_round c37_l5.eq_1]
    simp [go_sem, hlt, l1, show x < n + 1 by omega, l2, aop, fillA, setCells, chunks]
    rw [wpop_app]
    simp [Opd.ev, go_sem]
    refine g.nat hbar hbase (by omega) fun v' H' tc g' => ?_
    have l2' := loadZ (s := 1) (g'.get c2) (off := x) (by omega)
    rw [hc0] at l2'
    have l3' : aload H' ⟨false, 1⟩ (.ptr b 0 0) = some sv := by rw [aload_ptr (g'.get hF.st)]; rfl
    simp [go_sem, show x < n + 1 by omega, l2', l3']
    rw [i1]
    simp [go_sem, e1, e2, i64_suc (show i < 1000000 by omega)]
    exact next v' H' g'
theorem k37 {sv tv : AV} {xs ys : List Nat} {n : Nat} (hsv : isL sv xs) (htv : isL tv ys) (hs : Store xs ys) (hpos : 1 ≤ xs.length) (hn : n ≤ 1000) (hbar : bar ≤ H.length)
    (hQ : ∀ fls bys : Nat → List Int, (∀ i, (fls i).length = n + 1 ∧ FL (fls i)) → Chain n xs ys fls bys xs.length 0 → gz (fls xs.length) 0 = 0 → (∀ x, 0 < x → x ≤ n → gz (fls xs.length) x = 1001) →
      ((gz (fls 0) n = 1001 → Q (.tup [.nils, .int .i64 12]) H) ∧ (gz (fls 0) n ≠ 1001 → Q (.tup [outL 1 (nats (takeN xs bys xs.length 0 n)), .int .i64 0]) H))) :
    WpCall E pure base bar 37 [.agg [sv, tv], .int .i64 (n : Nat)] H Q := by
  have e1 : frzAll bar H [.agg [sv, tv], .int .i64 (n : Nat)] = some ([.agg [sv, tv], .int .i64 (n : Nat)], H) := by
    simp [frzAll, frz.frzs, frzsW, frzA (d := 6) hsv.frz htv.frz, frz_int]
  have e2 : IntKind.i64.wrap ((n : Int) + 1) = ((n + 1 : Nat) : Int) := i64_suc (by omega)
  have mk : ∀ (fr : List (Nat × AV)) (base bar : Nat) (H : Heap), fget 23 fr = some (.int .i64 ((n : Int) + 1)) → aop base bar (.mkslice [.int .i64 0] 8 (.t 23) (.t 23)) fr H = some (.vec H.length 0 0 (n + 1) 1, H ++ [.row 0 (zs (List.replicate (n + 1) 0)) 0 true], []) := fun fr base bar H hg =>
    mk_zn (N := n + 1) (by simpa [Opd.ev] using hg) (by omega)
  have lz : (List.replicate (n + 1) (0 : Int)).length = n + 1 := List.length_replicate
  generalize List.replicate (n + 1) (0 : Int) = zz at *
  rw [call37, e1]
  simp [go_sem, WpFun, c37, hsv.isTup, htv.isTup, e2]
  rw [mk _ _ _ _ (by simp [go_sem])]
  simp [go_sem]
  obtain ⟨bar', hbar', hb'⟩ : ∃ bar', bar' = (if pure = true then H.length else bar) ∧ bar' ≤ H.length := ⟨_, rfl, by split <;> omega⟩
  rw [← hbar']
  rw [storeWp_ptr (size := 1) (ver := 0) (cs := [.nils]) (fz := 0) (ex := true) (by simp) rfl rfl (Nat.zero_le _) (by simp) (by omega) (.inl (by omega))]
  simp [go_sem, AV.cells, setCells]
  obtain ⟨H1, hH1⟩ : ∃ H1, H1 = H ++ [Blk.row 0 [sv, tv] 0 true, Blk.row 0 (zs zz) 0 true, Blk.row 0 [.vec (H.length + 1) 0 0 (n + 1) 1] 0 true] := ⟨_, rfl⟩
  have f0 : H1[H.length]? = some (.row 0 [sv, tv] 0 true) := by rw [hH1]; simp
  have f1 : H1[H.length + 1]? = some (.row 0 (zs zz) 0 true) := by rw [hH1]; simp
  have f2 : H1[H.length + 2]? = some (.row 0 [.vec (H.length + 1) 0 0 (n + 1) 1] 0 true) := by rw [hH1]; simp
  have f3 : H1.length = H.length + 3 := by rw [hH1]; simp
  have f4 : H1.take H.length = H := by rw [hH1]; simp
  rw [← hH1]
  have lf : aload H1 ⟨false, 1⟩ (.ptr (H.length + 2) 0 0) = some (.vec (H.length + 1) 0 0 (n + 1) 1) := by rw [aload_ptr f2]; rfl
  simp [go_sem, lf]
  refine l37e (n := n) hn (by omega) (by omega) (by omega) (n + 1) 0 (by omega) zz H1 lz (fun x hx => absurd hx (Nat.not_lt_zero _)) f2 f1 fun l hl hg => ?_
  obtain ⟨H2, hH2⟩ : ∃ H2, H2 = H1.set (H.length + 1) (.row 0 (zs l) 0 true) := ⟨_, rfl⟩
  have k0 : H2[H.length]? = some (.row 0 [sv, tv] 0 true) := by rw [hH2, List.getElem?_set_ne (by omega)]; exact f0
  have k1 : H2[H.length + 1]? = some (.row 0 (zs l) 0 true) := by rw [hH2, List.getElem?_set_self (by omega)]
  have k2 : H2[H.length + 2]? = some (.row 0 [.vec (H.length + 1) 0 0 (n + 1) 1] 0 true) := by rw [hH2, List.getElem?_set_ne (by omega)]; exact f2
  have k3 : H2.length = H.length + 3 := by rw [hH2]; simp [f3]
  have k4 : H2.take H.length = H := by rw [hH2, List.take_set_of_le (by omega), f4]
  rw [← hH2]
  have lf2 : aload H2 ⟨false, 1⟩ (.ptr (H.length + 2) 0 0) = some (.vec (H.length + 1) 0 0 (n + 1) 1) := by rw [aload_ptr k2]; rfl
  simp [go_sem, lf2]
  rw [storeZ k1 (by omega) (by omega)]
  obtain ⟨H3, hH3⟩ : ∃ H3, H3 = H2.set (H.length + 1) (.row 0 (zs (l.set 0 0)) 0 true) := ⟨_, rfl⟩
  have m0 : H3[H.length]? = some (.row 0 [sv, tv] 0 true) := by rw [hH3, List.getElem?_set_ne (by omega)]; exact k0
  have m1 : H3[H.length + 1]? = some (.row 0 (zs (l.set 0 0)) 0 true) := by rw [hH3, List.getElem?_set_self (by omega)]
  have m2 : H3[H.length + 2]? = some (.row 0 [.vec (H.length + 1) 0 0 (n + 1) 1] 0 true) := by rw [hH3, List.getElem?_set_ne (by omega)]; exact k2
  have m3 : H3.length = H.length + 3 := by rw [hH3]; simp [k3]
  have m4 : H3.take H.length = H := by rw [hH3, List.take_set_of_le (by omega), k4]
  rw [← hH3]
  have lb3 : aload H3 ⟨false, 1⟩ (.ptr H.length 0 0) = some sv := by rw [aload_ptr m0]; rfl
  simp [go_sem, lb3, hsv.len]
  have hm5 := hs.few
  obtain ⟨m, hm⟩ : ∃ m, m = xs.length := ⟨_, rfl⟩
  rw [← hm] at hpos hm5 hQ ⊢
  have e9 : IntKind.i64.wrap ((m : Int) - 1) = (m : Int) - 1 := Go.IntWalk.i64_in _ (by omega)
  rw [mk_nil (N := m) (by simp [Opd.ev, go_sem]) (by omega)]
  obtain ⟨H4, hH4⟩ : ∃ H4, H4 = H3 ++ [Blk.row 0 (List.replicate m .nils) 0 true] := ⟨_, rfl⟩
  have old : ∀ i, i < H3.length → H4[i]? = H3[i]? := fun i hi => by rw [hH4, List.getElem?_append_left hi]
  have w0 : H4[H.length]? = some (.row 0 [sv, tv] 0 true) := by rw [old _ (by omega)]; exact m0
  have w1 : H4[H.length + 1]? = some (.row 0 (zs (l.set 0 0)) 0 true) := by rw [old _ (by omega)]; exact m1
  have w2 : H4[H.length + 2]? = some (.row 0 [.vec (H.length + 1) 0 0 (n + 1) 1] 0 true) := by rw [old _ (by omega)]; exact m2
  have w3 : H4[H.length + 3]? = some (.row 0 (List.replicate m .nils) 0 true) := by rw [hH4, ← m3]; simp
  have w4 : H4.take H.length = H := by rw [hH4, List.take_append_of_le_length (by omega), m4]
  rw [← hH4, m3]
  have lb4 : aload H4 ⟨false, 1⟩ (.ptr H.length 0 0) = some sv := by rw [aload_ptr w0]; rfl
  have hlen : ∀ {H' : Heap} {K : AV → Heap → List Nat → Prop}, lenWp (some sv) H' K = K (.int .i64 (m : Int)) H' [] := by
    intro H' K; rw [hsv.len, hm]
  simp [go_sem, lb4, hlen, e9]
  have hf0 : (l.set 0 0).length = n + 1 ∧ FL (l.set 0 0) := by
    refine ⟨by simp [hl], by simp [hl]; omega, fun x => ?_⟩
    rcases Nat.eq_zero_or_pos x with h0 | h0
    · subst h0; rw [gz_set_self (by omega)]; omega
    · rw [gz_set_ne (by omega)]
      rcases Nat.lt_or_ge x (n + 1) with hx | hx
      · rw [hg x hx]; omega
      · have : gz l x = 0 := by simp [gz, List.getElem?_eq_none (show l.length ≤ x by omega)]
        rw [this]; omega
  refine l37d (n0 := H.length) (b := H.length) (C := H.length + 3) (m := m) (H0 := H) hsv htv hs hm.symm hn hb' (Nat.le_refl _) m (Nat.le_refl _) (H.length + 1) (fun _ => l.set 0 0) (fun _ => []) (fun _ => 0) (List.replicate m .nils) H4
    ⟨w4, ⟨by omega, by omega, Nat.le_refl _⟩, w2, w1, w0, w3, List.length_replicate, ⟨by omega, by omega, by omega, by omega, by omega⟩, fun i h1 h2 => by omega⟩ (fun _ => hf0) (fun i h1 h2 => by omega) fun F' fls bys B cells H5 q1 q2 q3 q4 => ?_
  obtain ⟨hl0, hr0⟩ := q2 0
  have h5 : H.length ≤ H5.length := by have := lt_of_get q1.few; omega
  have lf5 : aload H5 ⟨false, 1⟩ (.ptr (H.length + 2) 0 0) = some (.vec F' 0 0 (n + 1) 1) := by rw [aload_ptr q1.few]; rfl
  have ln5 := loadZ (s := 1) q1.row (off := n) (by omega)
  obtain ⟨hQ1, hQ2⟩ := hQ fls bys q2 q3 (by rw [q4]; exact gz_set_self (by omega)) (fun x h1 h2 => by rw [q4, gz_set_ne (by omega)]; exact hg x (by omega))
  by_cases hv : gz (fls 0) n = 1001
  · rw [hv] at ln5
    simp [go_sem, lf5, ln5, q1.tk]
    exact hQ1 hv
  · have hv' : ¬ gz (fls 0) n = (1001 : Int) := hv
    simp [go_sem, lf5, ln5, hv']
    refine l37f q1 hsv hs hm.symm hn q3 (fun i hi => (q1.by_ i (Nat.zero_le _) hi).2.2.2.2) (by omega) h5 m 0 n (by omega) (Nat.le_refl _) [] .nils H5 Grow.nil rfl fun v' H' x' g => ?_
    rw [List.nil_append] at g
    obtain ⟨H6, h1, _, _, h4⟩ := g.frz (d := 5) (bar := bar') (by decide) (Nat.one_dvd _) nats_plain (by omega)
    have e4 : H6.take H.length = H := by
      have := congrArg (List.take H.length) h4
      rw [List.take_take, Nat.min_eq_left h5] at this
      rw [this, q1.tk]
    have e5 : (outL 1 (nats (takeN xs bys m 0 n))).top = 0 := (isL.out (l := takeN xs bys m 0 n)).top
    simp [go_sem, h1, e4, e5]
    exact hQ2 hv

/-! 10: Fill -/
theorem k10 {sv tv : AV} {xs ys : List Nat} {n : Nat} (hsv : isL sv xs) (htv : isL tv ys) (hs : Fit xs ys) (hn : n ≤ 1000) (hbar : bar ≤ H.length)
    (hQ : ∀ fls bys : Nat → List Int, (∀ i, (fls i).length = n + 1 ∧ FL (fls i)) → Chain n xs ys fls bys xs.length 0 → gz (fls xs.length) 0 = 0 → (∀ x, 0 < x → x ≤ n → gz (fls xs.length) x = 1001) →
      ((gz (fls 0) n = 1001 → Q (.tup [.nils, .int .i64 12]) H) ∧ (gz (fls 0) n ≠ 1001 → Q (.tup [outL 1 (nats (takeN xs bys xs.length 0 n)), .int .i64 0]) H))) :
    WpCall E pure base bar 10 [sv, tv, .int .i64 (n : Nat)] H Q := by
  have e1 : frzAll bar H [sv, tv, .int .i64 (n : Nat)] = some ([sv, tv, .int .i64 (n : Nat)], H) := by simp [frzAll, frz.frzs, frzsW, hsv.frz, htv.frz, frz_int]
  have hb' : (if pure = true then H.length else bar) ≤ H.length := by split <;> omega
  rw [call10, e1]
  simp [go_sem, WpFun, c10]
  refine k36 hsv htv hs hn (by omega) ?_
  simp [go_sem]
  rw [storeA (a := .nils) (b := .nils) (ex := true) (by simp) hb' hsv.top htv.top]
  simp [go_sem]
  rw [aload_a (x := sv) (y := tv) (ex := true) (by simp)]
  simp [go_sem]
  refine k37 hsv htv hs.toStore hs.pos hn (by simp; omega) fun fls bys h1 h2 h3 h4 => ?_
  obtain ⟨q1, q2⟩ := hQ fls bys h1 h2 h3 h4
  refine ⟨fun h => ?_, fun h => ?_⟩
  · simp [go_sem]
    exact q1 h
  · have e5 : isL (outL 1 (nats (takeN xs bys xs.length 0 n))) (takeN xs bys xs.length 0 n) := isL.out
    simp [go_sem, e5.frz, e5.top]
    exact q2 h
end Go.Proofs.Ytngoldipfgfecaa.Code.Pk
end

section
namespace Go.Proofs.Ytngoldipfgfecaa.Code.Pk
open Go Go.Ab

/-! fillings: plain -/
section
variable {xs ys : List Nat} {n m : Nat} {fls bys : Nat → List Int}
def valF (xs : List Nat) : Nat → List Nat → Nat
  | _, [] => 0
  | i, c :: r => c * xs.getD i 0 + valF xs (i + 1) r
def fitsF (ys : List Nat) : Nat → List Nat → Prop
  | _, [] => True
  | i, c :: r => c ≤ ys.getD i 0 ∧ fitsF ys (i + 1) r
theorem fill_low (hCh : Chain n xs ys fls bys m 0) (h0 : gz (fls m) 0 = 0) : ∀ (r : List Nat) (i : Nat), i + r.length = m → fitsF ys i r → valF xs i r ≤ n → gz (fls i) (valF xs i r) ≤ (r.sum : Int)
  | [], i, hi, _, _ => by
    obtain rfl : i = m := by simpa using hi
    simp [valF, h0]
  | c :: r, i, hi, hf, hx => by
    simp only [List.length_cons] at hi
    obtain ⟨hc, hf⟩ := hf
    simp only [valF] at hx ⊢
    have ih := fill_low hCh h0 r (i + 1) (by omega) hf (by omega)
    obtain ⟨c0, _, _, _, hv, hmin⟩ := hCh i (Nat.zero_le _) (by omega) _ hx
    have := hmin c hc (by omega)
    rw [Nat.add_sub_cancel_left] at this
    simp only [List.sum_cons, Int.natCast_add]
    omega
theorem fill_take (hCh : Chain n xs ys fls bys m 0) (h1 : ∀ x, 0 < x → x ≤ n → gz (fls m) x = 1001) (h0 : gz (fls m) 0 = 0) : ∀ (k i x : Nat), i + k = m → x ≤ n → gz (fls i) x < 1001 →
    fitsF ys i (takeN xs bys k i x) ∧ valF xs i (takeN xs bys k i x) = x ∧ ((takeN xs bys k i x).sum : Int) = gz (fls i) x ∧ (takeN xs bys k i x).length = k
  | 0, i, x, hi, hx, hg => by
    obtain rfl : i = m := by omega
    rcases Nat.eq_zero_or_pos x with h | h
    · subst h; simp [takeN, fitsF, valF, h0]
    · rw [h1 x h hx] at hg; omega
  | k + 1, i, x, hi, hx, hg => by
    obtain ⟨c0, hc, hct, hcs, hv, _⟩ := hCh i (Nat.zero_le _) (by omega) x hx
    obtain ⟨a1, a2, a3, a4⟩ := fill_take hCh h1 h0 k (i + 1) (x - c0 * xs.getD i 0) (by omega) (by omega) (by omega)
    simp only [takeN, hc, Int.toNat_natCast, fitsF, valF, List.sum_cons, List.length_cons, Int.natCast_add]
    refine ⟨⟨hct, a1⟩, by omega, by omega, by omega⟩
end
end Go.Proofs.Ytngoldipfgfecaa.Code.Pk
end

section
namespace Go.Proofs.Ytngoldipfgfecaa.Code.Pk
open Go Go.Ab

/-! numbers of fillings: plain -/
def sumS (a : List Int) (s x : Nat) : Nat → Int
  | 0 => 0
  | t + 1 => sumS a s x t + (if t * s ≤ x then gz a (x - t * s) else 0)
theorem sumS_small {a : List Int} {s x : Nat} (hx : x < s) : ∀ t, sumS a s x (t + 1) = gz a x
  | 0 => by simp [sumS]
  | t + 1 => by
    rw [sumS, sumS_small hx t, if_neg]
    · omega
    · have : 1 * s ≤ (t + 1) * s := Nat.mul_le_mul_right s (by omega)
      omega
theorem sumS_step {a : List Int} {s x : Nat} (hx : s ≤ x) : ∀ t, sumS a s x (t + 1) = sumS a s (x - s) t + gz a x
  | 0 => by simp [sumS]
  | t + 1 => by
    rw [sumS, sumS_step hx t, sumS]
    have e : (t + 1) * s = t * s + s := Nat.succ_mul t s
    by_cases h : t * s ≤ x - s
    · rw [if_pos h, if_pos (by omega), show x - s - t * s = x - (t + 1) * s by omega]; omega
    · rw [if_neg h, if_neg (by omega)]; omega
theorem sumS_bound {a : List Int} {s x : Nat} {M : Int} (ha : ∀ y, 0 ≤ gz a y ∧ gz a y ≤ M) : ∀ t : Nat, 0 ≤ sumS a s x t ∧ sumS a s x t ≤ (t : Int) * M
  | 0 => by simp [sumS]
  | t + 1 => by
    obtain ⟨h1, h2⟩ := sumS_bound (s := s) (x := x) ha t
    have h3 := ha (x - t * s)
    have h4 := ha x
    rw [sumS]
    have e : ((t + 1 : Nat) : Int) * M = (t : Int) * M + M := by rw [Int.natCast_add, Int.add_mul]; simp
    rw [e]
    generalize (t : Int) * M = P at *
    generalize gz a (x - t * s) = g at *
    split <;> omega
theorem sumS_nonneg {a : List Int} {s x : Nat} (ha : ∀ y, 0 ≤ gz a y) : ∀ t, 0 ≤ sumS a s x t
  | 0 => by simp [sumS]
  | t + 1 => by
    have h := sumS_nonneg (s := s) (x := x) ha t
    have h3 := ha (x - t * s)
    rw [sumS]
    split <;> omega
theorem sumS_pos {a : List Int} {s x : Nat} (ha : ∀ y, 0 ≤ gz a y) : ∀ t, 0 < sumS a s x t ↔ ∃ j, j < t ∧ j * s ≤ x ∧ 0 < gz a (x - j * s)
  | 0 => by simp [sumS]
  | t + 1 => by
    have hb : 0 ≤ sumS a s x t := sumS_nonneg ha t
    have ih := sumS_pos (s := s) (x := x) ha t
    have h3 := ha (x - t * s)
    rw [sumS]
    constructor
    · intro h
      by_cases h4 : 0 < sumS a s x t
      · obtain ⟨j, h5, h6⟩ := ih.1 h4
        exact ⟨j, by omega, h6⟩
      · by_cases h5 : t * s ≤ x
        · rw [if_pos h5] at h
          exact ⟨t, by omega, h5, by omega⟩
        · rw [if_neg h5] at h; omega
    · rintro ⟨j, h5, h6, h7⟩
      rcases Nat.lt_or_ge j t with h8 | h8
      · have := ih.2 ⟨j, h8, h6, h7⟩
        split <;> omega
      · obtain rfl : j = t := by omega
        rw [if_pos h6]; omega
theorem fold_sum {a : List Int} {s t : Nat} {M : Int} (hs : 1 ≤ s) (hla : a.length = 1001) (ha : ∀ y, 0 ≤ gz a y ∧ gz a y ≤ M) (hM : ((t + 2 : Nat) : Int) * M < 4611686018427387904) :
    ∀ (k x : Nat) (c : List Int), x + k = 1001 → s ≤ x → c.length = 1001 → (∀ y, y < x → gz c y = sumS a s y (t + 1)) → (∀ y, x ≤ y → gz c y = gz a y) →
    ∀ y, y < 1001 → gz (foldW a s ((t + 1) * s) c x k) y = sumS a s y (t + 1)
  | 0, x, c, hk, _, _, h1, _, y, hy => by rw [foldW]; exact h1 y (by omega)
  | k + 1, x, c, hk, hsx, hc, h1, h2, y, hy => by
    rw [foldW]
    have b1 := sumS_bound (s := s) (x := x - s) ha t
    have b1' := sumS_bound (s := s) (x := x - s) ha (t + 1)
    have b2 := ha x
    have e2 : ((t + 2 : Nat) : Int) * M = (t : Int) * M + M + M := by
      rw [show ((t + 2 : Nat) : Int) = (t : Int) + 1 + 1 by omega, Int.add_mul, Int.add_mul]; simp
    have e3 : ((t + 1 : Nat) : Int) * M = (t : Int) * M + M := by
      rw [show ((t + 1 : Nat) : Int) = (t : Int) + 1 by omega, Int.add_mul]; simp
    have hst := sumS_step (a := a) hsx t
    have hd : (t + 1) * s = t * s + s := Nat.succ_mul t s
    have hprev : sumS a s (x - s) (t + 1) = sumS a s (x - s) t + (if t * s ≤ x - s then gz a (x - s - t * s) else 0) := by rw [sumS]
    have hval : stepW a s ((t + 1) * s) c x = c.set x (sumS a s x (t + 1)) := by
      have hv : IntKind.i64.wrap (gz c x + gz c (x - s)) = gz a x + sumS a s (x - s) (t + 1) := by
        rw [h2 x (Nat.le_refl _), h1 (x - s) (by omega)]
        exact Go.IntWalk.i64_in _ (by omega)
      unfold stepW
      dsimp only
      rw [hv]
      split
      · rename_i hdx
        have b3 := ha (x - (t + 1) * s)
        rw [if_pos (by omega), show x - s - t * s = x - (t + 1) * s by omega] at hprev
        rw [Go.IntWalk.i64_in _ (by omega)]
        congr 1; omega
      · rename_i hdx
        rw [if_neg (by omega)] at hprev
        congr 1; omega
    rw [hval]
    refine fold_sum hs hla ha hM k (x + 1) _ (by omega) (by omega) (by simp [hc]) (fun z hz => ?_) (fun z hz => ?_) y hy
    · by_cases hzx : z = x
      · subst hzx; exact gz_set_self (by omega)
      · rw [gz_set_ne hzx]; exact h1 z (by omega)
    · rw [gz_set_ne (by omega)]; exact h2 z (by omega)
theorem fold_all {a : List Int} {s t : Nat} {M : Int} (hs : 1 ≤ s) (hs2 : s ≤ 30) (hla : a.length = 1001) (ha : ∀ y, 0 ≤ gz a y ∧ gz a y ≤ M) (hM : ((t + 2 : Nat) : Int) * M < 4611686018427387904) {y : Nat} (hy : y < 1001) :
    gz (foldW a s ((t + 1) * s) a s (1001 - s)) y = sumS a s y (t + 1) :=
  fold_sum hs hla ha hM (1001 - s) s a (by omega) (Nat.le_refl _) hla (fun z hz => (sumS_small hz t).symm) (fun _ _ => rfl) y hy
/-- how much a choice of packets has -/
def val2 : List (Nat × Nat) → List Nat → Nat
  | (s, _) :: z, c :: r => c * s + val2 z r
  | _, _ => 0
def fit2 : List (Nat × Nat) → List Nat → Prop
  | [], [] => True
  | (_, t) :: z, c :: r => c ≤ t ∧ fit2 z r
  | _, _ => False
theorem it_pos : ∀ (z : List (Nat × Nat)) (a : List Int) (M : Int), (∀ p ∈ z, 1 ≤ p.1 ∧ p.1 ≤ 30 ∧ p.2 ≤ 40) → a.length = 1001 → (∀ y, 0 ≤ gz a y ∧ gz a y ≤ M) → M * (42 ^ z.length : Nat) < 4611686018427387904 →
    ∀ x, x < 1001 → (0 < gz (itG a z) x ↔ ∃ c, fit2 z c ∧ val2 z c ≤ x ∧ 0 < gz a (x - val2 z c))
  | [], a, M, _, _, _, _, x, hx => by
    rw [itG]
    constructor
    · intro h; exact ⟨[], trivial, Nat.zero_le _, by simpa [val2] using h⟩
    · rintro ⟨c, h1, h2, h3⟩
      cases c with
      | nil => simpa [val2] using h3
      | cons c r => exact h1.elim
  | (s, t) :: z, a, M, hz, hla, ha, hM, x, hx => by
    obtain ⟨hs1, hs2, ht⟩ := hz (s, t) (List.mem_cons_self ..)
    simp only at hs1 hs2 ht
    have hM0 : 0 ≤ M := Int.le_trans (ha 0).1 (ha 0).2
    have hp : 1 ≤ 42 ^ z.length := Nat.one_le_pow _ _ (by decide)
    have e1 : M * ((42 ^ ((s, t) :: z).length : Nat) : Int) = M * 42 * ((42 ^ z.length : Nat) : Int) := by
      rw [List.length_cons, Nat.pow_succ, Int.natCast_mul, Int.mul_comm ((42 ^ z.length : Nat) : Int), Int.mul_assoc]; rfl
    rw [e1] at hM
    have hM2 : M * 42 ≤ M * 42 * ((42 ^ z.length : Nat) : Int) := by
      have : M * 42 * 1 ≤ M * 42 * ((42 ^ z.length : Nat) : Int) := Int.mul_le_mul_of_nonneg_left (by omega) (by omega)
      omega
    have hMt : ((t + 2 : Nat) : Int) * M ≤ 42 * M := Int.mul_le_mul_of_nonneg_right (by omega) hM0
    have hMt1 : ((t + 1 : Nat) : Int) * M ≤ 42 * M := Int.mul_le_mul_of_nonneg_right (by omega) hM0
    have hfa := fun {y : Nat} (hy : y < 1001) => fold_all (a := a) (t := t) hs1 hs2 hla ha (by omega) hy
    have hlen : (foldW a s ((t + 1) * s) a s (1001 - s)).length = 1001 := by rw [foldW_len]; exact hla
    rw [itG, it_pos z _ (M * 42) (fun p hp => hz p (List.mem_cons_of_mem _ hp)) hlen (fun y => by
      rcases Nat.lt_or_ge y 1001 with hy | hy
      · rw [hfa hy]
        have := sumS_bound (s := s) (x := y) ha (t + 1)
        omega
      · have : gz (foldW a s ((t + 1) * s) a s (1001 - s)) y = 0 := by
          simp [gz, List.getElem?_eq_none (show (foldW a s ((t + 1) * s) a s (1001 - s)).length ≤ y by omega)]
        rw [this]; omega) hM x hx]
    constructor
    · rintro ⟨c, h1, h2, h3⟩
      rw [hfa (by omega), sumS_pos fun y => (ha y).1] at h3
      obtain ⟨j, hj, hjx, hg⟩ := h3
      refine ⟨j :: c, ⟨by omega, h1⟩, by simp only [val2]; omega, ?_⟩
      simp only [val2]
      rw [show x - (j * s + val2 z c) = x - val2 z c - j * s by omega]
      exact hg
    · rintro ⟨c, h1, h2, h3⟩
      cases c with
      | nil => exact h1.elim
      | cons j c =>
        obtain ⟨hj, h1⟩ := h1
        simp only [val2] at h2 h3
        refine ⟨c, h1, by omega, ?_⟩
        rw [hfa (by omega), sumS_pos fun y => (ha y).1]
        exact ⟨j, by omega, by omega, by rw [show x - val2 z c - j * s = x - (j * s + val2 z c) by omega]; exact h3⟩
end Go.Proofs.Ytngoldipfgfecaa.Code.Pk
end

section
namespace Go.Proofs.Ytngoldipfgfecaa.Code.Pk
open Go Go.Ab

/-! choices of packets: three ways to write the same -/
def valL : List Nat → List Nat → Nat
  | x :: xs, c :: cs => c * x + valL xs cs
  | _, _ => 0
def fitL : List Nat → List Nat → Prop
  | [], [] => True
  | y :: ys, c :: cs => c ≤ y ∧ fitL ys cs
  | _, _ => False
theorem drop_cons {l : List Nat} {i : Nat} (h : i < l.length) : l.drop i = l.getD i 0 :: l.drop (i + 1) := by
  rw [List.drop_eq_getElem_cons h]; simp [List.getD_eq_getElem?_getD, List.getElem?_eq_getElem h]
theorem valF_eq {xs : List Nat} : ∀ (c : List Nat) (i : Nat), i + c.length ≤ xs.length → valF xs i c = valL (xs.drop i) c
  | [], i, _ => by cases xs.drop i <;> rfl
  | c :: cs, i, h => by
    simp only [List.length_cons] at h
    rw [drop_cons (by omega), valF, valL, valF_eq cs (i + 1) (by omega)]
theorem fitsF_eq {ys : List Nat} : ∀ (c : List Nat) (i : Nat), i + c.length = ys.length → (fitsF ys i c ↔ fitL (ys.drop i) c)
  | [], i, h => by
    rw [List.drop_eq_nil_of_le (by simp at h; omega)]
    exact Iff.rfl
  | c :: cs, i, h => by
    simp only [List.length_cons] at h
    rw [drop_cons (by omega)]
    exact and_congr Iff.rfl (fitsF_eq cs (i + 1) (by omega))
theorem val2_eq : ∀ {xs ys c : List Nat}, ys.length = xs.length → val2 (xs.zip ys) c = valL xs c
  | [], [], c, _ => by cases c <;> rfl
  | x :: xs, y :: ys, [], _ => rfl
  | x :: xs, y :: ys, c :: cs, h => by
    rw [List.zip_cons_cons, val2, valL, val2_eq (by simpa using h)]
  | [], _ :: _, _, h => by simp at h
  | _ :: _, [], _, h => by simp at h
theorem fit2_eq : ∀ {xs ys c : List Nat}, ys.length = xs.length → (fit2 (xs.zip ys) c ↔ fitL ys c)
  | [], [], c, _ => by cases c <;> exact Iff.rfl
  | x :: xs, y :: ys, [], _ => Iff.rfl
  | x :: xs, y :: ys, c :: cs, h => by
    rw [List.zip_cons_cons]
    exact and_congr Iff.rfl (fit2_eq (by simpa using h))
  | [], _ :: _, _, h => by simp at h
  | _ :: _, [], _, h => by simp at h
theorem fitL_len : ∀ {ys c : List Nat}, fitL ys c → c.length = ys.length
  | [], [], _ => rfl
  | y :: ys, c :: cs, h => by simp [fitL_len h.2]
  | [], _ :: _, h => h.elim
  | _ :: _, [], h => h.elim
/-- what is left of the stock -/
theorem rest_fit : ∀ {xs ys c : List Nat}, fitL ys c → ys.length = xs.length → ∃ d, fitL ys d ∧ valL xs d + valL xs c = valL xs ys ∧ d.sum + c.sum = ys.sum ∧ d = List.zipWith (· - ·) ys c
  | [], [], [], _, _ => ⟨[], trivial, rfl, rfl, rfl⟩
  | x :: xs, y :: ys, c :: cs, h, hl => by
    obtain ⟨d, h1, h2, h3, h4⟩ := rest_fit (xs := xs) h.2 (by simpa using hl)
    have hc := h.1
    have e : (y - c) * x = y * x - c * x := Nat.sub_mul y c x
    have e2 : c * x ≤ y * x := Nat.mul_le_mul_right x hc
    refine ⟨(y - c) :: d, ⟨Nat.sub_le _ _, h1⟩, ?_, ?_, by rw [h4]; rfl⟩
    · simp only [valL]; omega
    · simp only [List.sum_cons]; omega
  | [], [], _ :: _, h, _ => h.elim
  | [], _ :: _, _, _, hl => by simp at hl
  | _ :: _, [], _, _, hl => by simp at hl
  | _ :: _, _ :: _, [], h, _ => h.elim
theorem gz_rep {y : Nat} : ∀ m : Nat, gz (List.replicate m (0 : Int)) y = 0 := fun m => by
  simp only [gz, List.getD_eq_getElem?_getD, List.getElem?_replicate]
  split <;> rfl
/-- the numbers that have a filling -/
theorem ways_pos {xs ys : List Nat} (hs : Store xs ys) {x : Nat} (hx : x < 1001) : 0 < gz (waysG xs ys) x ↔ ∃ c, fitL ys c ∧ valL xs c = x := by
  have hz0 : ∀ y, gz (zeros.set 0 1) y = if y = 0 then 1 else 0 := fun y => by
    by_cases h : y = 0
    · subst h; rw [gz_set_self (by rw [zeros_len]; omega)]; rfl
    · rw [gz_set_ne h, if_neg h]
      unfold zeros
      exact gz_rep 1001
  have hp : (xs.zip ys).length = xs.length := by rw [List.length_zip, hs.len]; simp
  have hf := hs.few
  have h42 : 42 ^ xs.length ≤ 42 ^ 5 := Nat.pow_le_pow_right (by decide) hf
  have hM : (1 : Int) * ((42 ^ (xs.zip ys).length : Nat) : Int) < 4611686018427387904 := by
    rw [hp]
    have h5 : (42 : Nat) ^ 5 = 130691232 := by decide
    omega
  rw [waysG, it_pos (xs.zip ys) (zeros.set 0 1) 1 (fun p hp => by
    obtain ⟨h1, h2⟩ := List.of_mem_zip hp
    exact ⟨(hs.size _ h1).1, (hs.size _ h1).2, hs.stock _ h2⟩) (by rw [List.length_set, zeros_len]) (fun y => by rw [hz0]; split <;> omega) hM x hx]
  constructor
  · rintro ⟨c, h1, h2, h3⟩
    rw [fit2_eq hs.len] at h1
    rw [val2_eq hs.len] at h2 h3
    rw [hz0] at h3
    refine ⟨c, h1, ?_⟩
    split at h3
    · omega
    · omega
  · rintro ⟨c, h1, h2⟩
    refine ⟨c, (fit2_eq hs.len).2 h1, by rw [val2_eq hs.len]; omega, ?_⟩
    rw [val2_eq hs.len, hz0, if_pos (by omega)]; omega
/-- each choice of scores is one of curlers -/
theorem pick {s : List Nat} {n : Nat} : ∀ (xs c : List Nat), xs.Nodup → fitL (xs.map fun a => ((List.range n).filter fun j => s.getD j 0 == a).length) c →
    ∃ T : List Nat, T.Nodup ∧ (∀ j ∈ T, j < n ∧ s.getD j 0 ∈ xs) ∧ T.length = c.sum ∧ (T.map fun j => s.getD j 0).sum = valL xs c
  | [], [], _, _ => ⟨[], List.nodup_nil, by simp, rfl, rfl⟩
  | a :: xs, k :: c, hn, h => by
    rw [List.nodup_cons] at hn
    obtain ⟨hk, h⟩ := h
    obtain ⟨T, h1, h2, h3, h4⟩ := pick xs c hn.2 h
    obtain ⟨U, hU⟩ : ∃ U, U = ((List.range n).filter fun j => s.getD j 0 == a).take k := ⟨_, rfl⟩
    have hUm : ∀ j ∈ U, j < n ∧ s.getD j 0 = a := fun j hj => by
      rw [hU] at hj
      have := List.mem_filter.1 (List.mem_of_mem_take hj)
      exact ⟨List.mem_range.1 this.1, by simpa using this.2⟩
    have hUl : U.length = k := by rw [hU, List.length_take]; exact Nat.min_eq_left hk
    have hUn : U.Nodup := by rw [hU]; exact (List.nodup_range.filter _).sublist (List.take_sublist _ _)
    have hUs : (U.map fun j => s.getD j 0).sum = k * a := by
      have : ∀ (U : List Nat), (∀ j ∈ U, s.getD j 0 = a) → (U.map fun j => s.getD j 0).sum = U.length * a := by
        intro U
        induction U with
        | nil => intro _; simp
        | cons j r ih =>
          intro hm
          rw [List.map_cons, List.sum_cons, ih (fun j hj => hm j (List.mem_cons_of_mem _ hj)), hm j (List.mem_cons_self ..), List.length_cons, Nat.succ_mul]; omega
      rw [this U (fun j hj => (hUm j hj).2), hUl]
    refine ⟨U ++ T, ?_, fun j hj => ?_, by rw [List.length_append, List.sum_cons, hUl, h3], by rw [List.map_append, List.sum_append, hUs, h4]; rfl⟩
    · rw [List.nodup_append]
      refine ⟨hUn, h1, fun x hx y hy he => ?_⟩
      subst he
      have e1 := (hUm x hx).2
      have e2 := (h2 x hy).2
      rw [e1] at e2
      exact hn.1 e2
    · rcases List.mem_append.1 hj with hj | hj
      · have := hUm j hj; exact ⟨this.1, by rw [this.2]; simp⟩
      · have := h2 j hj; exact ⟨this.1, List.mem_cons_of_mem _ this.2⟩
  | [], _ :: _, _, h => h.elim
  | _ :: _, [], _, h => h.elim
end Go.Proofs.Ytngoldipfgfecaa.Code.Pk
end

