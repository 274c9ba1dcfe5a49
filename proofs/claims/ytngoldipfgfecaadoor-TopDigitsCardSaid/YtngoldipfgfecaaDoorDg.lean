/-
  Part of the proofs about this chapter: contracts of functions, answers of calls, and plain laws.
-/
import Derived.Test.YtngoldipfgfecaaDoorCall
set_option linter.all false
section
namespace Go.Proofs.YtngoldipfgfecaaDoor.Code
open Go Go.Ab
variable {pure : Bool} {base bar : Nat} {H : Heap} {Q : AV → Heap → Prop}

/-! the numbers of fillings -/
theorem set_self {α : Type} : ∀ {l : List α} {i : Nat} {x : α}, l[i]? = some x → l.set i x = l
  | [], _, _, h => by simp at h
  | y :: r, 0, x, h => by simp at h; simp [h]
  | y :: r, i + 1, x, h => by simp at h; simp [set_self h]
def zs (l : List Int) : List AV := l.map (.int .i64)
theorem zs_length {l : List Int} : (zs l).length = l.length := by simp [zs]
theorem zs_plain {l : List Int} : ∀ c ∈ zs l, Plain c := fun c hc => by
  simp only [zs, List.mem_map] at hc
  obtain ⟨a, _, rfl⟩ := hc
  exact Plain.int
/-- an entry, 0 outside -/
def gz (l : List Int) (i : Nat) : Int := l.getD i 0
theorem zs_tops {l : List Int} : AV.top.tops (zs l) = 0 := tops_zero fun x hx => by
  simp only [zs, List.mem_map] at hx
  obtain ⟨a, _, rfl⟩ := hx; rfl
theorem zs_get {l : List Int} {i : Nat} (hi : i < l.length) : (zs l)[i]? = some (.int .i64 (gz l i)) := by
  simp [zs, gz, List.getD_eq_getElem?_getD, List.getElem?_eq_getElem hi]
theorem zs_set {l : List Int} {i : Nat} {n : Int} : setCells (zs l) i [.int .i64 n] = zs (l.set i n) := by
  simp [setCells, zs, List.map_set]
theorem loadZ {id ver off fz s : Nat} {ex : Bool} {l : List Int} (h : H[id]? = some (.row ver (zs l) fz ex)) (hi : off < l.length) :
    aload H ⟨false, s⟩ (.ptr id ver off) = some (.int .i64 (gz l off)) := by
  rw [aload_ptr h, part_one, zs_get hi]
theorem storeZ {K : AV → Heap → List Nat → Prop} {id ver off : Nat} {ex : Bool} {l : List Int} {n : Int} (h : H[id]? = some (.row ver (zs l) 0 ex)) (hi : off < l.length) (hb : bar ≤ id) :
    storeWp base bar 1 (.ptr id ver off) (.int .i64 n) H K = K (.tup []) (H.set id (.row ver (zs (l.set off n)) 0 ex)) [id] := by
  rw [storeWp_ptr (size := 1) h rfl rfl (by omega) (by rw [zs_length]; omega) hb (.inr (by simp [AV.cells, tops_cons, tops_nil, top_int]))]
  simp only [AV.cells, zs_set]

/-- one more place: with one packet of a size -/
def stepW (a : List Int) (s : Nat) (c : List Int) (x : Nat) : List Int :=
  let v := IntKind.i64.wrap (gz c x + gz c (x - s))
  if 2 * s ≤ x then c.set x (IntKind.i64.wrap (v - gz a (x - 2 * s))) else c.set x v
def foldW (a : List Int) (s : Nat) : List Int → Nat → Nat → List Int
  | c, _, 0 => c
  | c, x, n + 1 => foldW a s (stepW a s c x) (x + 1) n
theorem stepW_len {a c : List Int} {s x : Nat} : (stepW a s c x).length = c.length := by
  unfold stepW; dsimp only; split <;> simp
theorem lw {b A B vA fzA k s : Nat} {exA exB : Bool} {a : List Int} {xs ys : List AV} (hs1 : 1 ≤ s) (hs : s ≤ 30) (hk : k < 5)
    (hst : ys[k]? = some (.int .i64 1)) (hla : a.length = 1001) (hAB : A ≠ B) (hbB : b ≠ B) (hbar : bar ≤ B) {R : PQ} :
    ∀ (n x : Nat), x + n = 1001 → s ≤ x → ∀ (c : List Int) (H : Heap), c.length = 1001 → H[b]? = some (.row 0 [.lst 1 true xs, .lst 1 true ys] 0 true) → H[A]? = some (.row vA (zs a) fzA exA) → H[B]? = some (.row 0 (zs c) 0 exB) →
    R (.exit 2) [(1, .ptr b 0 0), (3, .vec A vA 0 1001 1), (13, .lst 1 true xs), (14, .int .i64 5), (15, .int .i64 (k : Nat)), (4, .int .i64 (k : Nat)), (5, .int .i64 (s : Nat)), (6, .vec B 0 0 1001 1), (7, .int .i64 1001), (24, .bool false)] (H.set B (.row 0 (zs (foldW a s c x n)) 0 exB)) →
    Wp E base bar (.loop c33_l0) [(1, .ptr b 0 0), (3, .vec A vA 0 1001 1), (13, .lst 1 true xs), (14, .int .i64 5), (15, .int .i64 (k : Nat)), (4, .int .i64 (k : Nat)), (5, .int .i64 (s : Nat)), (6, .vec B 0 0 1001 1), (7, .int .i64 (x : Nat))] H R := by
  intro n
  induction n with
  | zero =>
    intro x hx hsx c H hc h1 h2 h3 h
    obtain rfl : x = 1001 := by omega
    rw [wp_round c33_l0.eq_1]
    simp [go_sem]
    have e : H.set B (.row 0 (zs (foldW a s c 1001 0)) 0 exB) = H := by
      simp only [foldW]
      exact set_self h3
    rw [e] at h
    exact h
  | succ n ih =>
    intro x hx hsx c H hc h1 h2 h3 h
    have l1 : aload H ⟨false, 1⟩ (.ptr B 0 x) = some (.int .i64 (gz c x)) := loadZ h3 (by omega)
    have l2 : aload H ⟨false, 1⟩ (.ptr B 0 (x - s)) = some (.int .i64 (gz c (x - s))) := loadZ h3 (by omega)
    have e1 : IntKind.i64.wrap ((x : Int) - (s : Int)) = ((x - s : Nat) : Int) := by
      rw [Go.IntWalk.i64_in _ (by omega)]; omega
    have hle : (x : Int) ≤ 1000 := by omega
    rw [wp_round c33_l0.eq_1]
    have hb1 : (H.set B (.row 0 (zs (c.set x (IntKind.i64.wrap (gz c x + gz c (x - s))))) 0 exB))[b]? = some (.row 0 [.lst 1 true xs, .lst 1 true ys] 0 true) := by
      rw [List.getElem?_set_ne (Ne.symm hbB)]; exact h1
    have hA1 : (H.set B (.row 0 (zs (c.set x (IntKind.i64.wrap (gz c x + gz c (x - s))))) 0 exB))[A]? = some (.row vA (zs a) fzA exA) := by
      rw [List.getElem?_set_ne (Ne.symm hAB)]; exact h2
    have hBl : B < H.length := by
      rcases Nat.lt_or_ge B H.length with h | h
      · exact h
      · rw [List.getElem?_eq_none h] at h3; cases h3
    have hB1 : (H.set B (.row 0 (zs (c.set x (IntKind.i64.wrap (gz c x + gz c (x - s))))) 0 exB))[B]? = some (.row 0 (zs (c.set x (IntKind.i64.wrap (gz c x + gz c (x - s))))) 0 exB) := by
      rw [List.getElem?_set_self hBl]
    have lb : aload (H.set B (.row 0 (zs (c.set x (IntKind.i64.wrap (gz c x + gz c (x - s))))) 0 exB)) ⟨false, 1⟩ (.ptr b 0 1) = some (.lst 1 true ys) := by rw [aload_ptr hb1]; rfl
    have ly : aload (H.set B (.row 0 (zs (c.set x (IntKind.i64.wrap (gz c x + gz c (x - s))))) 0 exB)) ⟨false, 1⟩ (.fp (.int .i64 1)) = some (.int .i64 1) := rfl
    have e2 : IntKind.i64.wrap ((2 : Int) * (s : Int)) = ((2 * s : Nat) : Int) := by
      rw [Go.IntWalk.i64_in _ (by omega)]; omega
    have e3 : IntKind.i64.wrap ((x : Int) - ((2 * s : Nat) : Int)) = (x : Int) - ((2 * s : Nat) : Int) := Go.IntWalk.i64_in _ (by omega)
    have e4 : IntKind.i64.wrap ((x : Int) + 1) = ((x + 1 : Nat) : Int) := by
      rw [Go.IntWalk.i64_in _ (by omega)]; omega
    simp [go_sem, hle, l1, l2, e1]
    refine ⟨by omega, by omega, by omega, ?_⟩
    rw [storeZ h3 (by omega) hbar]
    simp only [Int.natCast_add] at e4
    have e5 : IntKind.i64.wrap 2 = 2 := rfl
    by_cases hf : 2 * s ≤ x
    · have e6 : IntKind.i64.wrap ((x : Int) - 2 * (s : Int)) = ((x - 2 * s : Nat) : Int) := by
        rw [Go.IntWalk.i64_in _ (by omega)]; omega
      have e7 : IntKind.i64.wrap ((2 : Int) * (s : Int)) = 2 * (s : Int) := Go.IntWalk.i64_in _ (by omega)
      have l3 := loadZ (s := 1) hB1 (off := x) (by simp; omega)
      have l4 := loadZ (s := 1) hA1 (off := x - 2 * s) (by omega)
      have hx1 : gz (c.set x (IntKind.i64.wrap (gz c x + gz c (x - s)))) x = IntKind.i64.wrap (gz c x + gz c (x - s)) := by
        simp [gz, List.getElem?_set_self (show x < c.length by omega)]
      rw [hx1] at l3
      simp [go_sem, lb, hst, hk, e5, e7, e6, l3, l4]
      refine ⟨by omega, by omega, by omega, ?_⟩
      rw [storeZ hB1 (by simp; omega) hbar]
      simp [go_sem, e4]
      have := ih (x + 1) (by omega) (by omega) (stepW a s c x) (H.set B (.row 0 (zs (stepW a s c x)) 0 exB)) (by rw [stepW_len]; exact hc) (by rw [List.getElem?_set_ne (Ne.symm hbB)]; exact h1)
        (by rw [List.getElem?_set_ne (Ne.symm hAB)]; exact h2) (List.getElem?_set_self hBl) (by simpa [foldW] using h)
      have hst2 : stepW a s c x = c.set x (IntKind.i64.wrap (IntKind.i64.wrap (gz c x + gz c (x - s)) - gz a (x - 2 * s))) := by simp [stepW, hf]
      rw [hst2] at this
      simpa using this
    · have e6 : ¬ 0 ≤ IntKind.i64.wrap ((x : Int) - 2 * (s : Int)) := by
        rw [Go.IntWalk.i64_in _ (by omega)]; omega
      have e7 : IntKind.i64.wrap ((2 : Int) * (s : Int)) = 2 * (s : Int) := Go.IntWalk.i64_in _ (by omega)
      simp [go_sem, lb, hst, hk, e5, e7, e6, e4]
      have := ih (x + 1) (by omega) (by omega) (stepW a s c x) (H.set B (.row 0 (zs (stepW a s c x)) 0 exB)) (by rw [stepW_len]; exact hc) (by rw [List.getElem?_set_ne (Ne.symm hbB)]; exact h1)
        (by rw [List.getElem?_set_ne (Ne.symm hAB)]; exact h2) (List.getElem?_set_self hBl) (by simpa [foldW] using h)
      have hst2 : stepW a s c x = c.set x (IntKind.i64.wrap (gz c x + gz c (x - s))) := by simp [stepW, hf]
      rw [hst2] at this
      simpa using this

theorem frz_z {d A vA fz : Nat} {ex : Bool} {a : List Int} {m : Nat} (hm : a.length = m) (h : H[A]? = some (.row vA (zs a) fz ex)) (hb : bar ≤ A) :
    frz (d + 3) bar H (.vec A vA 0 m 1) = some (.lst 1 false (zs a), H.set A (.row vA (zs a) (max fz m) ex)) := by
  have e := frz_vec (d := d + 2) (bar := bar) (len := m) (off := 0) (sz := 1) (xs := zs a) (H' := H.set A (.row vA (zs a) (max fz m) ex)) h (by rw [zs_length]; omega) hb (by
    rw [show 0 + m * 1 = m by omega, List.drop_zero, List.take_of_length_le (by rw [zs_length]; omega), plains zs_plain])
  rw [e]
  have := chunks_one (l := zs a)
  rw [zs_length, hm] at this
  rw [this]
theorem flat_zs : ∀ {b : List Int}, (zs b).flatMap AV.cells = zs b
  | [] => rfl
  | x :: r => by
    have := flat_zs (b := r)
    simp only [zs, List.map_cons, List.flatMap_cons, AV.cells] at this ⊢; rw [this]; rfl
theorem eq_nn {K : AV → Heap → List Nat → Prop} : eqWp false .nilS (some .nils) (some .nils) H K = K (.bool true) H [] := (rfl)
theorem eq_ln {n : Nat} {ex : Bool} {l : List AV} {K : AV → Heap → List Nat → Prop} : eqWp false .nilS (some (.lst n ex l)) (some .nils) H K = K (.bool false) H [] := (rfl)
theorem k54 {A vA fz : Nat} {ex : Bool} {a : List Int} {m : Nat} (hm : a.length = m) (h0 : 0 < m) (hm2 : m < 100000) (h : H[A]? = some (.row vA (zs a) fz ex)) (hb : bar ≤ A)
    (hQ : Q (.vec H.length 0 0 m 1) (H.set A (.row vA (zs a) (max fz m) ex) ++ [.row 0 (zs a) 0 false])) : WpCall E pure base bar 54 [.vec A vA 0 m 1] H Q := by
  rw [call54]
  have e1 : frzAll bar H [.vec A vA 0 m 1] = some ([.lst 1 false (zs a)], H.set A (.row vA (zs a) (max fz m) ex)) := by
    simp [frzAll, frz.frzs, frzsW, frz_z (d := 5) hm h hb]
  rw [e1]
  have hz : ∀ {bar : Nat} {H : Heap}, frzsW (frz 8 bar) H (zs a) = some (zs a, H) := plains (d := 6) zs_plain
  simp [go_sem, WpFun, c54, eq_ln, aop, fillA, chunks]
  rw [wpop_app]
  simp [Opd.ev, go_sem, appWp, asrc, aappend, flat_zs, zs_length, hm]
  simp only [hz]
  have hne : zs a ≠ [] := fun e => by
    have h9 := congrArg List.length e
    rw [zs_length, List.length_nil] at h9; omega
  simp [hne, zs_length, hm, show m * 8 ≤ 140737488355328 by omega]
  simpa using hQ
/-- size by size -/
def itW : List Int → Nat → Nat → List Int
  | a, _, 0 => a
  | a, k, n + 1 => itW (foldW a (2 ^ k) a (2 ^ k) (1001 - 2 ^ k)) (k + 1) n
theorem foldW_len {a : List Int} {s : Nat} : ∀ {n x : Nat} {c : List Int}, (foldW a s c x n).length = c.length
  | 0, _, _ => rfl
  | n + 1, x, c => by rw [foldW, foldW_len, stepW_len]
theorem lw1 {b n0 : Nat} {xs ys : List AV} {H0 : Heap} (hxs : ∀ k, k < 5 → xs[k]? = some (.int .i64 ((2 ^ k : Nat) : Int))) (hys : ∀ k, k < 5 → ys[k]? = some (.int .i64 1)) (hxl : xs.length = 5) (hn0 : n0 ≤ b) (hbar : bar ≤ n0) {R : PQ} :
    ∀ (n k : Nat), k + n = 5 → ∀ (a : List Int) (A fz : Nat) (ex : Bool) (H : Heap), a.length = 1001 → b < A → H.take n0 = H0 → H[b]? = some (.row 0 [.lst 1 true xs, .lst 1 true ys] 0 true) → H[A]? = some (.row 0 (zs a) fz ex) → A + 1 = H.length →
    (∀ A' fz' ex' H', b < A' → H'.take n0 = H0 → H'[A']? = some (.row 0 (zs (itW a k n)) fz' ex') →
      R (.exit 0) [(1, .ptr b 0 0), (3, .vec A' 0 0 1001 1), (13, .lst 1 true xs), (14, .int .i64 5), (15, .int .i64 5), (16, .bool false)] H') →
    Wp E base bar (.loop c33_l1) [(1, .ptr b 0 0), (3, .vec A 0 0 1001 1), (13, .lst 1 true xs), (14, .int .i64 5), (15, .int .i64 (k : Nat))] H R := by
  intro n
  induction n with
  | zero =>
    intro k hk a A fz ex H ha hbA ht h1 h2 hA h
    obtain rfl : k = 5 := by omega
    rw [wp_round c33_l1.eq_1]
    simp [go_sem]
    exact h A fz ex H hbA ht h2
  | succ n ih =>
    intro k hk a A fz ex H ha hbA ht h1 h2 hA h
    have hk5 : k < 5 := by omega
    have hp : 2 ^ k ≤ 16 := Nat.pow_le_pow_right (by decide) (show k ≤ 4 by omega)
    have hp1 : 1 ≤ 2 ^ k := Nat.one_le_two_pow
    have lf : aload H ⟨false, 1⟩ (.fp (.int .i64 ((2 ^ k : Nat) : Int))) = some (.int .i64 ((2 ^ k : Nat) : Int)) := rfl
    generalize hs : 2 ^ k = s at *
    have hx := hxs k hk5
    rw [hs] at hx
    rw [wp_round c33_l1.eq_1]
    simp [go_sem, hk5, hx, show (k : Int) < 5 by omega]
    refine k54 ha (by omega) (by omega) h2 (by omega) ?_
    simp [go_sem]
    have hA1 : A < H.length := by omega
    have hH : (H.set A (Blk.row 0 (zs a) (max fz 1001) ex) ++ [Blk.row 0 (zs a) 0 false]).length = H.length + 1 := by simp
    refine lw (k := k) (s := s) (exB := false) (by omega) (by omega) hk5 (hys k hk5) ha (by omega) (by omega) (by omega) (1001 - s) s (by omega) (Nat.le_refl _) a _ ha
      (by rw [List.getElem?_append_left (by simp; omega), List.getElem?_set_ne (by omega)]; exact h1)
      (by rw [List.getElem?_append_left (by simp; omega), List.getElem?_set_self hA1])
      (by rw [List.getElem?_append_right (by simp)]; simp) ?_
    simp [go_sem]
    have e4 : IntKind.i64.wrap ((k : Int) + 1) = ((k + 1 : Nat) : Int) := by
      rw [Go.IntWalk.i64_in _ (by omega)]; omega
    rw [e4]
    refine ih (k + 1) (by omega) (foldW a s a s (1001 - s)) H.length 0 false _ (by rw [foldW_len]; exact ha) (by omega) ?_ ?_ ?_ (by simp) ?_
    · rw [List.take_append_of_le_length (by simp; omega), List.take_set_of_le (by omega)]; exact ht
    · rw [List.getElem?_append_left (by simp; omega), List.getElem?_set_ne (by omega)]; exact h1
    · rw [List.getElem?_append_right (by simp)]; simp
    · intro A' fz' ex' H' g1 g2 g3
      refine h A' fz' ex' H' g1 g2 ?_
      rw [itW, hs]; exact g3

theorem itW_len : ∀ {n k : Nat} {a : List Int}, (itW a k n).length = a.length
  | 0, _, _ => rfl
  | n + 1, k, a => by rw [itW, itW_len, foldW_len]
def zeros : List Int := List.replicate 1001 0
theorem zeros_len : zeros.length = 1001 := List.length_replicate
/-- the list of the numbers of fillings from one packet each of 1, 2, 4, 8, 16 -/
def waysW : List Int := itW (zeros.set 0 1) 0 5
theorem zs_rep {m : Nat} : (List.replicate m [AV.int .i64 0]).flatten = zs (List.replicate m 0) := by
  induction m with
  | zero => rfl
  | succ m ih => rw [List.replicate_succ, List.flatten_cons, ih, List.replicate_succ]; rfl
theorem mk_z {base : Nat} {fr : Ab.Frame} : aop base bar (.mkslice [.int .i64 0] 8 (.c (.int .i64 1001)) (.c (.int .i64 1001))) fr H = some (.vec H.length 0 0 1001 1, H ++ [.row 0 (zs zeros) 0 true], []) := by
  show aop base bar _ fr H = some (.vec H.length 0 0 1001 1, H ++ [.row 0 (zs (List.replicate 1001 0)) 0 true], [])
  rw [← zs_rep]; rfl
theorem aload_own {x y : AV} {r : Blk} {s : Nat} : aload (H ++ [.row 0 [x, y] 0 true, r]) ⟨false, s⟩ (.ptr H.length 0 0) = some x := by
  rw [aload_ptr (ver := 0) (cs := [x, y]) (fz := 0) (ex := true) (by simp)]; rfl
theorem k33 (hbar : bar ≤ H.length) (hQ : Q (.lst 1 false (zs waysW)) H) : WpCall E pure base bar 33 [.agg [L5, O5]] H Q := by
  rw [call33]
  have e1 : frzAll bar H [.agg [L5, O5]] = some ([.agg [L5, O5]], H) := rfl
  rw [e1]
  simp [go_sem, WpFun, c33, L5, O5]
  rw [mk_z]
  simp [go_sem]
  rw [storeZ (ex := true) (l := zeros) (by simp) (by rw [zeros_len]; omega) (by split <;> omega)]
  simp [go_sem, aload_own]
  refine lw1 (b := H.length) (n0 := H.length) (H0 := H) (xs := [.int .i64 1, .int .i64 2, .int .i64 4, .int .i64 8, .int .i64 16]) (ys := [.int .i64 1, .int .i64 1, .int .i64 1, .int .i64 1, .int .i64 1])
    (fun k hk => by match k, hk with | 0, _ => rfl | 1, _ => rfl | 2, _ => rfl | 3, _ => rfl | 4, _ => rfl) (fun k hk => by match k, hk with | 0, _ => rfl | 1, _ => rfl | 2, _ => rfl | 3, _ => rfl | 4, _ => rfl) rfl (Nat.le_refl _)
    (bar := if pure = true then H.length else bar) (by split <;> omega) 5 0 rfl (zeros.set 0 1) (H.length + 1) 0 true _ (by rw [List.length_set, zeros_len]) (by omega) ?_ ?_ ?_ ?_ ?_
  · simp
  · simp
  · simp
  · simp
  · intro A' fz' ex' H' g1 g2 g3
    simp [go_sem]
    have hl : (itW (zeros.set 0 1) 0 5).length = 1001 := by
      rw [itW_len, List.length_set, zeros_len]
    have hA : A' < H'.length := by
      rcases Nat.lt_or_ge A' H'.length with h | h
      · exact h
      · rw [List.getElem?_eq_none h] at g3; cases g3
    rw [frz_z (d := 5) (m := 1001) hl g3 (by split <;> omega)]
    simp [go_sem]
    rw [List.take_set_of_le (by omega), g2]
    unfold waysW at hQ
    rw [zs_tops, if_pos (Nat.zero_le _)]
    exact hQ

theorem k53 {n a b : Int} : WpCall E pure base bar 53 [.int .i64 n, .int .i64 a, .int .i64 b] H Q ↔ Q (.bool (decide (a ≤ n) && decide (n ≤ b))) H := by
  rw [call53]
  by_cases h : a ≤ n <;> simp [go_sem, WpFun, c53, h]
theorem frz2 {x y : AV} {d : Nat} (hx : frz (d + 1) bar H x = some (x, H)) (hy : frz (d + 1) bar H y = some (y, H)) : frz (d + 2) bar H (.agg [x, y]) = some (.agg [x, y], H) := by
  simp [frz_agg, frzsW_cons, frzsW_nil, hx, hy]
theorem storeA {base id : Nat} {ex : Bool} {x y a b : AV} {K : AV → Heap → List Nat → Prop} (h : H[id]? = some (.row 0 [a, b] 0 ex)) (hb : bar ≤ id) (hx : x.top = 0) (hy : y.top = 0) :
    storeWp base bar 2 (.ptr id 0 0) (.agg [x, y]) H K = K (.tup []) (H.set id (.row 0 [x, y] 0 ex)) [id] := by
  rw [storeWp_ptr (size := 2) h rfl rfl (Nat.zero_le _) (by simp) hb (.inr (by simp [AV.cells, tops_cons, tops_nil, hx, hy]))]
  simp [AV.cells, setCells]
theorem aload_a {id : Nat} {ex : Bool} {x y : AV} (h : H[id]? = some (.row 0 [x, y] 0 ex)) : aload H ⟨true, 2⟩ (.ptr id 0 0) = some (.agg [x, y]) := by
  rw [aload_ptr h]; rfl
theorem k31 {n : Nat} (hn : n < 32) (hbar : bar ≤ H.length) (hQ : Q (.tup [.agg [L5, O5], .int .i64 0]) H) : WpCall E pure base bar 31 [L5, O5, .int .i64 (n : Nat)] H Q := by
  rw [call31]
  have e1 : frzAll bar H [L5, O5, .int .i64 (n : Nat)] = some ([L5, O5, .int .i64 (n : Nat)], H) := rfl
  rw [e1]
  have hle : (n : Int) ≤ 1000 := by omega
  simp [go_sem, WpFun, c31, call67, k53, hle]
  rw [storeA (a := .nils) (b := .nils) (ex := true) (by simp) (by split <;> omega) rfl rfl]
  simp [go_sem, k53, hle]
  rw [aload_a (x := L5) (y := O5) (ex := true) (by simp)]
  simp [go_sem]
  rw [storeA (a := .nils) (b := .nils) (ex := true) (by simp) (by split <;> omega) rfl rfl]
  simp [go_sem]
  rw [aload_a (x := L5) (y := O5) (ex := true) (by simp)]
  simp [go_sem, L5, O5]
  exact hQ
theorem k9 {n : Nat} (hn : n < 32) (hbar : bar ≤ H.length) (hw : gz waysW n = 1) (hQ : Q (.tup [.int .i64 1, .int .i64 0]) H) : WpCall E pure base bar 9 [L5, O5, .int .i64 (n : Nat)] H Q := by
  rw [call9]
  have e1 : frzAll bar H [L5, O5, .int .i64 (n : Nat)] = some ([L5, O5, .int .i64 (n : Nat)], H) := rfl
  rw [e1]
  simp [go_sem, WpFun, c9]
  refine k31 hn (by split <;> omega) ?_
  simp [go_sem]
  rw [storeA (a := .nils) (b := .nils) (ex := true) (by simp) (by split <;> omega) rfl rfl]
  simp [go_sem]
  rw [aload_a (x := L5) (y := O5) (ex := true) (by simp)]
  simp [go_sem]
  refine k33 (by split <;> simp <;> omega) ?_
  have hwl : waysW.length = 1001 := by unfold waysW; rw [itW_len, List.length_set, zeros_len]
  have hz : (zs waysW)[n]? = some (.int .i64 1) := by rw [zs_get (by omega), hw]
  generalize zs waysW = W at *
  simp [go_sem, hz]
  exact hQ
end Go.Proofs.YtngoldipfgfecaaDoor.Code
end

section
namespace Go.Proofs.YtngoldipfgfecaaDoor.Code
open Go Go.Ab
variable {pure : Bool} {base bar : Nat} {H : Heap} {Q : AV → Heap → Prop}

theorem gz_take {c : List Int} {i : Nat} (hi : i < 32) : gz (c.take 32) i = gz c i := by
  simp [gz, List.getElem?_take, hi]
theorem set_take {c : List Int} {x : Nat} {v : Int} (hx : x < 32) : (c.set x v).take 32 = (c.take 32).set x v := by
  rw [List.take_set]
theorem set_take2 {c : List Int} {x : Nat} {v : Int} (hx : 32 ≤ x) : (c.set x v).take 32 = c.take 32 := List.take_set_of_le hx
theorem step_take {a c : List Int} {s x : Nat} (hx : x < 32) : (stepW a s c x).take 32 = stepW (a.take 32) s (c.take 32) x := by
  unfold stepW
  dsimp only
  rw [gz_take hx, gz_take (show x - s < 32 by omega), gz_take (show x - 2 * s < 32 by omega)]
  split <;> rw [set_take hx]
theorem step_take2 {a c : List Int} {s x : Nat} (hx : 32 ≤ x) : (stepW a s c x).take 32 = c.take 32 := by
  unfold stepW
  dsimp only
  split <;> rw [set_take2 hx]
theorem fold_take {a : List Int} {s : Nat} : ∀ (n x : Nat) (c : List Int), (foldW a s c x n).take 32 = foldW (a.take 32) s (c.take 32) x (min n (32 - x))
  | 0, x, c => by simp [foldW]
  | n + 1, x, c => by
    rw [foldW, fold_take n (x + 1)]
    by_cases hx : x < 32
    · rw [step_take hx, show min (n + 1) (32 - x) = min n (32 - (x + 1)) + 1 by omega, foldW]
    · rw [step_take2 (by omega), show min n (32 - (x + 1)) = 0 by omega, show min (n + 1) (32 - x) = 0 by omega]; rfl
def itV : List Int → Nat → Nat → List Int
  | a, _, 0 => a
  | a, k, n + 1 => itV (foldW a (2 ^ k) a (2 ^ k) (32 - 2 ^ k)) (k + 1) n
theorem it_take : ∀ (n k : Nat) (a : List Int), (itW a k n).take 32 = itV (a.take 32) k n
  | 0, k, a => rfl
  | n + 1, k, a => by
    rw [itW, it_take n, itV, fold_take]
    congr 2
    omega
theorem zeros_take : (zeros.set 0 1).take 32 = (List.replicate 32 (0 : Int)).set 0 1 := by
  rw [List.take_set]
  unfold zeros
  rw [List.take_replicate]; rfl
theorem itV_one : ∀ n, n < 32 → gz (itV ((List.replicate 32 (0 : Int)).set 0 1) 0 5) n = 1 := by decide +kernel
theorem ways_one {n : Nat} (hn : n < 32) : gz waysW n = 1 := by
  rw [← gz_take hn, waysW, it_take, zeros_take]
  exact itV_one n hn

def sameF : List (Nat × AV) → List (Nat × AV) → Bool
  | [], [] => true
  | (i, x) :: r, (j, y) :: t => Nat.beq i j && x.same y && sameF r t
  | _, _ => false
theorem sameF_eq : ∀ {x y : List (Nat × AV)}, sameF x y = true → x = y
  | [], [], _ => rfl
  | (i, x) :: r, (j, y) :: t, h => by
    simp only [sameF, Bool.and_eq_true] at h
    obtain ⟨⟨h1, h2⟩, h3⟩ := h
    rw [Nat.eq_of_beq_eq_true h1, AV.same_eq _ _ h2, sameF_eq h3]
  | [], _ :: _, h => by cases h
  | _ :: _, [], h => by cases h
def okx (r : Option (AExit × Ab.St)) (fr : List (Nat × AV)) : Bool := match r with
  | some (.exit 0, ⟨f, []⟩) => sameF f fr
  | _ => false
theorem okx_eq {r : Option (AExit × Ab.St)} {fr : List (Nat × AV)} (h : okx r fr = true) : r = some (.exit 0, ⟨fr, []⟩) := by
  unfold okx at h
  split at h
  · rw [sameF_eq h]
  · cases h
def lp (n : Nat) : Bool := okx (exec E 100 0 0 (.loop c3_l0) ⟨[(3, iv n), (6, digs n), (10, pos5 n), (66, .int .i64 0)], []⟩) [(3, iv n), (6, digs n), (10, pos5 n), (66, .int .i64 5), (67, .bool false)]
theorem lp_0 : (List.range' 0 8).all lp = true := by kernel_rfl
theorem lp_8 : (List.range' 8 8).all lp = true := by kernel_rfl
theorem lp_16 : (List.range' 16 8).all lp = true := by kernel_rfl
theorem lp_24 : (List.range' 24 8).all lp = true := by kernel_rfl
theorem lp_of {i c : Nat} (h : (List.range' i c).all lp = true) {x : Nat} (h1 : i ≤ x) (h2 : x < i + c) : lp x = true := by
  rw [List.all_eq_true] at h
  exact h x (List.mem_range'_1.2 ⟨h1, h2⟩)
theorem lp_all {n : Nat} (hn : n < 32) : lp n = true := by
  by_cases h1 : n < 8
  · exact lp_of lp_0 (by omega) (by omega)
  by_cases h2 : n < 16
  · exact lp_of lp_8 (by omega) (by omega)
  by_cases h3 : n < 24
  · exact lp_of lp_16 (by omega) (by omega)
  · exact lp_of lp_24 (by omega) (by omega)
theorem l3 {n : Nat} (hn : n < 32) {R : PQ} (h : R (.exit 0) [(3, iv n), (6, digs n), (10, pos5 n), (66, .int .i64 5), (67, .bool false)] []) :
    Wp E 0 0 (.loop c3_l0) [(3, .int .i64 (n : Nat)), (6, digs n), (10, pos5 n), (66, .int .i64 0)] [] R := ⟨100, _, _, okx_eq (lp_all hn), h⟩
theorem len_digs {n : Nat} {K : AV → Heap → List Nat → Prop} : lenWp (some (digs n)) H K = K (.int .i64 5) H [] := (rfl)
theorem len_pos5 {n : Nat} {K : AV → Heap → List Nat → Prop} : lenWp (some (pos5 n)) H K = K (.int .i64 5) H [] := (rfl)

/-- the law: the walk -/
theorem digits_true {p : Nat} (hp : p < 256) : ∃ f H', acall E f 3 [.int .u8 (p : Nat)] [] = some (.bool true, H') := by
  have hn : p % 32 < 32 := Nat.mod_lt _ (by decide)
  have key : WpCall E false 0 0 3 [.int .u8 (p : Nat)] [] (fun v _ => v = .bool true) := by
    rw [call3]
    have e1 : IntKind.i64.wrap (p : Int) = (p : Int) := i64_nat (by omega)
    have e2 : (p : Int).tmod 32 = ((p % 32 : Nat) : Int) := by
      rw [Int.tmod_eq_emod_of_nonneg (by omega)]; omega
    have e3 : abin .rem (.int .i64 (p : Int)) (.int .i64 32) = some (.int .i64 ((p % 32 : Nat) : Int)) := by
      show some (AV.int .i64 ((p : Int).tmod 32)) = _
      rw [e2]
    generalize p % 32 = n at *
    have c8 : ∀ {pure : Bool} {Q : AV → Heap → Prop}, WpCall E pure 0 0 8 [.lst 1 true [.int .i64 1, .int .i64 2, .int .i64 4, .int .i64 8, .int .i64 16], .lst 1 true [.int .i64 1, .int .i64 1, .int .i64 1, .int .i64 1, .int .i64 1], .int .i64 (n : Nat)] [] Q ↔ Q (.tup [digs n, .int .i64 0]) [] := call8 hn
    have c9 : ∀ {pure : Bool} {Q : AV → Heap → Prop}, Q (.tup [.int .i64 1, .int .i64 0]) [] → WpCall E pure 0 0 9 [.lst 1 true [.int .i64 1, .int .i64 2, .int .i64 4, .int .i64 8, .int .i64 16], .lst 1 true [.int .i64 1, .int .i64 1, .int .i64 1, .int .i64 1, .int .i64 1], .int .i64 (n : Nat)] [] Q := k9 hn (Nat.zero_le _) (ways_one hn)
    simp [go_sem, WpFun, c3, e1, e3, aop, fillA, setCells, chunks, call7, c7, c8]
    refine c9 ?_
    simp [go_sem, call10 hn, len_digs, len_pos5]
    refine l3 hn ?_
    simp [go_sem, iv, call11 hn, call12]
  obtain ⟨f, v, H', h1, rfl⟩ := key
  exact ⟨f, H', h1⟩
end Go.Proofs.YtngoldipfgfecaaDoor.Code
end

