/-
  Part of the proofs about this chapter: contracts of functions, answers of calls, and plain laws.
-/
import Derived.Test.YtngoldipfgfecaaKit
import Derived.Test.YtngoldipfgfecaaCs
set_option linter.all false
section
namespace Go.Ab
open Go.RowKit Go.ChangeShapes Go.WideShapes
variable {H : Type} {enc : TypeId × Value → H} {P : Program} {W W' : World} {base : Nat} {spare : Nat → Bool} {held : Bool}

theorem flat_vr {n : Nat} {t : TypeId} {v : Value} {d : DataW H} {ps : List MemPlace} {r : Reach} {b0 : Nat}
    (hu : (∃ fs, P.underlying t = some (.struct fs)) ∨ ∃ m e, P.underlying t = some (.array m e)) (hf : flatT P n t = true)
    (hval : Value.okWide P W r b0 t v) (hd : DataW.Trod enc P W 0 spare held t v d ps) : ∃ ys, VR (ctx0 W) (.agg ys) v ∧ Sh P n t ys := by
  have hv : ∃ cs, v = .agg cs := by
    unfold Value.okWide at hval
    rcases hu with ⟨fs, hu⟩ | ⟨m, e, hu⟩
    · rw [hu] at hval
      obtain ⟨cs, h, _⟩ := hval
      exact ⟨cs, h⟩
    · rw [hu] at hval
      obtain ⟨cs, h, _⟩ := hval
      exact ⟨cs, h⟩
  obtain ⟨cs, rfl⟩ := hv
  obtain ⟨fuel, hd⟩ := hd
  obtain ⟨ys, h1, h2⟩ := flat_cel (W := W) n t hf _ _ _ hd
  have hc : (Value.agg cs).cells.toList = cs.toList := rfl
  rw [hc] at h2
  exact ⟨ys, .agg ys cs (by rw [h2.len]; simp) h2.one fun i c u hi hu => h2.vr i c u hi (by simpa using hu), h1⟩

theorem sh_nat {n : Nat} {e : TypeId} {k : IntKind} {ys : List AV} (he : P.underlying e = some (.int k)) (hk : k.min = 0) (h : Sh P (n + 1) e ys) : ∃ a : Nat, ys = [.int k a] ∧ (a : Int) ≤ k.max := by
  unfold Sh at h
  rw [he] at h
  obtain ⟨z, rfl, hw⟩ := h
  simp only [Lit.wf, Bool.and_eq_true, decide_eq_true_eq, hk] at hw
  obtain ⟨a, rfl⟩ := Int.eq_ofNat_of_zero_le hw.1
  exact ⟨a, rfl, hw.2⟩

theorem u8_wf {z : Int} (h : (Lit.int .u8 z).wf = true) : ∃ a : Nat, z = a ∧ a < 256 := by
  simp only [Lit.wf, Bool.and_eq_true, decide_eq_true_eq] at h
  have m0 : IntKind.u8.min = 0 := by decide
  have m1 : IntKind.u8.max = 255 := by decide
  exact ⟨z.toNat, by omega, by omega⟩

/-- a struct of a byte and a word -/
theorem row_vr {t : TypeId} {f0 f1 : Field} {v : Value} {d : DataW H} {ps : List MemPlace} {r : Reach} {b0 : Nat}
    (ht : P.underlying t = some (.struct #[f0, f1])) (o0 : f0.offset = 0) (o1 : f1.offset = 1) (c0 : P.cellsOf f0.type = 1) (c1 : P.cellsOf f1.type = 1) (ct : P.cellsOf t = 2)
    (h0 : P.underlying f0.type = some (.int .u8)) (h1 : P.underlying f1.type = some (.int .u32))
    (hval : Value.okWide P W r b0 t v) (hd : DataW.Trod enc P W 0 spare held t v d ps) :
    ∃ p bits : Nat, p < 256 ∧ bits < 4294967296 ∧ VR (ctx0 W) (.agg [.int .u8 (p : Nat), .int .u32 (bits : Nat)]) v := by
  have hf : flatT P 2 t = true := by
    have g0 : flatT P 1 f0.type = true := by unfold flatT; rw [h0]
    have g1 : flatT P 1 f1.type = true := by unfold flatT; rw [h1]
    unfold flatT; rw [ht]
    simp [rowed, o0, o1, c0, c1, ct, g0, g1]
  obtain ⟨ys, hv, hs⟩ := flat_vr (.inl ⟨_, ht⟩) hf hval hd
  unfold Sh at hs
  rw [ht] at hs
  obtain ⟨hl, hs⟩ := hs
  rw [ct] at hl
  have s0 := hs f0 (by simp)
  have s1 := hs f1 (by simp)
  rw [o0, c0] at s0
  rw [o1, c1] at s1
  obtain ⟨p, hp, hp2⟩ := sh_nat h0 (by decide) s0
  obtain ⟨b, hb, hb2⟩ := sh_nat h1 (by decide) s1
  match ys, hl with
  | [x, y], _ =>
    simp at hp hb
    subst hp hb
    have m1 : IntKind.u8.max = 255 := by decide
    have m2 : IntKind.u32.max = 4294967295 := by decide
    exact ⟨p, b, by omega, by omega, hv⟩

/-- an array of bytes -/
theorem bytes_vr {t e : TypeId} {m : Nat} {v : Value} {d : DataW H} {ps : List MemPlace} {r : Reach} {b0 : Nat}
    (ht : P.underlying t = some (.array m e)) (he : P.underlying e = some (.int .u8)) (ce : P.cellsOf e = 1) (ct : P.cellsOf t = m)
    (hval : Value.okWide P W r b0 t v) (hd : DataW.Trod enc P W 0 spare held t v d ps) :
    ∃ f : Nat → Nat, (∀ i, f i < 256) ∧ VR (ctx0 W) (.agg ((List.range m).map fun i => .int .u8 ((f i : Nat) : Int))) v := by
  have hf : flatT P 2 t = true := by
    have g0 : flatT P 1 e = true := by unfold flatT; rw [he]
    unfold flatT; rw [ht]
    simp [ce, ct, g0]
  obtain ⟨ys, hv, hs⟩ := flat_vr (.inr ⟨_, _, ht⟩) hf hval hd
  unfold Sh at hs
  rw [ht] at hs
  obtain ⟨hl, hs⟩ := hs
  rw [ct] at hl
  have each : ∀ i, i < m → ∃ a : Nat, ys[i]? = some (.int .u8 (a : Nat)) ∧ a < 256 := fun i hi => by
    have := hs i hi
    rw [ce, Nat.mul_one] at this
    obtain ⟨a, ha, ha2⟩ := sh_nat he (by decide) this
    have m1 : IntKind.u8.max = 255 := by decide
    refine ⟨a, ?_, by omega⟩
    have h2 : ((ys.drop i).take 1)[0]? = some (.int .u8 (a : Nat)) := by rw [ha]; rfl
    simpa using h2
  obtain ⟨Y, hY⟩ := Go.Deep.choose_lt each
  refine ⟨fun i => if i < m then Y i else 0, fun i => ?_, ?_⟩
  · simp only
    split
    · rename_i h; exact (hY i h).2
    · decide
  · have : ys = (List.range m).map fun i => AV.int .u8 (((if i < m then Y i else 0 : Nat)) : Int) := by
      apply List.ext_getElem?
      intro i
      by_cases hi : i < m
      · rw [(hY i hi).1]; simp [hi]
      · rw [List.getElem?_eq_none (by omega), List.getElem?_eq_none (by simp; omega)]
    rw [← this]; exact hv
end Go.Ab
end

section
namespace Go.Proofs.Ytngoldipfgfecaa.Code
open Go Go.Ab
variable {pure : Bool} {base bar : Nat} {H : Heap} {Q : AV → Heap → Prop}

theorem k97 {a b c : Int} : WpCall E pure base bar 97 [.int .i64 a, .int .i64 b, .int .i64 c] H Q ↔ Q (.bool (decide (a ≤ b) && decide (b ≤ c))) H := by
  rw [call97]
  by_cases h : a ≤ b <;> simp [go_sem, WpFun, c97, h]

theorem k96 {x : Nat} (hx : x < 100) : WpCall E pure base bar 96 [.int .i64 (x : Int)] H Q ↔ Q (.bool false) H := by
  rw [call96]
  have h1 : (0 : Int) ≤ (x : Int) := by omega
  have h2 : (x : Int) ≤ 99 := by omega
  simp [go_sem, WpFun, c96, k97, h1, h2]

theorem k94 {v : AV} {x : Nat} (hv : isL v [x]) (hx : x < 100) : WpCall E pure base bar 94 [v, .fn 96 [] []] H Q ↔ Q (.int .i64 (-1)) H := by
  rw [call94]
  have e1 : IntKind.i64.wrap 1 = 1 := by decide
  simp [go_sem, WpFun, c94, hv.frz, hv.len]
  rw [wp_round c94_l0.eq_1]
  simp [go_sem, hv.ix0, k96 hx, e1]
  rw [wp_round c94_l0.eq_1]
  simp [go_sem, hv.ix0, k96 hx, e1]

theorem k87 {v : AV} {x : Nat} (hv : isL v [x]) (hx : x < 100) : WpCall E pure base bar 87 [v, .fn 96 [] []] H Q ↔ Q (.bool false) H := by
  rw [call87]
  simp [go_sem, WpFun, c87, hv.frz, k94 hv hx]

theorem k92 {v : AV} {x : Nat} (hv : isL v [x]) (hx : x < 100) : WpCall E pure base bar 92 [v, .int .i64 1] H Q ↔ Q (.int .i64 0) H := by
  rw [call92]
  simp [go_sem, WpFun, c92, hv.frz, hv.len, k87 hv hx]
end Go.Proofs.Ytngoldipfgfecaa.Code
end

section
namespace Go.Proofs.Ytngoldipfgfecaa.Code
open Go Go.Ab
variable {pure : Bool} {base bar : Nat} {H : Heap} {Q : AV → Heap → Prop}

/-- worths of a single lot -/
def one (s : List Nat) : List (List Nat) := s.map fun x => [x]
theorem one_len {s : List Nat} : (one s).length = s.length := by simp [one]

theorem isLL_at {v : AV} {G : List (List Nat)} (h : isLL v G) {i : Nat} (hi : i < G.length) : ∃ x, isL x G[i] ∧ (∀ {H : Heap} {k : IntKind} {K : AV → Heap → List Nat → Prop}, ixaSWp 1 (some v) (some (.int k (i : Int))) H K = K (.fp x) H []) ∧ ∀ {H : Heap} {s : Nat}, aload H ⟨false, s⟩ (.fp x) = some x := by
  rcases h with ⟨rfl, rfl⟩ | ⟨ex, vs, rfl, h⟩
  · simp at hi
  · have hl := h.length
    have hiv : i < vs.length := by omega
    have hx : ∀ {vs : List AV} {ls : List (List Nat)} (_ : allL vs ls) (i : Nat) (h1 : i < vs.length) (h2 : i < ls.length), isL vs[i] ls[i] := by
      intro vs
      induction vs with
      | nil => intro ls _ i h1; simp at h1
      | cons v r ih =>
        intro ls h i h1 h2
        cases ls with
        | nil => simp at h2
        | cons l t =>
          cases i with
          | zero => exact h.1
          | succ i => exact ih h.2 i (by simpa using h1) (by simpa using h2)
    have hx' := hx h i hiv hi
    refine ⟨vs[i], hx', fun {H k K} => ?_, fun {H s} => ?_⟩
    · simp [go_sem, List.getElem?_eq_getElem hiv]
    · rcases hx' with ⟨e, _⟩ | ⟨ex, e⟩ <;> rw [e] <;> rfl
theorem one_at {v : AV} {s : List Nat} (h : isLL v (one s)) {i : Nat} (hi : i < s.length) : ∃ x, isL x [s[i]] ∧ (∀ {H : Heap} {k : IntKind} {K : AV → Heap → List Nat → Prop}, ixaSWp 1 (some v) (some (.int k (i : Int))) H K = K (.fp x) H []) ∧ ∀ {H : Heap} {s : Nat}, aload H ⟨false, s⟩ (.fp x) = some x := by
  obtain ⟨x, h1, h2, h3⟩ := isLL_at h (i := i) (by rw [one_len]; exact hi)
  refine ⟨x, ?_, h2, h3⟩
  simpa [one] using h1

/-- a sale of a single lot -/
structure Sl (s : List Nat) : Prop where
  pos : 1 ≤ s.length
  le : s.length ≤ 5
  lt : ∀ x ∈ s, x < 20
theorem Sl.at {s : List Nat} (h : Sl s) {i : Nat} (hi : i < s.length) : s[i] < 20 := h.lt _ (List.getElem_mem hi)

theorem l75 {v x0 : AV} {s : List Nat} (hv : isLL v (one s)) (hs : Sl s) (h0 : isL x0 [s[0]'hs.pos])
    (e0 : ∀ {H : Heap} {k : IntKind} {K : AV → Heap → List Nat → Prop}, ixaSWp 1 (some v) (some (.int k (0 : Int))) H K = K (.fp x0) H []) (e1 : ∀ {H : Heap} {s : Nat}, aload H ⟨false, s⟩ (.fp x0) = some x0) {R : PQ} :
    ∀ (k i : Nat), i + k = s.length → R (.exit 1) [(0, v), (21, v), (22, .int .i64 (s.length : Nat)), (23, .int .i64 (s.length : Nat)), (24, .bool false)] H →
    Wp E base bar (.loop c75_l0) [(0, v), (21, v), (22, .int .i64 (s.length : Nat)), (23, .int .i64 (i : Nat))] H R := by
  intro k
  induction k with
  | zero =>
    intro i hi h
    obtain rfl : i = s.length := by omega
    rw [wp_round c75_l0.eq_1]
    simp [go_sem]
    exact h
  | succ k ih =>
    intro i hi h
    have hlt : i < s.length := by omega
    have hle := hs.le
    obtain ⟨x, g1, g2, g3⟩ := one_at hv hlt
    have hx := hs.at hlt
    rw [wp_round c75_l0.eq_1]
    simp [go_sem, hlt, g2, g3, e0, e1, h0.len, k92 g1 (show s[i] < 100 by omega), i64_suc (show i < 1000000 by omega)]
    exact ih (i + 1) (by omega) h

theorem k75 {v : AV} {s : List Nat} (hv : isLL v (one s)) (hs : Sl s) (h : Q (.int .i64 0) H) : WpCall E pure base bar 75 [v] H Q := by
  rw [call75]
  have hl := fun (K : AV → Heap → List Nat → Prop) => hv.len (H := H) (K := K)
  rw [one_len] at hl
  obtain ⟨x0, a1, a2, a3⟩ := one_at hv hs.pos
  have h5 := hs.le
  have hp := hs.pos
  have hne : ¬ (s.length : Int) = 0 := by omega
  have hle : ¬ (5 : Int) < (s.length : Int) := by omega
  have hne' : s ≠ [] := fun e => by rw [e] at hp; simp at hp
  simp [go_sem, WpFun, c75, hv.frz, hl, hne', hle, a3, a1.len]
  have a2' : ∀ {H : Heap} {k : IntKind} {K : AV → Heap → List Nat → Prop}, ixaSWp 1 (some v) (some (.int k (0 : Int))) H K = K (.fp x0) H [] := a2
  simp [go_sem, a2', a3, a1.len, hl]
  refine l75 hv hs a1 a2' a3 s.length 0 (by omega) ?_
  simp [go_sem]
  exact h
end Go.Proofs.Ytngoldipfgfecaa.Code
end

section
namespace Go.Proofs.Ytngoldipfgfecaa.Code
open Go Go.Ab
variable {pure : Bool} {base bar : Nat} {H : Heap} {Q : AV → Heap → Prop}

theorem LL_isTup {v : AV} {ls : List (List Nat)} (h : isLL v ls) : v.isTup = false := by
  rcases h with ⟨rfl, _⟩ | ⟨_, _, rfl, _⟩ <;> rfl
theorem LL_cells {v : AV} {ls : List (List Nat)} (h : isLL v ls) : v.cells = [v] := by
  rcases h with ⟨rfl, _⟩ | ⟨_, _, rfl, _⟩ <;> rfl
theorem cells_int {k : IntKind} {n : Int} : (AV.int k n).cells = [.int k n] := rfl
theorem cells_mp {k : Nat} : (AV.mp k).cells = [.mp k] := rfl
theorem isTup_mp {k : Nat} : (AV.mp k).isTup = false := rfl

/-- the hall of a sale of a single lot: its row, and its map -/
structure Hall (H : Heap) (p m : Nat) (v : AV) (s : List Nat) (es : List (AV × AV)) : Prop where
  row : H[p]? = some (.row 0 [v, .int .i64 1, .mp m] 0 true)
  map : H[m]? = some (.map es)
  val : isLL v (one s)
  ne : m ≠ p

theorem k44 {v : AV} {s : List Nat} (hv : isLL v (one s)) (hs : Sl s) (h : Q (.tup [.ptr (H.length + 1) 0 0, .int .i64 0]) (H ++ [.map []] ++ [.row 0 [v, .int .i64 1, .mp H.length] 0 true])) : WpCall E pure base bar 44 [v] H Q := by
  rw [call44]
  obtain ⟨x0, a1, a2, a3⟩ := one_at hv hs.pos
  have a2' : ∀ {H : Heap} {k : IntKind} {K : AV → Heap → List Nat → Prop}, ixaSWp 1 (some v) (some (.int k (0 : Int))) H K = K (.fp x0) H [] := a2
  simp [go_sem, WpFun, c44, hv.frz]
  refine k75 hv hs ?_
  simp [go_sem, a2', a3, a1.len, aop, fillA, setCells, LL_isTup hv, LL_cells hv, cells_int, cells_mp, isTup_mp]
  simpa using h

theorem Hall.made {v : AV} {s : List Nat} (hv : isLL v (one s)) : Hall (H ++ [.map []] ++ [.row 0 [v, .int .i64 1, .mp H.length] 0 true]) (H.length + 1) H.length v s [] :=
  ⟨by simp, by simp, hv, by omega⟩
section
variable {p m : Nat} {v : AV} {s : List Nat} {es : List (AV × AV)}
theorem Hall.vv (h : Hall H p m v s es) {k : Nat} : aload H ⟨false, k⟩ (.ptr p 0 0) = some v := by rw [aload_ptr h.row]; rfl
theorem Hall.one (h : Hall H p m v s es) {k : Nat} : aload H ⟨false, k⟩ (.ptr p 0 1) = some (.int .i64 1) := by rw [aload_ptr h.row]; rfl
theorem Hall.mp (h : Hall H p m v s es) {k : Nat} : aload H ⟨false, k⟩ (.ptr p 0 2) = some (.mp m) := by rw [aload_ptr h.row]; rfl
theorem Hall.pl (h : Hall H p m v s es) : p < H.length := (List.getElem?_eq_some_iff.1 h.row).1
theorem Hall.ml (h : Hall H p m v s es) : m < H.length := (List.getElem?_eq_some_iff.1 h.map).1
theorem Hall.app (h : Hall H p m v s es) (G : Heap) : Hall (H ++ G) p m v s es :=
  ⟨by rw [List.getElem?_append_left h.pl]; exact h.row, by rw [List.getElem?_append_left h.ml]; exact h.map, h.val, h.ne⟩
theorem Hall.put (h : Hall H p m v s es) (es' : List (AV × AV)) : Hall (H.set m (.map es')) p m v s es' :=
  ⟨by rw [List.getElem?_set_ne h.ne]; exact h.row, by rw [List.getElem?_set_self h.ml], h.val, h.ne⟩

theorem k76 (h : Hall H p m v s es) : WpCall E pure base bar 76 [.ptr p 0 0] H Q ↔ Q (.int .u8 1) H := by
  rw [call76]
  have e1 : abin .shl (.int .u8 1) (.int .i64 1) = some (.int .u8 2) := rfl
  have e2 : IntKind.u8.wrap 1 = 1 := by decide
  simp [go_sem, WpFun, c76, h.one, e1, e2]
theorem k77n {l : Int} : WpCall E pure base bar 77 [.int .u8 l, .int .i64 (-1)] H Q ↔ Q (.tup [.int .u8 l, .bool true]) H := by
  rw [call77]
  simp [go_sem, WpFun, c77]
theorem k77_0 : WpCall E pure base bar 77 [.int .u8 0, .int .i64 0] H Q ↔ Q (.tup [.int .u8 0, .bool false]) H := by
  rw [call77]
  have e1 : abin .shl (.int .u8 1) (.int .i64 0) = some (.int .u8 1) := rfl
  have e2 : abin .andNot (.int .u8 0) (.int .u8 1) = some (.int .u8 0) := rfl
  have e3 : abin .shr (.int .u8 0) (.int .i64 0) = some (.int .u8 0) := rfl
  have e4 : abin .and (.int .u8 0) (.int .u8 1) = some (.int .u8 0) := rfl
  simp [go_sem, WpFun, c77, e1, e2, e3, e4]
theorem k77_1 : WpCall E pure base bar 77 [.int .u8 1, .int .i64 0] H Q ↔ Q (.tup [.int .u8 0, .bool true]) H := by
  rw [call77]
  have e1 : abin .shl (.int .u8 1) (.int .i64 0) = some (.int .u8 1) := rfl
  have e2 : abin .andNot (.int .u8 1) (.int .u8 1) = some (.int .u8 0) := rfl
  have e3 : abin .shr (.int .u8 1) (.int .i64 0) = some (.int .u8 1) := rfl
  have e4 : abin .and (.int .u8 1) (.int .u8 1) = some (.int .u8 1) := rfl
  simp [go_sem, WpFun, c77, e1, e2, e3, e4]
theorem k79n (h : Hall H p m v s es) {b : Int} : WpCall E pure base bar 79 [.ptr p 0 0, .int .i64 b, .int .i64 (-1)] H Q ↔ Q (.int .i64 0) H := by
  rw [call79]
  simp [go_sem, WpFun, c79]
theorem k79 (h : Hall H p m v s es) {b : Nat} (hb : b < s.length) : WpCall E pure base bar 79 [.ptr p 0 0, .int .i64 (b : Int), .int .i64 0] H Q ↔ Q (.int .i64 ((s[b] : Nat) : Int)) H := by
  rw [call79]
  obtain ⟨x, a1, a2, a3⟩ := one_at h.val hb
  simp [go_sem, WpFun, c79, h.vv, a2, a3, a1.ix0]
end
end Go.Proofs.Ytngoldipfgfecaa.Code
end

section
namespace Go.Proofs.Ytngoldipfgfecaa.Code
open Go Go.Ab
variable {pure : Bool} {base bar : Nat} {H : Heap} {Q : AV → Heap → Prop}

/-- the greatest worth of the last d bidders, if one of them does not bid -/
def mxD (s : List Nat) (but : Int) (left : Nat) : Nat → Nat
  | 0 => 0
  | d + 1 => if left = 0 then 0 else if ((s.length - (d + 1) : Nat) : Int) = but then mxD s but left d else max (mxD s but left d) (s.getD (s.length - (d + 1)) 0)
theorem mxD_zero {s : List Nat} {but : Int} : ∀ d, mxD s but 0 d = 0
  | 0 => rfl
  | d + 1 => by simp [mxD]
theorem mxD_lt {s : List Nat} (hs : Sl s) {but : Int} {left : Nat} : ∀ d, mxD s but left d < 20
  | 0 => by simp [mxD]
  | d + 1 => by
    have := mxD_lt hs (but := but) (left := left) d
    have h2 : s.getD (s.length - (d + 1)) 0 < 20 := by
      rw [List.getD_eq_getElem?_getD]
      rcases Nat.lt_or_ge (s.length - (d + 1)) s.length with h | h
      · rw [List.getElem?_eq_getElem h]; exact hs.at h
      · rw [List.getElem?_eq_none h]; simp
    rw [mxD]
    split
    · omega
    · split
      · exact this
      · omega

def keyC (f : Nat) (but : Int) (left : Nat) : List AV := [.int .i64 (f : Nat), .int .i64 but, .int .u8 (left : Nat)]
def ansV (w : Nat) (t : Int) : AV := .agg [.int .i64 (w : Nat), .int .i64 t]
/-- what is known is true -/
def Memo (s : List Nat) (es : List (AV × AV)) : Prop :=
  ∀ p ∈ es, ∃ (f : Nat) (but : Int) (left : Nat) (t : Int), p.1 = .agg (keyC f but left) ∧ p.2 = ansV (mxD s but left (s.length - f)) t
theorem Memo.nil {s : List Nat} : Memo s [] := fun p hp => by cases hp
theorem Memo.find {s : List Nat} {f : Nat} {but : Int} {left : Nat} : ∀ {es : List (AV × AV)} (h : Memo s es) (i : Nat),
    mfindA [false, false, false] (keyC f but left) es i = some none ∨ ∃ j t, mfindA [false, false, false] (keyC f but left) es i = some (some (j, ansV (mxD s but left (s.length - f)) t))
  | [], _, i => .inl rfl
  | (a, b) :: es, h, i => by
    obtain ⟨f', but', left', t, h1, h2⟩ := h _ (List.mem_cons_self ..)
    simp only at h1 h2
    subst h1 h2
    have hr : Memo s es := fun p hp => h p (List.mem_cons_of_mem _ hp)
    by_cases h0 : f = f' ∧ but = but' ∧ left = left'
    · obtain ⟨rfl, rfl, rfl⟩ := h0
      exact .inr ⟨i, t, by simp [mfindA, keyC, eqCells, eqCell]⟩
    · have : eqCells [false, false, false] (keyC f but left) (keyC f' but' left') = some false := by
        simp only [keyC, eqCells, eqCell, if_true]
        by_cases h1 : f = f'
        · subst h1
          by_cases h2 : but = but'
          · subst h2
            have h3 : ¬ left = left' := fun e => h0 ⟨rfl, rfl, e⟩
            have h4 : ((left : Int) == (left' : Int)) = false := by simpa using fun e => h3 (by omega)
            simp [h4]
          · have h4 : (but == but') = false := by simpa using h2
            simp [h4]
        · have h4 : ((f : Int) == (f' : Int)) = false := by simpa using fun e => h1 (by omega)
          simp [h4]
      rw [mfindA, this]
      exact Memo.find hr (i + 1)
theorem Memo.put {s : List Nat} {es : List (AV × AV)} (h : Memo s es) {f : Nat} {but : Int} {left : Nat} {t : Int} : Memo s (es ++ [(.agg (keyC f but left), ansV (mxD s but left (s.length - f)) t)]) := fun p hp => by
  rcases List.mem_append.1 hp with hp | hp
  · exact h p hp
  · rw [List.mem_singleton] at hp; subst hp
    exact ⟨f, but, left, t, rfl, rfl⟩
theorem Memo.set {s : List Nat} {es : List (AV × AV)} (h : Memo s es) {f : Nat} {but : Int} {left : Nat} {t : Int} {i : Nat} : Memo s (es.set i (.agg (keyC f but left), ansV (mxD s but left (s.length - f)) t)) := fun p hp => by
  rcases List.mem_or_eq_of_mem_set hp with hp | rfl
  · exact h p hp
  · exact ⟨f, but, left, t, rfl, rfl⟩
theorem key_self {f : Nat} {but : Int} {left : Nat} : eqCells [false, false, false] (keyC f but left) (keyC f but left) = some true := by simp [keyC, eqCells, eqCell]

/-- what is assumed of the next bidder -/
def Next (s : List Nat) (p m : Nat) (v : AV) (but : Int) (f d : Nat) : Prop :=
  ∀ (left : Nat), left ≤ 1 → ∀ {base bar : Nat} {H : Heap} {es : List (AV × AV)} {Q : AV → Heap → Prop}, Hall H p m v s es → Memo s es → bar ≤ m →
    (∀ t es', Memo s es' → Q (ansV (mxD s but left d) t) (H.set m (.map es'))) → WpCall E false base bar 78 [.ptr p 0 0, .agg (keyC f but left)] H Q

def gBlk (f : Nat) (but : Int) (left : Nat) (b : List AV) : Heap := [.row 0 (keyC f but left) 0 true, .row 0 [.int .i64 0, .int .i64 0] 0 true, .row 0 [.int .i64 0, .int .i64 0] 0 true, .row 0 b 0 true]

theorem r78a {p m : Nat} {v : AV} {s : List Nat} {es : List (AV × AV)} (hs : Sl s) {but : Int} {left f d : Nat} (hl1 : left ≤ 1) (hf : f + (d + 1) = s.length) (ih : Next s p m v but (f + 1) d) (h : Hall H p m v s es) (hm : Memo s es) (hb : bar ≤ m) {R : PQ}
    (k : ∀ t es' H', Hall H' p m v s es' → Memo s es' → H' = H.set m (.map es') → Wp E base bar (.loop c78_l0) [(0, .ptr p 0 0), (3, .ptr H'.length 0 0), (4, .ptr (H'.length + 1) 0 0), (7, .ptr (H'.length + 3) 0 0), (8, .int .i64 0)]
      (H' ++ gBlk f but left [.int .i64 (mxD s but left d : Nat), .int .i64 t]) R) :
    Wp E base bar (.loop c78_l0) [(0, .ptr p 0 0), (3, .ptr H.length 0 0), (4, .ptr (H.length + 1) 0 0), (7, .ptr (H.length + 3) 0 0), (8, .int .i64 (-1))] (H ++ gBlk f but left [.int .i64 (-1), .int .i64 0]) R := by
  have hml := h.ml
  have h5 := hs.le
  have a1 : ∀ G, (H ++ G)[p]? = some (.row 0 [v, .int .i64 1, .mp m] 0 true) := fun G => (h.app G).row
  have e1 : IntKind.i64.wrap ((f : Int) + 1) = ((f + 1 : Nat) : Int) := i64_suc (by omega)
  have e2 : IntKind.i64.wrap 0 = 0 := by decide
  rw [wp_round c78_l0.eq_1]
  simp [go_sem, gBlk, a1, aload, storeWp, astore, keyC, AV.isTup, AV.cells, k77n, aop, e1]
  rw [show ((f : Int) + 1) = ((f + 1 : Nat) : Int) by omega]
  refine ih left hl1 (h.app _) hm hb fun t es' hm' => ?_
  rw [List.set_append_left _ _ hml]
  have h' := h.put es'
  have hlen : (H.set m (.map es')).length = H.length := by simp
  have kk := k t es' _ h' hm' rfl
  generalize H.set m (.map es') = H' at *
  have a1 : ∀ G, (H' ++ G)[p]? = some (.row 0 [v, .int .i64 1, .mp m] 0 true) := fun G => (h'.app G).row
  rw [← hlen]
  have hml' := h'.ml
  have c1 : bar ≤ H'.length + 4 := by omega
  have c2 : bar ≤ H'.length + 3 := by omega
  have hW := mxD_lt hs (but := but) (left := left) d
  have e3 : IntKind.i64.wrap ((mxD s but left d : Nat) : Int) = ((mxD s but left d : Nat) : Int) := i64_nat (by omega)
  have c3 : (-1 : Int) < ((mxD s but left d : Nat) : Int) := by omega
  generalize mxD s but left d = W at *
  simp [go_sem, a1, aload, storeWp, astore, ansV, AV.isTup, AV.cells, aop, c1, c2, k79n (h'.app _), e3, c3, e2]
  refine ⟨by have := h'.pl; omega, ?_⟩
  simpa [gBlk, keyC] using kk

theorem r78b {p m : Nat} {v : AV} {s : List Nat} {es : List (AV × AV)} (hs : Sl s) {but : Int} {left f d : Nat} (hl1 : left ≤ 1) (hf : f + (d + 1) = s.length) (ih : Next s p m v but (f + 1) d) (h : Hall H p m v s es) (hm : Memo s es) (hb : bar ≤ m) {t : Int} {R : PQ}
    (k : ∀ t es' H', Hall H' p m v s es' → Memo s es' → (∃ es'', H' = H.set m (.map es'')) → Wp E base bar (.loop c78_l0) [(0, .ptr p 0 0), (3, .ptr H'.length 0 0), (4, .ptr (H'.length + 1) 0 0), (7, .ptr (H'.length + 3) 0 0), (8, .int .i64 1)]
      (H' ++ gBlk f but left [.int .i64 (mxD s but left (d + 1) : Nat), .int .i64 t]) R) :
    Wp E base bar (.loop c78_l0) [(0, .ptr p 0 0), (3, .ptr H.length 0 0), (4, .ptr (H.length + 1) 0 0), (7, .ptr (H.length + 3) 0 0), (8, .int .i64 0)] (H ++ gBlk f but left [.int .i64 (mxD s but left d : Nat), .int .i64 t]) R := by
  have hml := h.ml
  have hpl := h.pl
  have h5 := hs.le
  have a1 : ∀ G, (H ++ G)[p]? = some (.row 0 [v, .int .i64 1, .mp m] 0 true) := fun G => (h.app G).row
  have e1 : IntKind.i64.wrap ((f : Int) + 1) = ((f + 1 : Nat) : Int) := i64_suc (by omega)
  have e2 : IntKind.i64.wrap 1 = 1 := by decide
  have hself : H.set m (.map es) = H := by
    obtain ⟨hlt, he⟩ := List.getElem?_eq_some_iff.1 h.map
    rw [← he]; exact List.set_getElem_self hlt
  have hsl : s.length - (d + 1) = f := by omega
  have hc0 : max p (H.length + 3) ≤ H.length + 3 := by omega
  have stay : mxD s but left (d + 1) = mxD s but left d → Wp E base bar (.loop c78_l0) [(0, .ptr p 0 0), (3, .ptr H.length 0 0), (4, .ptr (H.length + 1) 0 0), (7, .ptr (H.length + 3) 0 0), (8, .int .i64 1)]
      (H ++ gBlk f but left [.int .i64 (mxD s but left d : Nat), .int .i64 t]) R := fun e => by
    have := k t es H h hm ⟨es, hself.symm⟩
    rwa [e] at this
  rw [wp_round c78_l0.eq_1]
  rcases (show left = 0 ∨ left = 1 by omega) with rfl | rfl
  · have st := stay (by rw [mxD_zero, mxD_zero])
    simp [go_sem, gBlk, a1, aload, keyC, AV.isTup, AV.cells, k77_0, e2, hc0]
    simpa [gBlk, keyC] using st
  · by_cases hbf : (f : Int) = but
    · have st := stay (by rw [mxD, if_neg (by omega), hsl, if_pos hbf])
      subst hbf
      simp [go_sem, gBlk, a1, aload, keyC, AV.isTup, AV.cells, k77_1, e2, hc0]
      simpa [gBlk, keyC] using st
    · have hmx : mxD s but 1 (d + 1) = max (mxD s but 1 d) (s.getD f 0) := by rw [mxD, if_neg (by omega), hsl, if_neg hbf]
      have hfl : f < s.length := by omega
      have hsf : s.getD f 0 = s[f] := by simp [List.getD_eq_getElem?_getD, List.getElem?_eq_getElem hfl]
      rw [hsf] at hmx
      have hlt := hs.at hfl
      simp [go_sem, gBlk, a1, aload, keyC, AV.isTup, AV.cells, k77_1, e1, hbf]
      rw [show ((f : Int) + 1) = ((f + 1 : Nat) : Int) by omega]
      refine ih 0 (by omega) (h.app _) hm hb fun t1 es' hm' => ?_
      rw [List.set_append_left _ _ hml, mxD_zero]
      have h' := h.put es'
      have hlen : (H.set m (.map es')).length = H.length := by simp
      have kk := fun t => k t es' _ h' hm' ⟨es', rfl⟩
      generalize H.set m (.map es') = H' at *
      rw [← hlen]
      have hml' := h'.ml
      have hpl' := h'.pl
      have hc0' : max p (H'.length + 3) ≤ H'.length + 3 := by omega
      have c1 : bar ≤ H'.length + 4 := by omega
      have c2 : bar ≤ H'.length + 3 := by omega
      have hW := mxD_lt hs (but := but) (left := 1) d
      have e3 : IntKind.i64.wrap ((s[f] : Nat) : Int) = ((s[f] : Nat) : Int) := i64_nat (by omega)
      rw [hmx] at kk
      generalize mxD s but 1 d = W at *
      have z0 : ∀ x : Int, 0 + x = x := fun x => by omega
      simp [go_sem, aload, storeWp, astore, ansV, AV.isTup, AV.cells, aop, c1, c2]
      rw [k79 (h'.app _) hfl]
      generalize s[f] = x at *
      rcases Nat.lt_trichotomy W x with hc | hc | hc
      · rw [Nat.max_eq_right (by omega)] at kk
        have c3 : (W : Int) < (x : Int) := by omega
        simp [go_sem, aload, storeWp, astore, ansV, AV.isTup, AV.cells, aop, c1, c2, e3, c3, e2, hc0']
        simpa [gBlk, keyC] using kk t1
      · subst hc
        rw [Nat.max_self] at kk
        simp [go_sem, aload, storeWp, astore, ansV, AV.isTup, AV.cells, aop, c1, c2, e3, e2, hc0']
        simpa [gBlk, keyC] using kk _
      · rw [Nat.max_eq_left (by omega)] at kk
        have c3 : ¬ (W : Int) < (x : Int) := by omega
        have c4 : ¬ (x : Int) = (W : Int) := by omega
        simp [go_sem, aload, storeWp, astore, ansV, AV.isTup, AV.cells, aop, c1, c2, e3, c3, c4, e2, hc0']
        simpa [gBlk, keyC] using kk t

theorem k78 {p m : Nat} {v : AV} {s : List Nat} (hs : Sl s) (but : Int) : ∀ (d f : Nat), f + d = s.length → Next s p m v but f d := by
  intro d
  induction d with
  | zero =>
    intro f hf left hl1 base bar H es Q h hm hb k
    obtain rfl : f = s.length := by omega
    rw [call78]
    have hpl := h.pl
    have hml := h.ml
    have hl := fun (H : Heap) (K : AV → Heap → List Nat → Prop) => h.val.len (H := H) (K := K)
    simp only [one_len] at hl
    have a1 : ∀ G, (H ++ G)[p]? = some (.row 0 [v, .int .i64 1, .mp m] 0 true) := fun G => (h.app G).row
    have c1 : bar ≤ H.length + 1 := by omega
    have hself : H.set m (.map es) = H := by
      obtain ⟨hlt, he⟩ := List.getElem?_eq_some_iff.1 h.map
      rw [← he]; exact List.set_getElem_self hlt
    have kk := k 1 es hm
    rw [hself] at kk
    unfold keyC
    simp [go_sem, WpFun, c78, a1, hl, aload, storeWp, astore, AV.isTup, AV.cells, c1]
    simpa [ansV, mxD] using kk
  | succ d ih =>
    intro f hf left hl1 base bar H es Q h hm hb k
    have hnext := ih (f + 1) (by omega)
    rw [call78]
    have hpl := h.pl
    have hml := h.ml
    have hl := fun (H : Heap) (K : AV → Heap → List Nat → Prop) => h.val.len (H := H) (K := K)
    simp only [one_len] at hl
    have hne : ¬ (f : Int) = (s.length : Int) := by omega
    have e1 := key_self (f := f) (but := but) (left := left)
    have a1 : ∀ G, (H ++ G)[p]? = some (.row 0 [v, .int .i64 1, .mp m] 0 true) := fun G => (h.app G).row
    have a4 : ∀ G, (H ++ G)[m]? = some (.map es) := fun G => (h.app G).map
    have c1 : bar ≤ H.length + 1 := by omega
    have c2 : bar ≤ H.length + 2 := by omega
    have c3 : bar ≤ H.length + 3 := by omega
    have hself : H.set m (.map es) = H := by
      obtain ⟨hlt, he⟩ := List.getElem?_eq_some_iff.1 h.map
      rw [← he]; exact List.set_getElem_self hlt
    have hd : s.length - f = d + 1 := by omega
    rcases hm.find (f := f) (but := but) (left := left) 0 with h1 | ⟨j, t, h1⟩
    · unfold keyC at e1 h1 ⊢
      simp [go_sem, WpFun, c78, a1, hl, hne, aop, e1, a4, h1, aload, storeWp, astore, mres, AV.isTup, AV.cells, c1, c2, c3]
      refine r78a hs hl1 hf hnext h hm hb fun t es' H' h' hm' he' => ?_
      have hlen' : H'.length = H.length := by rw [he']; simp
      refine r78b hs hl1 hf hnext h' hm' hb fun t2 es2 H2 h2 hm2 he2 => ?_
      have hlen2 : H2.length = H.length := by
        obtain ⟨_, rfl⟩ := he2
        simp [hlen']
      have hs2 : ∀ b, H2.set m b = H.set m b := fun b => by
        obtain ⟨_, rfl⟩ := he2
        rw [he']; simp
      have a1 : ∀ G, (H2 ++ G)[p]? = some (.row 0 [v, .int .i64 1, .mp m] 0 true) := fun G => (h2.app G).row
      have a4 : ∀ G, (H2 ++ G)[m]? = some (.map es2) := fun G => (h2.app G).map
      have kk : ∀ es', Memo s es' → Q (ansV (mxD s but left (d + 1)) t2) (H2.set m (.map es')) := fun es' hm' => by rw [hs2]; exact k t2 es' hm'
      have hml2 := h2.ml
      have hput := Memo.put hm2 (f := f) (but := but) (left := left) (t := t2)
      have hset := fun i => Memo.set hm2 (f := f) (but := but) (left := left) (t := t2) (i := i)
      rw [hd] at hput hset
      have hfind := hm2.find (f := f) (but := but) (left := left) 0
      rw [← hlen2]
      have c0 : bar ≤ H2.length + 1 := by omega
      have e1' := key_self (f := f) (but := but) (left := left)
      generalize mxD s but left (d + 1) = W at *
      rw [wp_round c78_l0.eq_1]
      have hsetl : ∀ (G : Heap) b, List.set (H2 ++ G) m b = H2.set m b ++ G := fun G b => List.set_append_left _ _ hml2
      have og : ∀ b (G : Heap) k, (H2.set m b ++ G)[H2.length + k]? = G[k]? := fun b G k => by
        rw [show H2.length = (H2.set m b).length by simp, own_get]
      have os : ∀ b (G : Heap) k c, (H2.set m b ++ G).set (H2.length + k) c = H2.set m b ++ G.set k c := fun b G k c => by
        rw [show H2.length = (H2.set m b).length by simp, own_set]
      have ot : ∀ b (G : Heap), (H2.set m b ++ G).take H2.length = H2.set m b := fun b G => by
        rw [show H2.length = (H2.set m b).length by simp, List.take_left]
      have hmb : ¬ m < bar := by omega
      unfold keyC at e1' hfind hput hset
      rcases hfind with g1 | ⟨j, t3, g1⟩
      · have kk' := kk _ hput
        simp [go_sem, gBlk, a1, aload, storeWp, astore, AV.isTup, AV.cells, keyC, aop, a4, g1, e1', hmb, hsetl, og, os, ot, c0, AV.top, AV.top.tops]
        simpa [ansV] using kk'
      · have kk' := kk _ (hset j)
        simp [go_sem, gBlk, a1, aload, storeWp, astore, AV.isTup, AV.cells, keyC, aop, a4, g1, e1', hmb, hsetl, og, os, ot, c0, AV.top, AV.top.tops]
        simpa [ansV] using kk'
    · unfold keyC at e1 h1 ⊢
      rw [hd] at h1
      have kk := k t es hm
      rw [hself] at kk
      simp [go_sem, WpFun, c78, a1, hl, hne, aop, e1, a4, h1, aload, storeWp, astore, mres, AV.isTup, AV.cells, c1, c2, c3, ansV]
      simpa [ansV] using kk
end Go.Proofs.Ytngoldipfgfecaa.Code
end

section
namespace Go.Proofs.Ytngoldipfgfecaa.Code
open Go Go.Ab
variable {pure : Bool} {base bar : Nat} {H : Heap} {Q : AV → Heap → Prop}

def zs (l : List Int) : List AV := l.map fun x => .int .i64 x
theorem zs_plain {l : List Int} : ∀ c ∈ zs l, Plain c := fun c hc => by
  obtain ⟨x, _, rfl⟩ := List.mem_map.1 hc
  exact Plain.int
theorem zs_append {l r : List Int} : zs (l ++ r) = zs l ++ zs r := by simp [zs]
theorem zs_length {l : List Int} : (zs l).length = l.length := by simp [zs]
theorem zs_one {x : Int} : zs [x] = [.int .i64 x] := rfl
theorem zs_eq_nil {l : List Int} : zs l = [] ↔ l = [] := by simp [zs]
theorem tops_zs {l : List Int} : AV.top.tops (zs l) = 0 := tops_zero fun x hx => by
  obtain ⟨n, _, rfl⟩ := List.mem_map.1 hx
  rfl
theorem zs_get {l : List Int} {i : Nat} (hi : i < l.length) : (zs l)[i]? = some (.int .i64 l[i]) := by simp [zs, List.getElem?_eq_getElem hi]
theorem outL_zs {l : List Int} : outL 1 (zs l) = if l = [] then .nils else .lst 1 false (zs l) := by
  simp only [outL, zs_eq_nil]
  split
  · rfl
  · rw [show (zs l).length / 1 = (zs l).length by omega, chunks_one]
theorem Grow.int {bytes : Nat} {l : List Int} {H0 : Heap} {v : AV} {ex : Bool} {x : Int} {K : AV → Heap → List Nat → Prop} (g : Grow 1 (zs l) H0 v H) (hb : bar ≤ H0.length) (hbase : base ≤ H0.length)
    (hlen : (l.length + 1) * bytes ≤ 140737488355328)
    (h : ∀ v' H' tc, Grow 1 (zs (l ++ [x])) H0 v' H' → K v' H' tc) : appWp base bar 1 bytes (some v) (some (.lst 1 ex [.int .i64 x])) H K := by
  refine g.app (by omega) (Nat.one_dvd _) (fun c hc => ?_) (Nat.one_dvd _) hb hbase ?_ fun v' H' tc g' => h v' H' tc ?_
  · simp [AV.cells] at hc; subst hc; exact Plain.int
  · simpa [zs_length, AV.cells] using hlen
  · simpa [zs_append, zs_one, AV.cells] using g'
theorem Grow.outz {l : List Int} {H0 : Heap} {v : AV} {K : AV → Heap → Prop} (g : Grow 1 (zs l) H0 v H) (hb : bar ≤ H0.length) (hbase : base ≤ H0.length)
    (h : K (outL 1 (zs l)) (H0.take base)) : outWp (leave 0 base bar [v] H) K := by
  obtain ⟨H', h1, h2, h3, h4⟩ := g.frz (d := 5) (bar := bar) (by omega) (Nat.one_dvd _) zs_plain hb
  have e : leave 0 base bar [v] H = some (outL 1 (zs l), H0.take base) := by
    rw [leave_0]
    simp only [frzAll, frz.frzs, frzsW, h1, leave0_some, tupled_one]
    rw [if_pos]
    · rw [show H'.take base = (H'.take H0.length).take base by rw [List.take_take, Nat.min_eq_left hbase], h4]
    · rw [outL_zs]; split <;> simp [tops_cons, tops_nil, top_nils, top_lst, tops_zs]
  rw [e]; exact h

theorem Hall.grow {p m sz : Nat} {v u : AV} {s : List Nat} {es : List (AV × AV)} {cells : List AV} {H0 : Heap} (h : Hall H0 p m v s es) (g : Grow sz cells H0 u H) : Hall H p m v s es := ⟨g.get h.row, g.get h.map, h.val, h.ne⟩

/-- the greatest worth of the last d bidders -/
abbrev mxA (s : List Nat) (d : Nat) : Nat := mxD s (-1) 1 d
theorem mxA_succ {s : List Nat} {d f : Nat} (hf : f + (d + 1) = s.length) (hfl : f < s.length) : mxA s (d + 1) = max (mxA s d) s[f] := by
  unfold mxA
  rw [mxD, if_neg (by omega), if_neg (by omega), show s.length - (d + 1) = f by omega, List.getD_eq_getElem?_getD, List.getElem?_eq_getElem hfl]
  rfl

/-- a step of the best division -/
def lotOf (s : List Nat) (left d : Nat) : Int := if mxD s (-1) left d = mxD s (-1) left (d + 1) then -1 else 0
def leftOf (s : List Nat) (left d : Nat) : Nat := if mxD s (-1) left d = mxD s (-1) left (d + 1) then left else 0

theorem l45a {p m : Nat} {v u : AV} {s : List Nat} {es : List (AV × AV)} {H0 : Heap} {L : List Int} (hs : Sl s) {left f d : Nat} (hl1 : left ≤ 1) (hf : f + (d + 1) = s.length) (h : Hall H0 p m v s es) (hm : Memo s es) (hb : bar ≤ m) (hbase : base ≤ H0.length)
    (g : Grow 1 (zs L) H0 u H) (hL : L.length < 1000) {R : PQ}
    (k : ∀ es' u' H0' H', Hall H0' p m v s es' → Memo s es' → H0' = H0.set m (.map es') → Grow 1 (zs (L ++ [lotOf s left d])) H0' u' H' →
      R (.exit 2) [(0, .ptr p 0 0), (3, .int .u8 (leftOf s left d : Nat)), (4, u'), (15, .int .i64 (s.length : Nat)), (16, .int .i64 (f : Nat))] H') :
    Wp E base bar (.loop c45_l0) [(0, .ptr p 0 0), (3, .int .u8 (left : Nat)), (4, u), (15, .int .i64 (s.length : Nat)), (16, .int .i64 (f : Nat)), (5, .int .i64 (f : Nat)), (6, .int .i64 (-1))] H R := by
  have h5 := hs.le
  have e1 : IntKind.i64.wrap ((f : Int) + 1) = ((f + 1 : Nat) : Int) := i64_suc (by omega)
  have e2 : IntKind.i64.wrap 0 = 0 := by decide
  have hh := h.grow g
  have hml := h.ml
  rw [wp_round c45_l0.eq_1]
  simp [go_sem, hh.one, k77n, aop, fillA, setCells, AV.cells, AV.isTup, e1]
  rw [show ((f : Int) + 1) = ((f + 1 : Nat) : Int) by omega]
  refine k78 hs (-1) d (f + 1) (by omega) left hl1 hh hm hb fun t1 es1 hm1 => ?_
  have g1 := g.set (i := m) (b := .map es1) hml
  have h1 := h.put es1
  have hh1 := h1.grow g1
  have eq1 : H0.set m (.map es1) = H0.set m (.map es1) := rfl
  generalize hH1 : H.set m (.map es1) = H1 at *
  have hW1 := mxD_lt hs (but := -1) (left := left) d
  have hW2 := mxD_lt hs (but := -1) (left := left) (d + 1)
  have e3 : IntKind.i64.wrap ((mxD s (-1) left d : Nat) : Int) = ((mxD s (-1) left d : Nat) : Int) := i64_nat (by omega)
  simp [go_sem, ansV, part, k79n hh1, e3]
  refine k78 hs (-1) (d + 1) f hf left hl1 hh1 hm1 hb fun t2 es2 hm2 => ?_
  have hml1 := h1.ml
  have g2 := g1.set (i := m) (b := .map es2) hml1
  rw [List.set_set] at g2
  have h2 := h.put es2
  have hh2 := h2.grow g2
  generalize hH2 : H1.set m (.map es2) = H2 at *
  have kk := k es2
  unfold lotOf leftOf at kk
  by_cases hc : mxD s (-1) left d = mxD s (-1) left (d + 1)
  · rw [if_pos hc, if_pos hc] at kk
    rw [hc]
    simp [go_sem, ansV, part, aop, fillA, setCells, AV.cells, AV.isTup, chunks]
    refine Grow.int g2 (by simp; omega) (by simp; omega) (by omega) fun u' H' tc g' => ?_
    simp [go_sem]
    exact kk u' _ H' h2 hm2 rfl g'
  · rw [if_neg hc, if_neg hc] at kk
    have hl0 : left = 1 := by
      rcases (show left = 0 ∨ left = 1 by omega) with rfl | h0
      · rw [mxD_zero, mxD_zero] at hc; exact absurd rfl hc
      · exact h0
    subst hl0
    have hfl : f < s.length := by omega
    have hmx := mxA_succ hf hfl
    unfold mxA at hmx
    have hx := hs.at hfl
    have hWs : mxD s (-1) 1 (d + 1) = s[f] := by omega
    have hc' : ¬ ((mxD s (-1) 1 d : Nat) : Int) = ((mxD s (-1) 1 (d + 1) : Nat) : Int) := by omega
    simp [go_sem, ansV, part, hc', e2]
    rw [wp_round c45_l0.eq_1]
    simp [go_sem, hh2.one, k77_1, aop, fillA, setCells, AV.cells, AV.isTup, e1]
    rw [show ((f : Int) + 1) = ((f + 1 : Nat) : Int) by omega]
    refine k78 hs (-1) d (f + 1) (by omega) 0 (by omega) hh2 hm2 hb fun t3 es3 hm3 => ?_
    have hml2 := h2.ml
    have g3 := g2.set (i := m) (b := .map es3) hml2
    rw [List.set_set] at g3
    have h3 := h.put es3
    have hh3 := h3.grow g3
    generalize hH3 : H2.set m (.map es3) = H3 at *
    have e4 : IntKind.i64.wrap ((s[f] : Nat) : Int) = ((s[f] : Nat) : Int) := i64_nat (by omega)
    rw [mxD_zero]
    simp [go_sem, ansV, part, k79 hh3 hfl, e4]
    refine k78 hs (-1) (d + 1) f hf 1 (by omega) hh3 hm3 hb fun t4 es4 hm4 => ?_
    have hml3 := h3.ml
    have g4 := g3.set (i := m) (b := .map es4) hml3
    rw [List.set_set] at g4
    have h4 := h.put es4
    generalize hH4 : H3.set m (.map es4) = H4 at *
    have kk4 := k es4
    unfold lotOf leftOf at kk4
    rw [if_neg hc, if_neg hc] at kk4
    rw [hWs]
    simp [go_sem, ansV, part, aop, fillA, setCells, AV.cells, AV.isTup, chunks]
    refine Grow.int g4 (by simp; omega) (by simp; omega) (by omega) fun u' H' tc g' => ?_
    simp [go_sem]
    exact kk4 u' _ H' h4 hm4 rfl g'
end Go.Proofs.Ytngoldipfgfecaa.Code
end

section
namespace Go.Proofs.Ytngoldipfgfecaa.Code
open Go Go.Ab
variable {pure : Bool} {base bar : Nat} {H : Heap} {Q : AV → Heap → Prop}

/-- the best division of the last d bidders -/
def bestZ (s : List Nat) : Nat → Nat → List Int
  | 0, _ => []
  | d + 1, left => lotOf s left d :: bestZ s d (leftOf s left d)
theorem bestZ_len {s : List Nat} : ∀ {d left : Nat}, (bestZ s d left).length = d
  | 0, _ => rfl
  | d + 1, left => by rw [bestZ, List.length_cons, bestZ_len]
theorem leftOf_le {s : List Nat} {left d : Nat} (h : left ≤ 1) : leftOf s left d ≤ 1 := by unfold leftOf; split <;> omega

theorem l45 {p m : Nat} {v : AV} {s : List Nat} (hs : Sl s) (hb : bar ≤ m) {R : PQ} :
    ∀ (d f left : Nat), f + d = s.length → left ≤ 1 → ∀ (L : List Int) (u : AV) (H0 H : Heap) (es : List (AV × AV)), Hall H0 p m v s es → Memo s es → base ≤ H0.length → Grow 1 (zs L) H0 u H → L.length = f →
    (∀ es' u' H' t3 fr, Memo s es' → Grow 1 (zs (L ++ bestZ s d left)) (H0.set m (.map es')) u' H' → fr = [(0, AV.ptr p 0 0), (3, t3), (4, u'), (15, .int .i64 (s.length : Nat)), (16, .int .i64 (s.length : Nat)), (17, .bool false)] → R (.exit 0) fr H') →
    Wp E base bar (.loop c45_l1) [(0, .ptr p 0 0), (3, .int .u8 (left : Nat)), (4, u), (15, .int .i64 (s.length : Nat)), (16, .int .i64 (f : Nat))] H R := by
  intro d
  induction d with
  | zero =>
    intro f left hf hl1 L u H0 H es h hm hbase g hL k
    obtain rfl : f = s.length := by omega
    have hself : H0.set m (.map es) = H0 := by
      obtain ⟨hlt, he⟩ := List.getElem?_eq_some_iff.1 h.map
      rw [← he]; exact List.set_getElem_self hlt
    have kk := k es u H (.int .u8 (left : Nat)) _ hm (by rw [hself]; simpa [bestZ] using g) rfl
    rw [wp_round c45_l1.eq_1]
    simp [go_sem]
    exact kk
  | succ d ih =>
    intro f left hf hl1 L u H0 H es h hm hbase g hL k
    have h5 := hs.le
    have hlt : f < s.length := by omega
    rw [wp_round c45_l1.eq_1]
    simp [go_sem, hlt]
    refine l45a hs hl1 hf h hm hb hbase g (by omega) fun es' u' H0' H' h' hm' he g' => ?_
    simp [go_sem, i64_suc (show f < 1000000 by omega)]
    have hlen : H0'.length = H0.length := by rw [he]; simp
    refine ih (f + 1) (leftOf s left d) (by omega) (leftOf_le hl1) _ u' H0' H' es' h' hm' (by omega) g' (by simp [hL]) fun es2 u2 H2 t3 fr hm2 g2 hfr => ?_
    refine k es2 u2 H2 t3 fr hm2 ?_ hfr
    rw [he, List.set_set] at g2
    simpa [bestZ] using g2

theorem k45 {p m : Nat} {v : AV} {s : List Nat} {es : List (AV × AV)} (hs : Sl s) (h : Hall H p m v s es) (hm : Memo s es) (hb : bar ≤ m)
    (k : ∀ es', Memo s es' → Q (.lst 1 false (zs (bestZ s s.length 1))) (H.set m (.map es'))) : WpCall E false base bar 45 [.ptr p 0 0] H Q := by
  rw [call45]
  have hml := h.ml
  have hl := fun (H : Heap) (K : AV → Heap → List Nat → Prop) => h.val.len (H := H) (K := K)
  simp only [one_len] at hl
  have hne : bestZ s s.length 1 ≠ [] := fun e => by
    have := bestZ_len (s := s) (d := s.length) (left := 1)
    rw [e] at this
    have := hs.pos
    simp at *; omega
  simp [go_sem, WpFun, c45, k76 h, h.vv, hl]
  refine l45 hs hb s.length 0 1 (by omega) (by omega) [] .nils H H es h hm (Nat.le_refl _) Grow.nil rfl fun es' u' H' t3 fr hm' g' hfr => ?_
  subst hfr
  simp only [List.nil_append] at g'
  simp [go_sem]
  have hlen : (H.set m (.map es')).length = H.length := by simp
  refine Grow.outz g' (by omega) (by omega) ?_
  rw [outL_zs, if_neg hne]
  have e : (H.set m (.map es')).take H.length = H.set m (.map es') := List.take_of_length_le (by omega)
  rw [e]
  exact k es' hm'

/-- what a bidder pays -/
def payZ (s : List Nat) (b : Nat) (lot : Int) : Int := (mxD s (b : Int) 1 s.length : Int) - ((mxA s s.length : Int) - (if lot = 0 then (s.getD b 0 : Int) else 0))

theorem k47 {p m : Nat} {v : AV} {s : List Nat} {es : List (AV × AV)} (hs : Sl s) (h : Hall H p m v s es) (hm : Memo s es) (hb : bar ≤ m) {b : Nat} {lot : Int} (hbn : b < s.length) (hlot : lot = -1 ∨ lot = 0)
    (k : ∀ es', Memo s es' → Q (.int .i64 (payZ s b lot)) (H.set m (.map es'))) : WpCall E false base bar 47 [.ptr p 0 0, .int .i64 (b : Nat), .int .i64 lot] H Q := by
  rw [call47]
  have hml := h.ml
  have hpos := hs.pos
  have h5 := hs.le
  simp [go_sem, WpFun, c47, k76 h, aop, fillA, setCells, AV.cells, AV.isTup]
  refine k78 hs (-1) s.length 0 (by omega) 1 (by omega) h hm hb fun t1 es1 hm1 => ?_
  have h1 := h.put es1
  have hlen1 : (H.set m (.map es1)).length = H.length := by simp
  generalize hH1 : H.set m (.map es1) = H1 at *
  have hW1 := mxD_lt hs (but := -1) (left := 1) s.length
  have hW2 := mxD_lt hs (but := (b : Int)) (left := 1) s.length
  have hx := hs.at hbn
  have hxg : s.getD b 0 = s[b] := by simp [List.getD_eq_getElem?_getD, List.getElem?_eq_getElem hbn]
  unfold payZ mxA at k
  rw [hxg] at k
  rcases hlot with rfl | rfl
  · have e3 : IntKind.i64.wrap ((mxD s (-1) 1 s.length : Nat) : Int) = ((mxD s (-1) 1 s.length : Nat) : Int) := i64_nat (by omega)
    simp [go_sem, ansV, part, k79n h1, e3, k76 h1, aop, fillA, setCells, AV.cells, AV.isTup]
    refine k78 hs (b : Int) s.length 0 (by omega) 1 (by omega) h1 hm1 hb fun t2 es2 hm2 => ?_
    have kk := k es2 hm2
    have hset : H1.set m (.map es2) = H.set m (.map es2) := by rw [← hH1]; simp
    rw [if_neg (by omega)] at kk
    have e4 : IntKind.i64.wrap (((mxD s (b : Int) 1 s.length : Nat) : Int) - ((mxD s (-1) 1 s.length : Nat) : Int)) = ((mxD s (b : Int) 1 s.length : Nat) : Int) - ((mxD s (-1) 1 s.length : Nat) : Int) := by
      rw [Go.IntWalk.i64_in _ (by omega)]
    rw [hset]
    have e5 : (H.set m (.map es2)).take H.length = H.set m (.map es2) := List.take_of_length_le (by simp)
    simp [go_sem, ansV, part, e4, e5]
    simpa using kk
  · have e3 : IntKind.i64.wrap (((mxD s (-1) 1 s.length : Nat) : Int) - ((s[b] : Nat) : Int)) = ((mxD s (-1) 1 s.length : Nat) : Int) - ((s[b] : Nat) : Int) := by
      rw [Go.IntWalk.i64_in _ (by omega)]
    simp [go_sem, ansV, part, k79 h1 hbn, e3, k76 h1, aop, fillA, setCells, AV.cells, AV.isTup]
    refine k78 hs (b : Int) s.length 0 (by omega) 1 (by omega) h1 hm1 hb fun t2 es2 hm2 => ?_
    have kk := k es2 hm2
    have hset : H1.set m (.map es2) = H.set m (.map es2) := by rw [← hH1]; simp
    rw [if_pos rfl] at kk
    have e4 : IntKind.i64.wrap (((mxD s (b : Int) 1 s.length : Nat) : Int) - (((mxD s (-1) 1 s.length : Nat) : Int) - ((s[b] : Nat) : Int))) = ((mxD s (b : Int) 1 s.length : Nat) : Int) - (((mxD s (-1) 1 s.length : Nat) : Int) - ((s[b] : Nat) : Int)) := by
      rw [Go.IntWalk.i64_in _ (by omega)]
    rw [hset]
    have e5 : (H.set m (.map es2)).take H.length = H.set m (.map es2) := List.take_of_length_le (by simp)
    simp [go_sem, ansV, part, e4, e5]
    simpa using kk
end Go.Proofs.Ytngoldipfgfecaa.Code
end

section
namespace Go.Proofs.Ytngoldipfgfecaa.Code
open Go Go.Ab
variable {pure : Bool} {base bar : Nat} {H : Heap} {Q : AV → Heap → Prop}

theorem Grow.outz2 {l : List Int} {H0 : Heap} {v : AV} {e : Int} {K : AV → Heap → Prop} (g : Grow 1 (zs l) H0 v H) (hb : bar ≤ H0.length) (hbase : base ≤ H0.length)
    (h : K (.tup [outL 1 (zs l), .int .i64 e]) (H0.take base)) : outWp (leave 0 base bar [v, .int .i64 e] H) K := by
  obtain ⟨H', h1, h2, h3, h4⟩ := g.frz (d := 5) (bar := bar) (by omega) (Nat.one_dvd _) zs_plain hb
  have e : leave 0 base bar [v, .int .i64 e] H = some (.tup [outL 1 (zs l), .int .i64 e], H0.take base) := by
    rw [leave_0]
    simp only [frzAll, frz.frzs, frzsW, h1, frz_int, leave0_some]
    rw [if_pos]
    · rw [show H'.take base = (H'.take H0.length).take base by rw [List.take_take, Nat.min_eq_left hbase], h4]; rfl
    · rw [outL_zs]; split <;> simp [tops_cons, tops_nil, top_nils, top_lst, tops_zs, top_int]
  rw [e]; exact h

theorem bestZ_lot {s : List Nat} : ∀ {d left : Nat}, ∀ x ∈ bestZ s d left, x = -1 ∨ x = 0
  | 0, _, x, h => by cases h
  | d + 1, left, x, h => by
    rw [bestZ] at h
    rcases List.mem_cons.1 h with rfl | h
    · unfold lotOf; split <;> simp
    · exact bestZ_lot x h

def payL (s : List Nat) : List Int := (List.range s.length).map fun b => payZ s b ((bestZ s s.length 1).getD b 0)

theorem l46 {p m : Nat} {v : AV} {s : List Nat} (hs : Sl s) (hb : bar ≤ m) {R : PQ} :
    ∀ (d f : Nat), f + d = s.length → ∀ (u : AV) (H0 H : Heap) (es : List (AV × AV)), Hall H0 p m v s es → Memo s es → base ≤ H0.length → Grow 1 (zs ((payL s).take f)) H0 u H →
    (∀ es' u' H' fr, Grow 1 (zs (payL s)) (H0.set m (.map es')) u' H' → fr = [(1, AV.fn 47 [] []), (6, .ptr p 0 0), (8, u'), (20, .lst 1 false (zs (bestZ s s.length 1))), (21, .int .i64 (s.length : Nat)), (22, .int .i64 (s.length : Nat)), (23, .bool false)] → R (.exit 0) fr H') →
    Wp E base bar (.loop c46_l0) [(1, .fn 47 [] []), (6, .ptr p 0 0), (8, u), (20, .lst 1 false (zs (bestZ s s.length 1))), (21, .int .i64 (s.length : Nat)), (22, .int .i64 (f : Nat))] H R := by
  intro d
  have hpl : (payL s).length = s.length := by simp [payL]
  induction d with
  | zero =>
    intro f hf u H0 H es h hm hbase g k
    obtain rfl : f = s.length := by omega
    have hself : H0.set m (.map es) = H0 := by
      obtain ⟨hlt, he⟩ := List.getElem?_eq_some_iff.1 h.map
      rw [← he]; exact List.set_getElem_self hlt
    rw [List.take_of_length_le (by omega)] at g
    have kk := k es u H _ (by rw [hself]; exact g) rfl
    rw [wp_round c46_l0.eq_1]
    simp [go_sem]
    exact kk
  | succ d ih =>
    intro f hf u H0 H es h hm hbase g k
    have h5 := hs.le
    have hlt : f < s.length := by omega
    have hml := h.ml
    have hbl : f < (bestZ s s.length 1).length := by rw [bestZ_len]; omega
    have hlot := bestZ_lot _ (List.getElem_mem hbl)
    have hgd : (bestZ s s.length 1).getD f 0 = (bestZ s s.length 1)[f] := by simp [List.getD_eq_getElem?_getD, List.getElem?_eq_getElem hbl]
    have htk : (payL s).take (f + 1) = (payL s).take f ++ [payZ s f (bestZ s s.length 1)[f]] := by
      rw [List.take_add_one]
      congr 1
      simp [payL, List.getElem?_range hlt, List.getElem?_eq_getElem hbl]
    rw [wp_round c46_l0.eq_1]
    simp [go_sem, hlt, zs_get hbl]
    refine k47 hs (h.grow g) hm hb hlt hlot fun es' hm' => ?_
    have g1 := g.set (i := m) (b := .map es') hml
    have h1 := h.put es'
    simp [go_sem, aop, fillA, setCells, AV.cells, AV.isTup, chunks]
    refine Grow.int g1 (by simp; omega) (by simp; omega) (by rw [List.length_take]; omega) fun u' H' tc g' => ?_
    rw [← htk] at g'
    simp [go_sem, i64_suc (show f < 1000000 by omega)]
    refine ih (f + 1) (by omega) u' _ H' es' h1 hm' (by simp; omega) g' fun es2 u2 H2 fr g2 hfr => ?_
    rw [List.set_set] at g2
    exact k es2 u2 H2 fr g2 hfr

theorem made_top {v : AV} {s : List Nat} (_ : isLL v (one s)) {es : List (AV × AV)} {m : Nat} (hm : m = H.length) : (List.set (H ++ [Blk.map []] ++ [Blk.row 0 [v, .int .i64 1, .mp H.length] 0 true]) m (.map es)).take H.length = H := by
  subst hm
  simp

theorem k46 {v : AV} {s : List Nat} (hs : Sl s) (hv : isLL v (one s)) (hb : bar ≤ H.length) (k : Q (.tup [.lst 1 false (zs (payL s)), .int .i64 0]) H) : WpCall E false base bar 46 [v, .fn 47 [] []] H Q := by
  rw [call46]
  have hne : payL s ≠ [] := fun e => by
    have : (payL s).length = s.length := by simp [payL]
    rw [e] at this
    have := hs.pos
    simp at *; omega
  simp [go_sem, WpFun, c46, hv.frz]
  refine k44 hv hs ?_
  have h := Hall.made (H := H) hv
  have ht := fun es => made_top (H := H) (v := v) (s := s) hv (es := es) rfl
  have hlen : H.length ≤ (H ++ [.map []] ++ [.row 0 [v, .int .i64 1, .mp H.length] 0 true] : Heap).length := by simp
  generalize (H ++ [.map []] ++ [.row 0 [v, .int .i64 1, .mp H.length] 0 true] : Heap) = H1 at *
  simp [go_sem]
  refine k45 hs h Memo.nil (by omega) fun es1 hm1 => ?_
  have h1 := h.put es1
  have hz : (zs (bestZ s s.length 1)).length = s.length := by rw [zs_length, bestZ_len]
  simp [go_sem, hz]
  refine l46 hs (by omega) s.length 0 (by omega) .nils _ _ es1 h1 hm1 (by simp; omega) Grow.nil fun es' u' H' fr g' hfr => ?_
  subst hfr
  rw [List.set_set] at g'
  simp [go_sem]
  refine Grow.outz2 g' (by simp; omega) (by simp; omega) ?_
  rw [outL_zs, if_neg hne, ht]
  exact k

theorem k15 {v : AV} {s : List Nat} (hs : Sl s) (hv : isLL v (one s)) (hb : bar ≤ H.length) (k : Q (.tup [.lst 1 false (zs (bestZ s s.length 1)), .int .i64 0]) H) : WpCall E false base bar 15 [v] H Q := by
  rw [call15]
  simp [go_sem, WpFun, c15, hv.frz]
  refine k44 hv hs ?_
  have h := Hall.made (H := H) hv
  have ht := fun es => made_top (H := H) (v := v) (s := s) hv (es := es) rfl
  generalize (H ++ [.map []] ++ [.row 0 [v, .int .i64 1, .mp H.length] 0 true] : Heap) = H1 at *
  simp [go_sem]
  refine k45 hs h Memo.nil (by omega) fun es1 hm1 => ?_
  simp [go_sem, tops_zs, ht]
  exact k
theorem k16 {v : AV} {s : List Nat} (hs : Sl s) (hv : isLL v (one s)) (hb : bar ≤ H.length) (k : Q (.tup [.lst 1 false (zs (payL s)), .int .i64 0]) H) : WpCall E false base bar 16 [v] H Q := by
  rw [call16]
  simp [go_sem, WpFun, c16, hv.frz]
  refine k46 hs hv (by omega) ?_
  simp [go_sem, tops_zs]
  exact k
end Go.Proofs.Ytngoldipfgfecaa.Code
end

section
namespace Go.Proofs.Ytngoldipfgfecaa.Code
open Go Go.Ab
variable {pure : Bool} {base bar : Nat} {H : Heap} {Q : AV → Heap → Prop}

section
variable {io ip x y : Nat}
theorem k49q (h1 : H[io]? = some (.row 0 [.int .i64 0] 0 true)) (h2 : H[ip]? = some (.row 0 [.int .i64 (x : Nat)] 0 true)) (hy : y ≤ x) (hx : x < 1000) (k : Q (.bool false) H) : WpCall E false base bar 49 [.ptr io 0 0, .ptr ip 0 0, .int .i64 (y : Nat)] H Q := by
  rw [call49]
  have e1 : IntKind.i64.wrap (y : Int) = (y : Int) := i64_nat (by omega)
  simp [go_sem, WpFun, c49, aload, h1, h2, e1, hy]
  exact k
theorem k50q (h1 : H[io]? = some (.row 0 [.int .i64 0] 0 true)) (h2 : H[ip]? = some (.row 0 [.int .i64 (x : Nat)] 0 true)) (hy : y ≤ x) (hx : x < 1000) (k : Q (.bool false) H) : WpCall E false base bar 50 [.ptr io 0 0, .ptr ip 0 0, .int .i64 (y : Nat)] H Q := by
  rw [call50]
  have e1 : IntKind.i64.wrap (y : Int) = (y : Int) := i64_nat (by omega)
  simp [go_sem, WpFun, c50, aload, h1, h2, e1, hy]
  exact k
theorem k49s (h1 : H[io]? = some (.row 0 [.int .i64 0] 0 true)) (h2 : H[ip]? = some (.row 0 [.int .i64 (x : Nat)] 0 true)) (hy : ¬ y ≤ x) (hb : bar ≤ ip) (hy2 : y < 1000) (k : Q (.bool true) (H.set ip (.row 0 [.int .i64 (y : Nat)] 0 true))) : WpCall E false base bar 49 [.ptr io 0 0, .ptr ip 0 0, .int .i64 (y : Nat)] H Q := by
  rw [call49]
  have e1 : IntKind.i64.wrap (y : Int) = (y : Int) := i64_nat (by omega)
  have e5 : (H.set ip (.row 0 [.int .i64 (y : Nat)] 0 true)).take H.length = H.set ip (.row 0 [.int .i64 (y : Nat)] 0 true) := List.take_of_length_le (by simp)
  simp [go_sem, WpFun, c49, aload, h1, h2, e1, hy, storeWp, astore, AV.isTup, AV.cells, hb, e5]
  exact k

/-- what the settling of prices works on -/
structure Pr (H : Heap) (p m : Nat) (v : AV) (s : List Nat) (io ip x : Nat) : Prop where
  hall : ∃ es, Hall H p m v s es
  none : H[io]? = some (.row 0 [.int .i64 0] 0 true)
  price : H[ip]? = some (.row 0 [.int .i64 (x : Nat)] 0 true)
  lt : x < 1000
  ne : ip ≠ io ∧ ip ≠ p ∧ ip ≠ m

theorem Pr.put {p m : Nat} {v : AV} {s : List Nat} (h : Pr H p m v s io ip x) (hy : y < 1000) : Pr (H.set ip (.row 0 [.int .i64 (y : Nat)] 0 true)) p m v s io ip y := by
  obtain ⟨⟨es, hh⟩, h1, h2, h3, h4, h5, h6⟩ := h
  have hl := (List.getElem?_eq_some_iff.1 h2).1
  exact ⟨⟨es, by rw [List.getElem?_set_ne h5]; exact hh.row, by rw [List.getElem?_set_ne h6]; exact hh.map, hh.val, hh.ne⟩, by rw [List.getElem?_set_ne h4]; exact h1, by rw [List.getElem?_set_self hl], hy, h4, h5, h6⟩

def fr48 (p ip : Nat) (g : FuncId) (io : Nat) (B : List Int) (ag : Bool) (n b : Nat) (lot i : Int) : List (Nat × AV) :=
  [(0, .ptr p 0 0), (1, .vec ip 0 0 1 1), (2, .fn g [] []), (7, .ptr io 0 0), (8, .lst 1 false (zs B)), (9, .bool ag), (17, .lst 1 false (zs B)), (18, .int .i64 (n : Nat)), (19, .int .i64 (b : Nat)), (10, .int .i64 (b : Nat)), (11, .int .i64 lot),
    (12, if lot = 0 then .ptr ip 0 0 else .ptr io 0 0), (30, .int .i64 1), (31, .int .i64 i)]

/-- a bidder who gets the lot, or who would not pay more -/
theorem l48q {p m : Nat} {v : AV} {s : List Nat} {g : FuncId} (hg : g = 49 ∨ g = 50) {B : List Int} {ag : Bool} {b : Nat} {lot : Int} (hs : Sl s) (h : Pr H p m v s io ip x) (hbn : b < s.length) (hlot : lot = -1 ∨ lot = 0) (hq : lot = -1 → s.getD b 0 ≤ x) {R : PQ}
    (k : ∀ fr, fr = fr48 p ip g io B ag s.length b lot 1 ++ [(32, AV.bool false)] → R (.exit 4) fr H) :
    Wp E base bar (.loop c48_l0) (fr48 p ip g io B ag s.length b lot 0) H R := by
  obtain ⟨es, hh⟩ := h.hall
  obtain ⟨y0, a1, a2, a3⟩ := one_at hh.val hbn
  have a0 : s.getD b 0 = s[b] := by simp [List.getD_eq_getElem?_getD, List.getElem?_eq_getElem hbn]
  rw [a0] at hq
  have hx := hs.at hbn
  have e1 : IntKind.i64.wrap ((s[b] : Nat) : Int) = ((s[b] : Nat) : Int) := i64_nat (by omega)
  have e2 : IntKind.i64.wrap 1 = 1 := by decide
  rw [wp_round c48_l0.eq_1]
  rcases hlot with rfl | rfl
  · have hq := hq rfl
    have kk := k _ rfl
    unfold fr48 at kk ⊢
    have hgo : ∀ K : AV → Heap → Prop, K (.bool false) H → WpCall E false base bar g [.ptr io 0 0, .ptr ip 0 0, .int .i64 ((s[b] : Nat) : Int)] H K := fun K hK => by
      rcases hg with rfl | rfl
      · exact k49q h.none h.price hq h.lt hK
      · exact k50q h.none h.price hq h.lt hK
    simp [go_sem, hh.vv, a2, a3, a1.ix0, k79n hh, e1]
    refine hgo _ ?_
    simp [go_sem, e2]
    rw [wp_round c48_l0.eq_1]
    simp [go_sem]
    simpa using kk
  · have kk := k _ rfl
    unfold fr48 at kk ⊢
    simp [go_sem, e2]
    rw [wp_round c48_l0.eq_1]
    simp [go_sem]
    simpa using kk

/-- a bidder who would pay more -/
theorem l48s {p m : Nat} {v : AV} {s : List Nat} {B : List Int} {ag : Bool} {b : Nat} (hs : Sl s) (h : Pr H p m v s io ip x) (hbn : b < s.length) (hq : ¬ s.getD b 0 ≤ x) (hb : bar ≤ ip) {R : PQ}
    (k : ∀ fr, fr = fr48 p ip 49 io B true s.length b (-1) 1 ++ [(32, AV.bool false)] → R (.exit 4) fr (H.set ip (.row 0 [.int .i64 (s.getD b 0 : Nat)] 0 true))) :
    Wp E base bar (.loop c48_l0) (fr48 p ip 49 io B ag s.length b (-1) 0) H R := by
  obtain ⟨es, hh⟩ := h.hall
  obtain ⟨y0, a1, a2, a3⟩ := one_at hh.val hbn
  have a0 : s.getD b 0 = s[b] := by simp [List.getD_eq_getElem?_getD, List.getElem?_eq_getElem hbn]
  rw [a0] at hq k
  have hx := hs.at hbn
  have e1 : IntKind.i64.wrap ((s[b] : Nat) : Int) = ((s[b] : Nat) : Int) := i64_nat (by omega)
  have e2 : IntKind.i64.wrap 1 = 1 := by decide
  rw [wp_round c48_l0.eq_1]
  have kk := k _ rfl
  unfold fr48 at kk ⊢
  simp [go_sem, hh.vv, a2, a3, a1.ix0, k79n hh, e1]
  refine k49s h.none h.price hq hb (by omega) ?_
  simp [go_sem, e2]
  rw [wp_round c48_l0.eq_1]
  simp [go_sem]
  simpa using kk

def fr48b (p ip : Nat) (g : FuncId) (io : Nat) (B : List Int) (ag : Bool) (n b : Nat) : List (Nat × AV) :=
  [(0, .ptr p 0 0), (1, .vec ip 0 0 1 1), (2, .fn g [] []), (7, .ptr io 0 0), (8, .lst 1 false (zs B)), (9, .bool ag), (17, .lst 1 false (zs B)), (18, .int .i64 (n : Nat)), (19, .int .i64 (b : Nat))]

/-- nobody would pay more -/
theorem l48Q {p m : Nat} {v : AV} {s : List Nat} {g : FuncId} (hg : g = 49 ∨ g = 50) {B : List Int} {ag : Bool} (hs : Sl s) (h : Pr H p m v s io ip x) (hB : B.length = s.length) (hlot : ∀ l ∈ B, l = -1 ∨ l = 0)
    (hq : ∀ b, b < s.length → B.getD b 0 = -1 → s.getD b 0 ≤ x) {R : PQ} (k : ∀ fr, fr = fr48b p ip g io B ag s.length s.length ++ [(20, AV.bool false)] → R (.exit 2) fr H) :
    ∀ (d f : Nat), f + d = s.length → Wp E base bar (.loop c48_l1) (fr48b p ip g io B ag s.length f) H R := by
  intro d
  induction d with
  | zero =>
    intro f hf
    obtain rfl : f = s.length := by omega
    rw [wp_round c48_l1.eq_1]
    have kk := k _ rfl
    unfold fr48b at kk ⊢
    simp [go_sem]
    simpa using kk
  | succ d ih =>
    intro f hf
    have h5 := hs.le
    have hlt : f < s.length := by omega
    have hbl : f < B.length := by omega
    have hl := hlot _ (List.getElem_mem hbl)
    have hq' := hq f hlt
    have hgd : B.getD f 0 = B[f] := by simp [List.getD_eq_getElem?_getD, List.getElem?_eq_getElem hbl]
    rw [hgd] at hq'
    have hnext := ih (f + 1) (by omega)
    have hgB := zs_get hbl
    have hl48 := fun (R' : PQ) => l48q (base := base) (bar := bar) (R := R') hg (B := B) (ag := ag) (lot := B[f]) hs h hlt hl hq'
    have i0 := (i64_suc (show f < 1000000 by omega))
    rw [wp_round c48_l1.eq_1]
    unfold fr48b at hnext ⊢
    unfold fr48 at hl48
    generalize B[f] = lot at *
    rcases hl with rfl | rfl
    · simp [go_sem, hlt, hgB]
      refine hl48 _ fun fr hfr => ?_
      subst hfr
      simp [go_sem, i0]
      exact hnext
    · simp [go_sem, hlt, hgB]
      refine hl48 _ fun fr hfr => ?_
      subst hfr
      simp [go_sem, i0]
      exact hnext
end
end Go.Proofs.Ytngoldipfgfecaa.Code
end

section
namespace Go.Proofs.Ytngoldipfgfecaa.Code
open Go Go.Ab
variable {pure : Bool} {base bar : Nat} {H : Heap} {Q : AV → Heap → Prop}
section
variable {io ip x y : Nat}

/-- the price after a pass of raising -/
structure Up (s : List Nat) (B : List Int) (f x x' : Nat) (ag ag' : Bool) : Prop where
  le : x ≤ x'
  all : ∀ b, f ≤ b → b < s.length → B.getD b 0 = -1 → s.getD b 0 ≤ x'
  some : x' = x ∨ ∃ b, b < s.length ∧ B.getD b 0 = -1 ∧ s.getD b 0 = x'
  flag : ag' = true ∨ (ag' = ag ∧ x' = x)

theorem l48U {p m : Nat} {v : AV} {s : List Nat} {B : List Int} (hs : Sl s) (hb : bar ≤ ip) (hB : B.length = s.length) (hlot : ∀ l ∈ B, l = -1 ∨ l = 0) {R : PQ} :
    ∀ (d f : Nat), f + d = s.length → ∀ (x : Nat) (ag : Bool) (H : Heap), Pr H p m v s io ip x →
    (∀ x' ag' fr, Up s B f x x' ag ag' → x' < 1000 → fr = fr48b p ip 49 io B ag' s.length s.length ++ [(20, AV.bool false)] → R (.exit 2) fr (H.set ip (.row 0 [.int .i64 (x' : Nat)] 0 true))) →
    Wp E base bar (.loop c48_l1) (fr48b p ip 49 io B ag s.length f) H R := by
  intro d
  induction d with
  | zero =>
    intro f hf x ag H h k
    obtain rfl : f = s.length := by omega
    have hself : H.set ip (.row 0 [.int .i64 (x : Nat)] 0 true) = H := by
      obtain ⟨hlt, he⟩ := List.getElem?_eq_some_iff.1 h.price
      rw [← he]; exact List.set_getElem_self hlt
    rw [wp_round c48_l1.eq_1]
    have kk := k x ag _ ⟨Nat.le_refl _, fun b h1 h2 => by omega, .inl rfl, .inr ⟨rfl, rfl⟩⟩ h.lt rfl
    rw [hself] at kk
    unfold fr48b at kk ⊢
    simp [go_sem]
    simpa using kk
  | succ d ih =>
    intro f hf x ag H h k
    have h5 := hs.le
    have hlt : f < s.length := by omega
    have hbl : f < B.length := by omega
    have hl := hlot _ (List.getElem_mem hbl)
    have hgd : B.getD f 0 = B[f] := by simp [List.getD_eq_getElem?_getD, List.getElem?_eq_getElem hbl]
    have hgB := zs_get hbl
    have i0 := (i64_suc (show f < 1000000 by omega))
    have a0 : s.getD f 0 = s[f] := by simp [List.getD_eq_getElem?_getD, List.getElem?_eq_getElem hlt]
    have hxs := hs.at hlt
    by_cases hq : B[f] = -1 → s.getD f 0 ≤ x
    · have hnext := ih (f + 1) (by omega) x ag H h fun x' ag' fr hu hx' hfr => k x' ag' fr ⟨hu.le, fun b h1 h2 h3 => by
        rcases Nat.lt_or_ge f b with h4 | h4
        · exact hu.all b (by omega) h2 h3
        · obtain rfl : b = f := by omega
          have := hq (by rw [← hgd]; exact h3)
          have := hu.le
          omega, hu.some, hu.flag⟩ hx' hfr
      have hl48 := fun (R' : PQ) => l48q (base := base) (bar := bar) (R := R') (.inl rfl) (B := B) (ag := ag) (lot := B[f]) hs h hlt hl hq
      rw [wp_round c48_l1.eq_1]
      unfold fr48b at hnext ⊢
      unfold fr48 at hl48
      clear k ih
      generalize B[f] = lot at *
      rcases hl with rfl | rfl
      · simp [go_sem, hlt, hgB]
        refine hl48 _ fun fr hfr => ?_
        subst hfr
        simp [go_sem, i0]
        exact hnext
      · simp [go_sem, hlt, hgB]
        refine hl48 _ fun fr hfr => ?_
        subst hfr
        simp [go_sem, i0]
        exact hnext
    · have hq1 : B[f] = -1 := Classical.byContradiction fun hc => hq fun h => absurd h hc
      have hq2 : ¬ s.getD f 0 ≤ x := fun hc => hq fun _ => hc
      have hput := h.put (y := s.getD f 0) (by omega)
      have hnext := ih (f + 1) (by omega) (s.getD f 0) true _ hput fun x' ag' fr hu hx' hfr => by
        rw [List.set_set]
        have hf' : ag' = true := by
          rcases hu.flag with h1 | ⟨h1, _⟩ <;> exact h1
        have hle := hu.le
        refine k x' ag' fr ⟨by omega, fun b h1 h2 h3 => ?_, ?_, .inl hf'⟩ hx' hfr
        · rcases Nat.lt_or_ge f b with h4 | h4
          · exact hu.all b (by omega) h2 h3
          · obtain rfl : b = f := by omega
            exact hle
        · rcases hu.some with h1 | h1
          · exact .inr ⟨f, hlt, by rw [hgd]; exact hq1, h1.symm⟩
          · exact .inr h1
      have hl48 := fun (R' : PQ) => l48s (base := base) (bar := bar) (R := R') (B := B) (ag := ag) hs h hlt hq2 hb
      rw [wp_round c48_l1.eq_1]
      unfold fr48b at hnext ⊢
      unfold fr48 at hl48
      rw [hq1] at hgB
      clear k ih
      simp [go_sem, hlt, hgB]
      refine hl48 _ fun fr hfr => ?_
      subst hfr
      simp [go_sem, i0]
      simpa using hnext

theorem bestZ_eq {s : List Nat} {B : List Int} (h : B = bestZ s s.length 1) : B.length = s.length ∧ ∀ l ∈ B, l = -1 ∨ l = 0 := by
  subst h
  exact ⟨bestZ_len, bestZ_lot⟩

theorem frz_one {X : Heap} {id : Nat} {c : AV} {d : Nat} (hp : Plain c) (h : X[id]? = some (.row 0 [c] 0 true)) (hb : bar ≤ id) : frz (d + 3) bar X (.vec id 0 0 1 1) = some (.lst 1 false [c], X.set id (.row 0 [c] 1 true)) := by
  have e := frz_vec (d := d + 2) (bar := bar) (H := X) (id := id) (ver := 0) (off := 0) (len := 1) (sz := 1) (cs := [c]) (fz := 0) (ex := true) (xs := [c]) (H' := X.set id (.row 0 [c] 1 true)) h (by simp) hb (by
    simp only [List.drop_zero]
    exact plains (by simpa using hp))
  rw [e]; rfl

theorem k48L {p m : Nat} {v : AV} {s : List Nat} {es : List (AV × AV)} (hs : Sl s) (h : Hall H p m v s es) (hm : Memo s es) (hpr : H[ip]? = some (.row 0 [.int .i64 0] 0 true)) (hne : ip ≠ p ∧ ip ≠ m) (hb : bar ≤ m) (hbi : bar ≤ ip)
    (k : ∀ es' x' ag b, Up s (bestZ s s.length 1) 0 0 x' false ag → Q (.lst 1 false [.int .i64 (x' : Nat)]) ((H.set m (.map es')).set ip b)) : WpCall E false base bar 48 [.ptr p 0 0, .vec ip 0 0 1 1, .fn 49 [] []] H Q := by
  rw [call48]
  have hml := h.ml
  have hil := (List.getElem?_eq_some_iff.1 hpr).1
  obtain ⟨hB, hlot⟩ := bestZ_eq (s := s) rfl
  have hc1 : bar ≤ H.length := by omega
  simp [go_sem, WpFun, c48, AV.isTup, AV.cells, storeWp, astore, hc1]
  refine k45 hs (h.app _) hm (by omega) fun es1 hm1 => ?_
  rw [List.set_append_left _ _ hml]
  have h1 := h.put es1
  have hlen : (H.set m (.map es1)).length = H.length := by simp
  have hpr1 : (H.set m (.map es1))[ip]? = some (.row 0 [.int .i64 0] 0 true) := by rw [List.getElem?_set_ne (fun e => hne.2 e.symm)]; exact hpr
  have kk := fun x' ag b => k es1 x' ag b
  generalize H.set m (.map es1) = H1 at *
  have hP : Pr (H1 ++ [.row 0 [.int .i64 0] 0 true]) p m v s H1.length ip 0 := by
    refine ⟨⟨es1, h1.app _⟩, by simp, ?_, by omega, by omega, hne.1, hne.2⟩
    rw [List.getElem?_append_left (by omega)]; exact hpr1
  simp [go_sem]
  rw [← hlen]
  have hz : (zs (bestZ s s.length 1)).length = s.length := by rw [zs_length, bestZ_len]
  have hU := fun (R : PQ) => l48U (base := H1.length) (bar := bar) (R := R) hs hbi hB hlot s.length 0 (by omega) 0 false _ hP
  rw [wp_round c48_l2.eq_1]
  simp [go_sem, hz]
  unfold fr48b at hU
  refine hU _ fun x' ag fr hu hx' hfr => ?_
  subst hfr
  have hset : List.set (H1 ++ [Blk.row 0 [AV.int IntKind.i64 0] 0 true]) ip (.row 0 [.int .i64 (x' : Nat)] 0 true) = H1.set ip (.row 0 [.int .i64 (x' : Nat)] 0 true) ++ [Blk.row 0 [AV.int IntKind.i64 0] 0 true] := List.set_append_left _ _ (by omega)
  have hP2 := hP.put hx'
  have hkk := kk x' ag (.row 0 [.int .i64 (x' : Nat)] 1 true) hu
  rw [hset] at hP2 ⊢
  have e1 : (H1.set ip (.row 0 [.int .i64 (x' : Nat)] 0 true) ++ [Blk.row 0 [AV.int IntKind.i64 0] 0 true] : Heap).set ip (.row 0 [.int .i64 (x' : Nat)] 1 true) = H1.set ip (.row 0 [.int .i64 (x' : Nat)] 1 true) ++ [Blk.row 0 [AV.int IntKind.i64 0] 0 true] := by
    rw [List.set_append_left _ _ (by simp; omega), List.set_set]
  have e2 : (H1.set ip (.row 0 [.int .i64 (x' : Nat)] 1 true) ++ [Blk.row 0 [AV.int IntKind.i64 0] 0 true] : Heap).take H1.length = H1.set ip (.row 0 [.int .i64 (x' : Nat)] 1 true) := by
    rw [show H1.length = (H1.set ip (.row 0 [.int .i64 (x' : Nat)] 1 true)).length by simp, List.take_left]
  have hfr := frz_one (d := 5) (bar := bar) (Plain.int (k := .i64) (n := (x' : Int))) hP2.price hbi
  cases ag with
  | false =>
    simp [go_sem]
    rw [wp_round c48_l2.eq_1]
    simp [go_sem]
    rw [hfr, e1]
    simp [go_sem, e2, tops_cons, tops_nil, top_lst, top_int]
    exact hkk
  | true =>
    have hQ := fun (R : PQ) => l48Q (base := H1.length) (bar := bar) (R := R) (g := 49) (.inl rfl) (ag := false) hs hP2 hB hlot (fun b h1 h2 => hu.all b (Nat.zero_le _) h1 h2)
    simp [go_sem]
    rw [wp_round c48_l2.eq_1]
    simp [go_sem, hz]
    unfold fr48b at hQ
    refine hQ _ (fun fr hfr => ?_) s.length 0 (by omega)
    subst hfr
    simp [go_sem]
    rw [wp_round c48_l2.eq_1]
    simp [go_sem]
    rw [hfr, e1]
    simp [go_sem, e2, tops_cons, tops_nil, top_lst, top_int]
    exact hkk
end
end Go.Proofs.Ytngoldipfgfecaa.Code
end

section
namespace Go.Proofs.Ytngoldipfgfecaa.Code
open Go Go.Ab
variable {pure : Bool} {base bar : Nat} {H : Heap} {Q : AV → Heap → Prop}
section
variable {io ip x y : Nat}

theorem k48H {p m : Nat} {v : AV} {s : List Nat} {es : List (AV × AV)} (hs : Sl s) (h : Hall H p m v s es) (hm : Memo s es) (hpr : H[ip]? = some (.row 0 [.int .i64 (x : Nat)] 0 true)) (hx : x < 1000) (hne : ip ≠ p ∧ ip ≠ m) (hb : bar ≤ m) (hbi : bar ≤ ip)
    (hq : ∀ b, b < s.length → (bestZ s s.length 1).getD b 0 = -1 → s.getD b 0 ≤ x)
    (k : ∀ es' b, Q (.lst 1 false [.int .i64 (x : Nat)]) ((H.set m (.map es')).set ip b)) : WpCall E false base bar 48 [.ptr p 0 0, .vec ip 0 0 1 1, .fn 50 [] []] H Q := by
  rw [call48]
  have hml := h.ml
  have hil := (List.getElem?_eq_some_iff.1 hpr).1
  obtain ⟨hB, hlot⟩ := bestZ_eq (s := s) rfl
  have hc1 : bar ≤ H.length := by omega
  simp [go_sem, WpFun, c48, AV.isTup, AV.cells, storeWp, astore, hc1]
  refine k45 hs (h.app _) hm (by omega) fun es1 hm1 => ?_
  rw [List.set_append_left _ _ hml]
  have h1 := h.put es1
  have hlen : (H.set m (.map es1)).length = H.length := by simp
  have hpr1 : (H.set m (.map es1))[ip]? = some (.row 0 [.int .i64 (x : Nat)] 0 true) := by rw [List.getElem?_set_ne (fun e => hne.2 e.symm)]; exact hpr
  have kk := fun b => k es1 b
  generalize H.set m (.map es1) = H1 at *
  have hP : Pr (H1 ++ [.row 0 [.int .i64 0] 0 true]) p m v s H1.length ip x := by
    refine ⟨⟨es1, h1.app _⟩, by simp, ?_, hx, by omega, hne.1, hne.2⟩
    rw [List.getElem?_append_left (by omega)]; exact hpr1
  simp [go_sem]
  rw [← hlen]
  have hz : (zs (bestZ s s.length 1)).length = s.length := by rw [zs_length, bestZ_len]
  have hQ := fun (R : PQ) => l48Q (base := H1.length) (bar := bar) (R := R) (g := 50) (.inr rfl) (ag := false) hs hP hB hlot hq
  rw [wp_round c48_l2.eq_1]
  simp [go_sem, hz]
  unfold fr48b at hQ
  refine hQ _ (fun fr hfr => ?_) s.length 0 (by omega)
  subst hfr
  have hkk := kk (.row 0 [.int .i64 (x : Nat)] 1 true)
  have e1 : (H1 ++ [Blk.row 0 [AV.int IntKind.i64 0] 0 true] : Heap).set ip (.row 0 [.int .i64 (x : Nat)] 1 true) = H1.set ip (.row 0 [.int .i64 (x : Nat)] 1 true) ++ [Blk.row 0 [AV.int IntKind.i64 0] 0 true] := by
    rw [List.set_append_left _ _ (by omega)]
  have e2 : (H1.set ip (.row 0 [.int .i64 (x : Nat)] 1 true) ++ [Blk.row 0 [AV.int IntKind.i64 0] 0 true] : Heap).take H1.length = H1.set ip (.row 0 [.int .i64 (x : Nat)] 1 true) := by
    rw [show H1.length = (H1.set ip (.row 0 [.int .i64 (x : Nat)] 1 true)).length by simp, List.take_left]
  have hfr := frz_one (d := 5) (bar := bar) (Plain.int (k := .i64) (n := (x : Int))) hP.price hbi
  simp [go_sem]
  rw [wp_round c48_l2.eq_1]
  simp [go_sem]
  rw [hfr, e1]
  simp [go_sem, e2, tops_cons, tops_nil, top_lst, top_int]
  exact hkk

theorem made_top3 {v : AV} {H : Heap} {es : List (AV × AV)} {b c : Blk} : (List.set (List.set (H ++ [Blk.map []] ++ [Blk.row 0 [v, .int .i64 1, .mp H.length] 0 true] ++ [b]) H.length (.map es)) (H.length + 2) c).take H.length = H := by
  simp

theorem k17 {v : AV} {s : List Nat} (hs : Sl s) (hv : isLL v (one s)) (hb : bar ≤ H.length) (k : ∀ x' ag, Up s (bestZ s s.length 1) 0 0 x' false ag → Q (.tup [.lst 1 false [.int .i64 (x' : Nat)], .int .i64 0]) H) : WpCall E false base bar 17 [v] H Q := by
  rw [call17]
  simp [go_sem, WpFun, c17, hv.frz]
  refine k44 hv hs ?_
  have h := Hall.made (H := H) hv
  have ht := fun es b c => made_top3 (H := H) (v := v) (es := es) (b := b) (c := c)
  have hlen : (H ++ [.map []] ++ [.row 0 [v, .int .i64 1, .mp H.length] 0 true] : Heap).length = H.length + 2 := by simp
  generalize (H ++ [.map []] ++ [.row 0 [v, .int .i64 1, .mp H.length] 0 true] : Heap) = H1 at *
  simp [go_sem, h.one, aop, AV.asNat, hlen]
  refine k48L hs (h.app _) Memo.nil (by simp [← hlen]) ⟨by omega, by omega⟩ (by omega) (by omega) fun es' x' ag b hu => ?_
  simp [go_sem, ht, top_lst, tops_cons, tops_nil, top_int]
  exact k x' ag hu
end
end Go.Proofs.Ytngoldipfgfecaa.Code
end

section
namespace Go.Proofs.Ytngoldipfgfecaa.Code
open Go Go.Ab
variable {pure : Bool} {base bar : Nat} {H : Heap} {Q : AV → Heap → Prop}
section
variable {io ip x y : Nat}

/-- the first price -/
def hiF (s : List Nat) (B : List Int) : Nat → Nat
  | 0 => 0
  | f + 1 => if B.getD f 0 = 0 then s.getD f 0 else hiF s B f

theorem l18 {p m : Nat} {v : AV} {s : List Nat} {es : List (AV × AV)} {B : List Int} (hs : Sl s) (hB : B.length = s.length) (hlot : ∀ l ∈ B, l = -1 ∨ l = 0) (hbi : bar ≤ ip) {R : PQ} :
    ∀ (d f : Nat), f + d = s.length → ∀ (H : Heap), Hall H p m v s es → H[ip]? = some (.row 0 [.int .i64 (hiF s B f : Nat)] 0 true) → ip ≠ p ∧ ip ≠ m →
    (∀ fr, fr = [(0, v), (4, AV.ptr p 0 0), (6, .vec ip 0 0 1 1), (23, .lst 1 false (zs B)), (24, .int .i64 (s.length : Nat)), (25, .int .i64 (s.length : Nat)), (26, .bool false)] → R (.exit 0) fr (H.set ip (.row 0 [.int .i64 (hiF s B s.length : Nat)] 0 true))) →
    Wp E base bar (.loop c18_l0) [(0, v), (4, .ptr p 0 0), (6, .vec ip 0 0 1 1), (23, .lst 1 false (zs B)), (24, .int .i64 (s.length : Nat)), (25, .int .i64 (f : Nat))] H R := by
  intro d
  induction d with
  | zero =>
    intro f hf H h hp hne k
    obtain rfl : f = s.length := by omega
    have hself : H.set ip (.row 0 [.int .i64 (hiF s B s.length : Nat)] 0 true) = H := by
      obtain ⟨hlt, he⟩ := List.getElem?_eq_some_iff.1 hp
      rw [← he]; exact List.set_getElem_self hlt
    have kk := k _ rfl
    rw [hself] at kk
    rw [wp_round c18_l0.eq_1]
    simp [go_sem]
    exact kk
  | succ d ih =>
    intro f hf H h hp hne k
    have h5 := hs.le
    have hlt : f < s.length := by omega
    have hbl : f < B.length := by omega
    have hl := hlot _ (List.getElem_mem hbl)
    have hgd : B.getD f 0 = B[f] := by simp [List.getD_eq_getElem?_getD, List.getElem?_eq_getElem hbl]
    have hgB := zs_get hbl
    have i0 := (i64_suc (show f < 1000000 by omega))
    have a0 : s.getD f 0 = s[f] := by simp [List.getD_eq_getElem?_getD, List.getElem?_eq_getElem hlt]
    obtain ⟨y0, a1, a2, a3⟩ := one_at h.val hlt
    have hi := hiF.eq_2 s B f
    rw [hgd, a0] at hi
    have hnext := ih (f + 1) (by omega)
    rw [wp_round c18_l0.eq_1]
    rcases hl with h1 | h1
    · rw [h1] at hi hgB
      rw [if_neg (by omega)] at hi
      have := hnext H h (by rw [hi]; exact hp) hne k
      simp [go_sem, hlt, hgB, i0]
      exact this
    · rw [h1] at hi hgB
      rw [if_pos rfl] at hi
      have hil := (List.getElem?_eq_some_iff.1 hp).1
      have := hnext (H.set ip (.row 0 [.int .i64 ((s[f] : Nat) : Int)] 0 true)) ⟨by rw [List.getElem?_set_ne hne.1]; exact h.row, by rw [List.getElem?_set_ne hne.2]; exact h.map, h.val, h.ne⟩
        (by rw [hi, List.getElem?_set_self hil]) hne fun fr hfr => by
          rw [List.set_set]; exact k fr hfr
      simp [go_sem, hlt, hgB, a2, a3, a1.ix0, storeWp, astore, hp, AV.isTup, AV.cells, hbi, i0]
      exact this

theorem hiF_lt {s : List Nat} (hs : Sl s) {B : List Int} : ∀ f, hiF s B f < 1000
  | 0 => by simp [hiF]
  | f + 1 => by
    rw [hiF]
    split
    · rw [List.getD_eq_getElem?_getD]
      rcases Nat.lt_or_ge f s.length with h | h
      · rw [List.getElem?_eq_getElem h]
        have := hs.at h
        simp only [Option.getD_some]; omega
      · rw [List.getElem?_eq_none h]; simp
    · exact hiF_lt hs f

theorem made_top4 {v : AV} {H : Heap} {es es2 : List (AV × AV)} {b c c2 : Blk} : (List.set (List.set (List.set (List.set (H ++ [Blk.map []] ++ [Blk.row 0 [v, .int .i64 1, .mp H.length] 0 true] ++ [b]) H.length (.map es)) (H.length + 2) c) H.length (.map es2)) (H.length + 2) c2).take H.length = H := by
  simp

theorem k18 {v : AV} {s : List Nat} (hs : Sl s) (hv : isLL v (one s)) (hb : bar ≤ H.length)
    (hq : ∀ b, b < s.length → (bestZ s s.length 1).getD b 0 = -1 → s.getD b 0 ≤ hiF s (bestZ s s.length 1) s.length)
    (k : Q (.tup [.lst 1 false [.int .i64 (hiF s (bestZ s s.length 1) s.length : Nat)], .int .i64 0]) H) : WpCall E false base bar 18 [v] H Q := by
  rw [call18]
  obtain ⟨hB, hlot⟩ := bestZ_eq (s := s) rfl
  have hz : (zs (bestZ s s.length 1)).length = s.length := by rw [zs_length, bestZ_len]
  simp [go_sem, WpFun, c18, hv.frz]
  refine k44 hv hs ?_
  have h := Hall.made (H := H) hv
  have ht := fun es es2 b c c2 => made_top4 (H := H) (v := v) (es := es) (es2 := es2) (b := b) (c := c) (c2 := c2)
  have hlen : (H ++ [.map []] ++ [.row 0 [v, .int .i64 1, .mp H.length] 0 true] : Heap).length = H.length + 2 := by simp
  generalize (H ++ [.map []] ++ [.row 0 [v, .int .i64 1, .mp H.length] 0 true] : Heap) = H1 at *
  simp [go_sem, h.one, aop, AV.asNat, hlen]
  refine k45 hs (h.app _) Memo.nil (by omega) fun es1 hm1 => ?_
  have h1 := (h.app [Blk.row 0 [AV.int IntKind.i64 0] 0 true]).put es1
  simp [go_sem, hz]
  refine l18 hs hB hlot (by omega) s.length 0 (by omega) _ h1 (by rw [List.getElem?_set_ne (by omega)]; simp [← hlen, hiF]) ⟨by omega, by omega⟩ fun fr hfr => ?_
  subst hfr
  have hpl : (List.set (H1 ++ [Blk.row 0 [AV.int IntKind.i64 0] 0 true]) H.length (.map es1)).length = H.length + 3 := by simp [hlen]
  have hX := hiF_lt hs (B := bestZ s s.length 1) s.length
  have h2 : Hall (List.set (List.set (H1 ++ [Blk.row 0 [AV.int IntKind.i64 0] 0 true]) H.length (.map es1)) (H.length + 2) (.row 0 [.int .i64 (hiF s (bestZ s s.length 1) s.length : Nat)] 0 true)) (H.length + 1) H.length v s es1 :=
    ⟨by rw [List.getElem?_set_ne (by omega)]; exact h1.row, by rw [List.getElem?_set_ne (by omega)]; exact h1.map, h1.val, h1.ne⟩
  simp [go_sem]
  refine k48H hs h2 hm1 (List.getElem?_set_self (by omega)) hX ⟨by omega, by omega⟩ (by omega) (by omega) hq fun es' b => ?_
  simp [go_sem, ht, top_lst, tops_cons, tops_nil, top_int]
  exact k
end
end Go.Proofs.Ytngoldipfgfecaa.Code
end

section
namespace Go.Proofs.Ytngoldipfgfecaa.Code
open Go Go.Ab
variable {pure : Bool} {base bar : Nat} {H : Heap} {Q : AV → Heap → Prop}

/-- a call with a contest that is under construction -/
theorem own_call {f : FuncId} {cf : AFun} {n : Nat} {l : List ZZ} {q : AV} {H0 : Heap} (hcall : ∀ {args : List AV} {H : Heap} {Q : AV → Heap → Prop}, WpCall E pure base bar f args H Q ↔ frzWp E pure base bar cf Q (frzAll bar H args))
    (g : Grow 2 (prs l) H0 q H) (hb : bar ≤ H0.length) (k : ∀ (q' : AV) (H' : Heap), isP q' l → Grow 2 (prs l) H0 q H' → WpCall E pure base bar f [.agg [.int .i64 (n : Nat), q']] H' Q) :
    WpCall E pure base bar f [.agg [.int .i64 (n : Nat), q]] H Q := by
  obtain ⟨H', h1, h2, h3, h4⟩ := g.frz (d := 4) (bar := bar) (by decide) (by rw [prs_length]; exact ⟨l.length, rfl⟩) prs_plain hb
  have hq : (if prs l = [] then AV.nils else q) = q := by
    split
    · rename_i he
      rcases g with ⟨_, h, _⟩ | ⟨_, _, h, _⟩
      · exact h.symm
      · exact absurd he h
    · rfl
  rw [hq] at h2
  have ho : isP (outL 2 (prs l)) l := isP.out
  have kk := k (outL 2 (prs l)) H' ho h2
  have e1 : frzAll bar H [.agg [.int .i64 (n : Nat), q]] = some ([.agg [.int .i64 (n : Nat), outL 2 (prs l)]], H') := by
    simp [frzAll, frz.frzs, frzsW, frz_agg, frz_int, h1]
  have e2 : frzAll bar H' [.agg [.int .i64 (n : Nat), outL 2 (prs l)]] = some ([.agg [.int .i64 (n : Nat), outL 2 (prs l)]], H') := by
    simp [frzAll, frz.frzs, frzsW, frz_agg, frz_int, ho.frz]
  rw [hcall, e2] at kk
  rw [hcall, e1]
  exact kk

theorem near_of {P : List Nat} {n bits : Nat} {l : List ZZ} {f : Nat → Nat → Bool} (hm : MadeC n bits l f) (hn : P.length = n) (hnd : P.Nodup)
    (hbits : ∀ x y, y < x → x < n → bits.testBit (tri x + y) = !decide (P.getD x 0 < P.getD y 0)) : f = bitL l ∧ Near n f fun x => P.getD x 0 := by
  have hf : f = bitL l := by
    funext x y
    rw [Bool.eq_iff_iff, bitL_iff, hm.beat]
  have hinj : ∀ x y, x < n → y < n → P.getD x 0 = P.getD y 0 → x = y := fun x y hx hy h => by
    have h1 : P.getD x 0 = P[x] := by simp [List.getD_eq_getElem?_getD, List.getElem?_eq_getElem (show x < P.length by omega)]
    have h2 : P.getD y 0 = P[y] := by simp [List.getD_eq_getElem?_getD, List.getElem?_eq_getElem (show y < P.length by omega)]
    rw [h1, h2] at h
    exact (List.getElem_inj hnd).1 h
  refine ⟨hf, ⟨fun x y hx hy => ?_, hinj⟩⟩
  rcases Nat.lt_trichotomy x y with h | h | h
  · obtain ⟨_, h2⟩ := hm.won y x h hy
    rw [h2, hbits y x h hy]
    have hne : P.getD x 0 ≠ P.getD y 0 := fun e => by have := hinj x y hx hy e; omega
    simp only [Bool.not_eq_true', decide_eq_false_iff_not]
    omega
  · subst h
    simp [hm.irr]
  · obtain ⟨h1, _⟩ := hm.won x y h hx
    rw [h1, hbits x y h hx]
    simp

/-! the row of worths -/
def keyF (s : List Nat) (x : Nat) : Nat := (19 - s.getD x 0) * 8 + (7 - x)
theorem key_lt {s : List Nat} (hs : Sl s) {x y : Nat} (hx : x < s.length) (hxy : y < x) : keyF s x < keyF s y ↔ s.getD y 0 ≤ s.getD x 0 := by
  have h5 := hs.le
  have a : s.getD x 0 < 20 := by rw [List.getD_eq_getElem?_getD, List.getElem?_eq_getElem hx]; exact hs.at hx
  have b : s.getD y 0 < 20 := by rw [List.getD_eq_getElem?_getD, List.getElem?_eq_getElem (show y < s.length by omega)]; exact hs.at (by omega)
  unfold keyF
  omega
theorem key_le {s : List Nat} (hs : Sl s) {x y : Nat} (hx : x < s.length) (hy : y < s.length) (h : keyF s x < keyF s y) : s.getD y 0 ≤ s.getD x 0 ∧ (s.getD y 0 = s.getD x 0 → y < x) := by
  rcases Nat.lt_trichotomy y x with h1 | h1 | h1
  · exact ⟨(key_lt hs hx h1).1 h, fun _ => h1⟩
  · subst h1; omega
  · have := (key_lt hs hy h1).2
    constructor
    · exact Decidable.byContradiction fun hc => by have := this (by omega); omega
    · intro e; have := this (by omega); omega
def keyL (s : List Nat) : List Nat := (List.range s.length).map (keyF s)
theorem keyL_len {s : List Nat} : (keyL s).length = s.length := by simp [keyL]
theorem keyL_get {s : List Nat} {x : Nat} (hx : x < s.length) : (keyL s).getD x 0 = keyF s x := by simp [keyL, List.getD_eq_getElem?_getD, List.getElem?_range hx]
theorem keyL_nodup {s : List Nat} (hs : Sl s) : (keyL s).Nodup := by
  have h5 := hs.le
  refine List.pairwise_iff_getElem.2 fun i j hi hj hij e => ?_
  rw [keyL_len] at hi hj
  simp only [keyL, List.getElem_map, List.getElem_range] at e
  have := key_lt hs hj hij
  have a : s.getD i 0 < 20 := by rw [List.getD_eq_getElem?_getD, List.getElem?_eq_getElem hi]; exact hs.at hi
  have b : s.getD j 0 < 20 := by rw [List.getD_eq_getElem?_getD, List.getElem?_eq_getElem hj]; exact hs.at hj
  unfold keyF at e
  omega

theorem mx_spec {s : List Nat} {but : Int} : ∀ d, d ≤ s.length → (∀ b, s.length - d ≤ b → b < s.length → (b : Int) ≠ but → s.getD b 0 ≤ mxD s but 1 d) ∧ (mxD s but 1 d = 0 ∨ ∃ b, s.length - d ≤ b ∧ b < s.length ∧ (b : Int) ≠ but ∧ s.getD b 0 = mxD s but 1 d)
  | 0, _ => ⟨fun b h1 h2 => by omega, .inl rfl⟩
  | d + 1, hd => by
    obtain ⟨h1, h2⟩ := mx_spec (s := s) (but := but) d (by omega)
    rw [mxD, if_neg (by omega)]
    by_cases hc : ((s.length - (d + 1) : Nat) : Int) = but
    · rw [if_pos hc]
      refine ⟨fun b h3 h4 h5 => h1 b (by omega) h4 h5, ?_⟩
      rcases h2 with h2 | ⟨b, h3, h4, h5, h6⟩
      · exact .inl h2
      · exact .inr ⟨b, by omega, h4, h5, h6⟩
    · rw [if_neg hc]
      refine ⟨fun b h3 h4 h5 => ?_, ?_⟩
      · by_cases hb : b = s.length - (d + 1)
        · subst hb; omega
        · have := h1 b (by omega) h4 h5; omega
      · rcases Nat.le_total (mxD s but 1 d) (s.getD (s.length - (d + 1)) 0) with hm | hm
        · rw [Nat.max_eq_right hm]
          exact .inr ⟨_, Nat.le_refl _, by omega, hc, rfl⟩
        · rw [Nat.max_eq_left hm]
          rcases h2 with h2 | ⟨b, h3, h4, h5, h6⟩
          · exact .inl h2
          · exact .inr ⟨b, by omega, h4, h5, h6⟩

/-- the first one of a row -/
structure Top (s : List Nat) (w : Nat) : Prop where
  lt : w < s.length
  le : ∀ y, y < s.length → s.getD y 0 ≤ s.getD w 0
  last : ∀ y, y < s.length → s.getD y 0 = s.getD w 0 → y ≤ w

theorem Full.top {s L : List Nat} (hs : Sl s) (h : Full s.length (fun x => (keyL s).getD x 0) L) (h0 : 0 < L.length) : Top s L[0] := by
  have hlt := h.lt _ (List.getElem_mem h0)
  have key : ∀ y, y < s.length → y = L[0] ∨ keyF s L[0] < keyF s y := fun y hy => by
    have hm : y ∈ L := h.perm.mem_iff.2 (List.mem_range.2 hy)
    obtain ⟨j, hj, e⟩ := List.mem_iff_getElem.1 hm
    rcases Nat.eq_zero_or_pos j with rfl | hj0
    · exact .inl e.symm
    · have := List.pairwise_iff_getElem.1 h.sort 0 j h0 hj hj0
      rw [keyL_get hlt, keyL_get (by rw [e]; exact hy), e] at this
      exact .inr this
  refine ⟨hlt, fun y hy => ?_, fun y hy e => ?_⟩
  · rcases key y hy with rfl | h1
    · exact Nat.le_refl _
    · exact (key_le hs hlt hy h1).1
  · rcases key y hy with rfl | h1
    · exact Nat.le_refl _
    · exact Nat.le_of_lt ((key_le hs hlt hy h1).2 e)
theorem Full.second {s L : List Nat} (hs : Sl s) (h : Full s.length (fun x => (keyL s).getD x 0) L) (h1 : 1 < L.length) : L[1] < s.length ∧ L[1] ≠ L[0] ∧ ∀ y, y < s.length → y ≠ L[0] → s.getD y 0 ≤ s.getD L[1] 0 := by
  have hlt := h.lt _ (List.getElem_mem h1)
  refine ⟨hlt, fun e => ?_, fun y hy hne => ?_⟩
  · have := (List.getElem_inj h.nodup).1 e; omega
  · have hm : y ∈ L := h.perm.mem_iff.2 (List.mem_range.2 hy)
    obtain ⟨j, hj, e⟩ := List.mem_iff_getElem.1 hm
    rcases Nat.lt_trichotomy j 1 with hj1 | rfl | hj1
    · obtain rfl : j = 0 := by omega
      exact absurd e.symm hne
    · rw [← e]; exact Nat.le_refl _
    · have := List.pairwise_iff_getElem.1 h.sort 1 j h1 hj hj1
      rw [keyL_get hlt, keyL_get (by rw [e]; exact hy), e] at this
      exact (key_le hs hlt hy this).1

theorem bz0 {s : List Nat} : ∀ d, bestZ s d 0 = List.replicate d (-1)
  | 0 => rfl
  | d + 1 => by
    rw [bestZ, lotOf, leftOf, mxD_zero, mxD_zero, if_pos rfl, if_pos rfl, bz0 d]; rfl
theorem bz_none {s : List Nat} (h : ∀ y, y < s.length → s.getD y 0 = 0) : ∀ d, d ≤ s.length → bestZ s d 1 = List.replicate d (-1)
  | 0, _ => rfl
  | d + 1, hd => by
    have z : ∀ d, d ≤ s.length → mxD s (-1) 1 d = 0 := fun d hd => by
      rcases (mx_spec (but := -1) d hd).2 with h1 | ⟨b, _, h2, _, h3⟩
      · exact h1
      · rw [← h3]; exact h b h2
    rw [bestZ, lotOf, leftOf, z d (by omega), z (d + 1) hd, if_pos rfl, if_pos rfl, bz_none h d (by omega)]; rfl
theorem bz_some {s : List Nat} {w : Nat} (h : Top s w) (hp : 0 < s.getD w 0) : ∀ d, d ≤ s.length → s.length - d ≤ w → ∀ j, j < d → (bestZ s d 1).getD j 0 = if s.length - d + j = w then 0 else -1
  | 0, _, _, j, hj => by omega
  | d + 1, hd, hw, j, hj => by
    have s1 := mx_spec (s := s) (but := -1) d (by omega)
    have s2 := mx_spec (s := s) (but := -1) (d + 1) hd
    have e2 : mxD s (-1) 1 (d + 1) = s.getD w 0 := by
      have h1 := s2.1 w hw h.lt (by omega)
      rcases s2.2 with h2 | ⟨b, _, h3, _, h4⟩
      · omega
      · have := h.le b h3; omega
    rw [bestZ, lotOf, leftOf]
    by_cases hc : s.length - (d + 1) = w
    · have e1 : mxD s (-1) 1 d ≠ mxD s (-1) 1 (d + 1) := fun e => by
        rcases s1.2 with h2 | ⟨b, h3, h4, _, h5⟩
        · omega
        · have := h.last b h4 (by omega); omega
      rw [if_neg e1, if_neg e1, bz0]
      rcases Nat.eq_zero_or_pos j with rfl | hj0
      · rw [if_pos (by omega)]; rfl
      · rw [if_neg (by omega), show j = (j - 1) + 1 by omega]
        simp only [List.getD_cons_succ]
        rw [List.getD_eq_getElem?_getD, List.getElem?_replicate, if_pos (by omega)]; rfl
    · have e1 : mxD s (-1) 1 d = mxD s (-1) 1 (d + 1) := by
        have h1 := s1.1 w (by omega) h.lt (by omega)
        rcases s1.2 with h2 | ⟨b, _, h3, _, h4⟩
        · omega
        · have := h.le b h3; omega
      rw [if_pos e1, if_pos e1]
      rcases Nat.eq_zero_or_pos j with rfl | hj0
      · rw [if_neg (by omega)]; rfl
      · have := bz_some h hp d (by omega) (by omega) (j - 1) (by omega)
        rw [show j = (j - 1) + 1 by omega]
        simp only [List.getD_cons_succ]
        rw [this]
        clear this s1 s2 e1 e2
        rw [show s.length - d + (j - 1) = s.length - (d + 1) + (j - 1 + 1) by omega]

/-- what the first one of a row gets, and pays -/
structure Ans (s : List Nat) (w T : Nat) : Prop where
  best : ∀ b, b < s.length → (bestZ s s.length 1).getD b 0 = if b = w then 0 else -1
  pay : ∀ b, b < s.length → (payL s).getD b 0 = if b = w then (T : Int) else 0
  low : ∀ x' ag, Up s (bestZ s s.length 1) 0 0 x' false ag → x' = T
  hiq : ∀ b, b < s.length → (bestZ s s.length 1).getD b 0 = -1 → s.getD b 0 ≤ hiF s (bestZ s s.length 1) s.length
  hi : hiF s (bestZ s s.length 1) s.length = s.getD w 0
structure Ans0 (s : List Nat) : Prop where
  best : ∀ x ∈ bestZ s s.length 1, x = -1
  pay : ∀ x ∈ payL s, x = 0
  low : ∀ x' ag, Up s (bestZ s s.length 1) 0 0 x' false ag → x' = 0
  hiq : ∀ b, b < s.length → (bestZ s s.length 1).getD b 0 = -1 → s.getD b 0 ≤ hiF s (bestZ s s.length 1) s.length
  hi : hiF s (bestZ s s.length 1) s.length = 0

theorem payL_get {s : List Nat} {b : Nat} (hb : b < s.length) : (payL s).getD b 0 = payZ s b ((bestZ s s.length 1).getD b 0) := by
  simp [payL, List.getD_eq_getElem?_getD, List.getElem?_range hb]

theorem hiF_none {s : List Nat} {B : List Int} : ∀ f, (∀ b, b < f → B.getD b 0 ≠ 0) → hiF s B f = 0
  | 0, _ => rfl
  | f + 1, h => by rw [hiF, if_neg (h f (by omega)), hiF_none f fun b hb => h b (by omega)]
theorem hiF_some {s : List Nat} {B : List Int} {w : Nat} : ∀ f, (∀ b, b < f → (B.getD b 0 = 0 ↔ b = w)) → w < f → hiF s B f = s.getD w 0
  | 0, _, h => by omega
  | f + 1, h, hw => by
    rw [hiF]
    by_cases hc : f = w
    · rw [if_pos ((h f (by omega)).2 hc), hc]
    · rw [if_neg fun e => hc ((h f (by omega)).1 e)]
      exact hiF_some f (fun b hb => h b (by omega)) (by omega)

theorem ans0 {s : List Nat} {w : Nat} (h : Top s w) (h0 : s.getD w 0 = 0) : Ans0 s := by
  have hz : ∀ y, y < s.length → s.getD y 0 = 0 := fun y hy => by have := h.le y hy; omega
  have hB := bz_none hz s.length (Nat.le_refl _)
  have z : ∀ but, mxD s but 1 s.length = 0 := fun but => by
    rcases (mx_spec (s := s) (but := but) s.length (Nat.le_refl _)).2 with h1 | ⟨b, _, h2, _, h3⟩
    · exact h1
    · rw [← h3]; exact hz b h2
  have hb : ∀ b, b < s.length → (bestZ s s.length 1).getD b 0 = -1 := fun b hb => by
    rw [hB, List.getD_eq_getElem?_getD, List.getElem?_replicate, if_pos hb]; rfl
  refine ⟨fun x hx => by rw [hB] at hx; exact List.eq_of_mem_replicate hx, fun x hx => ?_, fun x' ag hu => ?_, fun b h1 _ => by rw [hz b h1]; exact Nat.zero_le _, hiF_none _ fun b hb' e => by rw [hb b hb'] at e; omega⟩
  · simp only [payL, List.mem_map, List.mem_range] at hx
    obtain ⟨b, hb', rfl⟩ := hx
    rw [hb b hb', payZ, mxA, z, z, if_neg (by omega)]; rfl
  · rcases hu.some with h1 | ⟨b, h1, _, h3⟩
    · exact h1
    · rw [← h3]; exact hz b h1

theorem ans {s : List Nat} {w T : Nat} (h : Top s w) (hp : 0 < s.getD w 0) (hT1 : ∀ y, y < s.length → y ≠ w → s.getD y 0 ≤ T) (hT2 : T = 0 ∨ ∃ y, y < s.length ∧ y ≠ w ∧ s.getD y 0 = T) : Ans s w T := by
  have hb : ∀ b, b < s.length → (bestZ s s.length 1).getD b 0 = if b = w then 0 else -1 := fun b hb => by
    have := bz_some h hp s.length (Nat.le_refl _) (by omega) b hb
    rw [this]; simp
  have hA : mxD s (-1) 1 s.length = s.getD w 0 := by
    have s2 := mx_spec (s := s) (but := -1) s.length (Nat.le_refl _)
    have h1 := s2.1 w (by omega) h.lt (by omega)
    rcases s2.2 with h2 | ⟨b, _, h3, _, h4⟩
    · omega
    · have := h.le b h3; omega
  refine ⟨hb, fun b hbl => ?_, fun x' ag hu => ?_, fun b h1 h2 => ?_, ?_⟩
  · rw [payL_get hbl, hb b hbl, payZ, mxA, hA]
    have s2 := mx_spec (s := s) (but := (b : Int)) s.length (Nat.le_refl _)
    by_cases hc : b = w
    · subst hc
      simp only [if_true]
      have : mxD s (b : Int) 1 s.length = T := by
        rcases s2.2 with h2 | ⟨y, _, h3, h4, h5⟩
        · rcases hT2 with hT | ⟨y, h3, h4, h5⟩
          · omega
          · have := s2.1 y (by omega) h3 (by omega); omega
        · have a := hT1 y h3 (by omega)
          rcases hT2 with hT | ⟨z, h6, h7, h8⟩
          · omega
          · have := s2.1 z (by omega) h6 (by omega); omega
      rw [this]; omega
    · rw [if_neg hc, if_neg hc, if_neg (by omega)]
      have : mxD s (b : Int) 1 s.length = s.getD w 0 := by
        have h1 := s2.1 w (by omega) h.lt (by omega)
        rcases s2.2 with h2 | ⟨y, _, h3, _, h4⟩
        · omega
        · have := h.le y h3; omega
      rw [this]; omega
  · have key : ∀ b, b < s.length → ((bestZ s s.length 1).getD b 0 = -1 ↔ b ≠ w) := fun b hbl => by
      rw [hb b hbl]; split <;> simp_all
    rcases hu.some with h1 | ⟨b, h1, h2, h3⟩
    · rcases hT2 with hT | ⟨y, h3, h4, h5⟩
      · omega
      · have := hu.all y (Nat.zero_le _) h3 ((key y h3).2 h4); omega
    · have a := hT1 b h1 ((key b h1).1 h2)
      rcases hT2 with hT | ⟨y, h4, h5, h6⟩
      · omega
      · have := hu.all y (Nat.zero_le _) h4 ((key y h4).2 h5); omega
  · rw [hiF_some (w := w) s.length (fun b hbl => by rw [hb b hbl]; split <;> simp_all) h.lt]
    exact h.le b h1
  · exact hiF_some s.length (fun b hbl => by rw [hb b hbl]; split <;> simp_all) h.lt
end Go.Proofs.Ytngoldipfgfecaa.Code
end

section
namespace Go.Proofs.Ytngoldipfgfecaa.Code
open Go Go.Ab
variable {pure : Bool} {base bar : Nat} {H : Heap} {Q : AV → Heap → Prop}

def oneV (x : Nat) : AV := .lst 1 true [.int .i64 (x : Nat)]
theorem oneV_isL {x : Nat} : isL (oneV x) [x] := isL.lst (l := [x])
theorem oneV_all : ∀ s : List Nat, allL (s.map oneV) (one s)
  | [] => trivial
  | x :: r => ⟨oneV_isL, oneV_all r⟩
theorem oneV_plain {s : List Nat} : ∀ c ∈ s.map oneV, Plain c := fun c hc => by
  obtain ⟨x, _, rfl⟩ := List.mem_map.1 hc
  exact Plain.lst

/-- what the law has on its heap: the bytes, the contest, the worths, the meetings -/
structure St (bs : List AV) (n : Nat) (s : List Nat) (l : List ZZ) (sv q : AV) (H : Heap) : Prop where
  b0 : H[0]? = some (.row 0 bs 0 true)
  b1 : H[1]? = some (.row 0 [.int .i64 (n : Nat), q] 0 true)
  os : Own 2 1 (s.map oneV) sv H
  oq : Own 2 2 (prs l) q H
  ne : ∀ j, idOf sv = some j → idOf q ≠ some j
theorem St.len {bs : List AV} {n : Nat} {s : List Nat} {l : List ZZ} {sv q : AV} (h : St bs n s l sv q H) : 2 ≤ H.length := (List.getElem?_eq_some_iff.1 h.b1).1

theorem St.appS {bs : List AV} {n : Nat} {s : List Nat} {l : List ZZ} {sv q : AV} {x bytes : Nat} (h : St bs n s l sv q H) (hb : bar ≤ 2) (hbase : base ≤ 2) (hl : s.length < 1000) (hby : bytes < 1000) {K : AV → Heap → List Nat → Prop}
    (k : ∀ v' H' tc, St bs n (s ++ [x]) l v' q H' → K v' H' tc) : appWp base bar 1 bytes (some sv) (some (.lst 1 true [oneV x])) H K := by
  have h2 := h.len
  have hx : (oneV x).cells = [oneV x] := rfl
  have hfm : [oneV x].flatMap AV.cells = [oneV x] := by simp [hx]
  refine h.os.app h2 (by omega) (Nat.one_dvd _) ?_ ?_ (Nat.one_dvd _) hb hbase ?_ fun v' H' tc g kp => k v' H' tc ?_
  · rw [hfm]; intro c hc; rw [List.mem_singleton] at hc; subst hc; exact Plain.lst
  · rw [hfm]; rfl
  · rw [hfm]; simp
    have : (s.length + 1) * bytes ≤ 1000 * 1000 := Nat.mul_le_mul (by omega) (by omega)
    omega
  · rw [hfm] at g
    have hs2 : ∀ j, j < 2 → idOf sv ≠ some j := fun j hj e => by have := (h.os.lt e).1; omega
    refine ⟨by rw [kp.same 0 (by omega) (hs2 0 (by omega))]; exact h.b0, by rw [kp.same 1 (by omega) (hs2 1 (by omega))]; exact h.b1, by simpa using g, h.oq.mono fun j hj => kp.same j (h.oq.lt hj).2 fun e => h.ne j e hj, fun j hj e => ?_⟩
    rcases kp.id j hj with h3 | h3
    · exact h.ne j h3 e
    · have := (h.oq.lt e).2; omega

theorem St.appQ {bs : List AV} {n : Nat} {s : List Nat} {l : List ZZ} {sv q : AV} {a b bytes : Nat} (h : St bs n s l sv q H) (hb : bar ≤ 2) (hbase : base ≤ 2) (hl : l.length < 1000) (hby : bytes < 1000) {K : AV → Heap → List Nat → Prop}
    (k : ∀ q' H' tc, q'.isTup = false → q'.cells = [q'] → H'[1]? = some (.row 0 [.int .i64 (n : Nat), q] 0 true) → St bs n s (l ++ [((a : Int), (b : Int))]) sv q' (H'.set 1 (.row 0 [.int .i64 (n : Nat), q'] 0 true)) → K q' H' tc) :
    appWp base bar 2 bytes (some q) (some (.lst 2 true [.agg [.int .i64 (a : Nat), .int .i64 (b : Nat)]])) H K := by
  have h2 := h.len
  have hfm : [AV.agg [.int .i64 (a : Nat), .int .i64 (b : Nat)]].flatMap AV.cells = [.int .i64 (a : Nat), .int .i64 (b : Nat)] := by simp [AV.cells]
  refine h.oq.app h2 (by omega) (by rw [prs_length]; exact ⟨l.length, rfl⟩) ?_ ?_ ?_ hb hbase ?_ fun q' H' tc g kp => ?_
  · rw [hfm]; intro c hc
    simp only [List.mem_cons, List.not_mem_nil, or_false] at hc
    rcases hc with rfl | rfl <;> exact Plain.int
  · rw [hfm]; rfl
  · rw [hfm]; exact ⟨1, rfl⟩
  · rw [hfm]; simp [prs_length]
    have : (l.length + 1) * bytes ≤ 1000 * 1000 := Nat.mul_le_mul (by omega) (by omega)
    omega
  · rw [hfm] at g
    have hs2 : ∀ j, j < 2 → idOf q ≠ some j := fun j hj e => by have := (h.oq.lt e).1; omega
    have e1 : H'[1]? = some (.row 0 [.int .i64 (n : Nat), q] 0 true) := by rw [kp.same 1 (by omega) (hs2 1 (by omega))]; exact h.b1
    have hl' : 2 ≤ H'.length := Nat.le_trans h2 kp.len
    obtain ⟨t1, t2⟩ := g.slot
    have hm : ∀ {k sz : Nat} {cells : List AV} {v : AV}, 2 ≤ k → Own k sz cells v H' → Own k sz cells v (H'.set 1 (.row 0 [.int .i64 (n : Nat), q'] 0 true)) := fun hk g => g.mono fun j hj => by
      have := (g.lt hj).1
      rw [List.getElem?_set_ne (by omega)]
    refine k q' H' tc t1 t2 e1 ⟨?_, by rw [List.getElem?_set_self (by omega)], hm (by omega) (h.os.mono fun j hj => kp.same j (h.os.lt hj).2 (h.ne j hj)), hm (by omega) ?_, fun j hj e => ?_⟩
    · rw [List.getElem?_set_ne (by omega), kp.same 0 (by omega) (hs2 0 (by omega))]; exact h.b0
    · have e : prs (l ++ [((a : Int), (b : Int))]) = prs l ++ [.int .i64 (a : Nat), .int .i64 (b : Nat)] := by simp [prs, zc]
      rw [e]; exact g
    · rcases kp.id j e with h3 | h3
      · exact h.ne j hj h3
      · have := (h.os.lt hj).2; omega

theorem St.ix {bs : List AV} {n : Nat} {s : List Nat} {l : List ZZ} {sv q : AV} (h : St bs n s l sv q H) {i : Nat} (hi : i < s.length) : ∃ id ver, (∀ {k : IntKind} {K : AV → Heap → List Nat → Prop}, ixaSWp 1 (some sv) (some (.int k (i : Int))) H K = K (.ptr id ver i) H []) ∧ ∀ {z : Nat}, aload H ⟨false, z⟩ (.ptr id ver i) = some (oneV s[i]) := by
  rcases h.os with ⟨h1, _⟩ | ⟨id, ver, fz, _, _, _, rfl, h2⟩
  · rw [List.map_eq_nil_iff] at h1; subst h1; simp at hi
  · refine ⟨id, ver, fun {k K} => ?_, fun {z} => ?_⟩
    · have hi' : i < (s.map oneV).length := by simpa using hi
      simp [go_sem, hi]
    · rw [aload_ptr h2, part_one]
      simp [List.getElem?_eq_getElem hi]
end Go.Proofs.Ytngoldipfgfecaa.Code
end

section
namespace Go.Proofs.Ytngoldipfgfecaa.Code
open Go Go.Ab
variable {pure : Bool} {base bar : Nat} {H : Heap} {Q : AV → Heap → Prop}

theorem tmod_nat {x m : Nat} : (x : Int).tmod (m : Int) = ((x % m : Nat) : Int) := by
  rw [Int.tmod_eq_emod_of_nonneg (by omega)]; rfl
theorem rem_nat {x m : Nat} (hm : m ≠ 0) : abin .rem (.int .i64 (x : Int)) (.int .i64 (m : Int)) = some (.int .i64 ((x % m : Nat) : Int)) := by
  show (if (m : Int) = 0 then none else some (AV.int .i64 ((x : Int).tmod (m : Int)))) = _
  rw [if_neg (by omega), tmod_nat]

theorem l4a {bs : List AV} {n bits a : Nat} {s : List Nat} {sv : AV} (hbar : bar ≤ 2) (hbar1 : bar ≤ 1) (hbase : base ≤ 2) (hbase1 : base ≤ 1) (hn : n ≤ 7) (hsl : s.length = a + 1) (ha : a < n) (hs20 : ∀ x ∈ s, x < 20)
    (hbits : ∀ b, b < a → bits.testBit (tri a + b) = decide (s.getD a 0 < s.getD b 0)) {R : PQ} :
    ∀ (k b : Nat), b + k = a → ∀ (l : List ZZ) (f : Nat → Nat → Bool) (q : AV) (Hc : Heap), MadeTo n bits a b l f → St bs n s l sv q Hc →
    (∀ l' f' q' Hc', MadeTo n bits a a l' f' → St bs n s l' sv q' Hc' →
      R (.exit 2) [(3, .ptr 0 0 0), (5, .int .i64 (n : Nat)), (6, sv), (7, .ptr 1 0 0), (33, .int .i64 (n : Nat)), (34, .int .i64 (a : Nat)), (8, .int .i64 (a : Nat)), (47, .int .i64 (a : Nat)), (48, .int .i64 (a : Nat)), (49, .bool false)] Hc') →
    Wp E base bar (.loop c4_l0) [(3, .ptr 0 0 0), (5, .int .i64 (n : Nat)), (6, sv), (7, .ptr 1 0 0), (33, .int .i64 (n : Nat)), (34, .int .i64 (a : Nat)), (8, .int .i64 (a : Nat)), (47, .int .i64 (a : Nat)), (48, .int .i64 (b : Nat))] Hc R := by
  intro k
  induction k with
  | zero =>
    intro b hb l f q Hc hm g h
    obtain rfl : b = a := by omega
    rw [wp_round c4_l0.eq_1]
    simp [go_sem]
    exact h l f q Hc hm g
  | succ k ih =>
    intro b hb l f q Hc hm g h
    have hlt : b < a := by omega
    have hll := hm.len
    have ht : tri a + b < 28 := (by decide : ∀ a, a < 7 → ∀ b, b < a → tri a + b < 28) a (by omega) b hlt
    obtain ⟨i1, v1, e1, e2⟩ := g.ix (i := a) (by omega)
    obtain ⟨i2, v2, e3, e4⟩ := g.ix (i := b) (by omega)
    have lq : aload Hc ⟨false, 1⟩ (.ptr 1 0 1) = some q := by rw [aload_ptr g.b1]; rfl
    have hbb := hbits b hlt
    have x1 : s.getD a 0 = s[a] := by simp [List.getD_eq_getElem?_getD, List.getElem?_eq_getElem (show a < s.length by omega)]
    have x2 : s.getD b 0 = s[b] := by simp [List.getD_eq_getElem?_getD, List.getElem?_eq_getElem (show b < s.length by omega)]
    rw [x1, x2] at hbb
    have y1 := fun (K : AV → Heap → List Nat → Prop) => (oneV_isL (x := s[a])).ix0 (H := Hc) (k := .i64) (K := K)
    have y2 := fun (K : AV → Heap → List Nat → Prop) => (oneV_isL (x := s[b])).ix0 (H := Hc) (k := .i64) (K := K)
    generalize s[a] = fa at *
    generalize s[b] = fb at *
    have key : ∀ x y : Nat, ((bits.testBit (tri a + b) = true ∧ x = b ∧ y = a) ∨ (bits.testBit (tri a + b) = false ∧ x = a ∧ y = b)) → ∀ q' H', St bs n s (l ++ [((x : Int), (y : Int))]) sv q' H' →
        Wp E base bar (.loop c4_l0) [(3, .ptr 0 0 0), (5, .int .i64 (n : Nat)), (6, sv), (7, .ptr 1 0 0), (33, .int .i64 (n : Nat)), (34, .int .i64 (a : Nat)), (8, .int .i64 (a : Nat)), (47, .int .i64 (a : Nat)), (48, .int .i64 ((b : Int) + 1))] H' R := fun x y hxy q' H' g' =>
      ih (b + 1) (by omega) _ _ q' _ (hm.put hlt ha hxy) g' h
    rw [wp_round c4_l0.eq_1]
    by_cases hc : fa < fb
    · have hc' : ¬ (fb : Int) ≤ (fa : Int) := by omega
      simp only [hc, decide_true] at hbb
      simp [go_sem, hlt, e1, e2, e3, e4, y1, y2, hc', lq, aop, fillA, setCells, chunks]
      refine g.appQ hbar hbase (by omega) (by omega) fun q' H' tc s1 s2 g1 g' => ?_
      simp [go_sem]
      rw [storeWp_ptr (size := 1) g1 s1 (by rw [s2]; rfl) (by omega) (by simp) hbar1 (.inl (by omega))]
      simp [go_sem, s2, setCells, i64_suc (show b < 1000000 by omega)]
      exact key b a (.inl ⟨hbb, rfl, rfl⟩) q' _ g'
    · have hc' : (fb : Int) ≤ (fa : Int) := by omega
      simp only [hc, decide_false] at hbb
      simp [go_sem, hlt, e1, e2, e3, e4, y1, y2, hc', lq, aop, fillA, setCells, chunks]
      refine g.appQ hbar hbase (by omega) (by omega) fun q' H' tc s1 s2 g1 g' => ?_
      simp [go_sem]
      rw [storeWp_ptr (size := 1) g1 s1 (by rw [s2]; rfl) (by omega) (by simp) hbar1 (.inl (by omega))]
      simp [go_sem, s2, setCells, i64_suc (show b < 1000000 by omega)]
      exact key a b (.inr ⟨hbb, rfl, rfl⟩) q' _ g'

def u8s (l : List Nat) : List AV := l.map fun x => .int .u8 (x : Nat)
def worths (bs : List Nat) (n : Nat) : List Nat := (bs.take n).map (· % 20)
theorem k13 {v : AV} {l : List Nat} (hv : isL v l) : WpCall E pure base bar 13 [v] H Q ↔ Q v H := by
  rw [call13]
  simp [go_sem, WpFun, c13, hv.frz, tops_cons, tops_nil, hv.top]

theorem l4b {bs : List Nat} {n bits : Nat} (hbs : bs.length = 5) (hbar : bar = 0) (hbase : base = 0) (hn : n ≤ 5) (hlt : ∀ x ∈ bs, x < 256)
    (hbits : ∀ x y, y < x → x < n → bits.testBit (tri x + y) = decide ((worths bs n).getD x 0 < (worths bs n).getD y 0)) {R : PQ} :
    ∀ (k a : Nat), a + k = n → ∀ (l : List ZZ) (f : Nat → Nat → Bool) (sv q : AV) (Hc : Heap), MadeTo n bits a 0 l f → St (u8s bs) n (worths bs a) l sv q Hc →
    (∀ l' f' sv' q' Hc', MadeTo n bits n 0 l' f' → St (u8s bs) n (worths bs n) l' sv' q' Hc' →
      R (.exit 0) [(3, .ptr 0 0 0), (5, .int .i64 (n : Nat)), (6, sv'), (7, .ptr 1 0 0), (33, .int .i64 (n : Nat)), (34, .int .i64 (n : Nat)), (35, .bool false)] Hc') →
    Wp E base bar (.loop c4_l1) [(3, .ptr 0 0 0), (5, .int .i64 (n : Nat)), (6, sv), (7, .ptr 1 0 0), (33, .int .i64 (n : Nat)), (34, .int .i64 (a : Nat))] Hc R := by
  intro k
  induction k with
  | zero =>
    intro a ha l f sv q Hc hm g h
    obtain rfl : a = n := by omega
    rw [wp_round c4_l1.eq_1]
    simp [go_sem]
    exact h l f sv q Hc hm g
  | succ k ih =>
    intro a ha l f sv q Hc hm g h
    subst hbar hbase
    have hlt1 : a < n := by omega
    have hab : a < bs.length := by omega
    have hw1 : worths bs (a + 1) = worths bs a ++ [bs[a] % 20] := by
      unfold worths
      rw [List.take_add_one, List.getElem?_eq_getElem hab, Option.toList_some, List.map_append]; rfl
    have hwl : (worths bs a).length = a := by simp [worths]; omega
    have hwn : ∀ x, x < a + 1 → (worths bs (a + 1)).getD x 0 = (worths bs n).getD x 0 := fun x hx => by
      simp only [worths, List.getD_eq_getElem?_getD, List.getElem?_map, List.getElem?_take]
      rw [if_pos hx, if_pos (by omega)]
    have hb1 : bs[a] < 256 := hlt _ (List.getElem_mem hab)
    have l0 : aload Hc ⟨false, 1⟩ (.ptr 0 0 a) = some (.int .u8 (bs[a] : Nat)) := by
      rw [aload_ptr g.b0, part_one]; simp [u8s, List.getElem?_eq_getElem hab]
    have e1 : IntKind.i64.wrap ((bs[a] : Nat) : Int) = ((bs[a] : Nat) : Int) := i64_nat (by omega)
    have e2 : abin .rem (.int .i64 ((bs[a] : Nat) : Int)) (.int .i64 20) = some (.int .i64 ((bs[a] % 20 : Nat) : Int)) := rem_nat (m := 20) (by decide)
    have k13' := fun (Q : AV → Heap → Prop) => k13 (pure := false) (base := 0) (bar := 0) (H := Hc) (Q := Q) (oneV_isL (x := bs[a] % 20))
    have hmod : bs[a] % 20 < 20 := Nat.mod_lt _ (by decide)
    rw [wp_round c4_l1.eq_1]
    generalize bs[a] % 20 = w at *
    unfold oneV at k13'
    simp [go_sem, hlt1, hbs, show a < 5 by omega, l0, e1, e2, aop, fillA, setCells, chunks, k13', AV.cells, AV.noVec.noVecs, AV.noVec]
    refine g.appS (x := w) (by omega) (by omega) (by omega) (by omega) fun v' H' tc g' => ?_
    rw [← hw1] at g'
    simp [go_sem]
    have hb := hm
    refine l4a (s := worths bs (a + 1)) (bits := bits) (by omega) (by omega) (by omega) (by omega) (by omega) (by rw [hw1]; simp [hwl]) hlt1 (fun x hx => ?_) (fun b hb => ?_) a 0 (by omega) l f q H' hm g' fun l' f' q' Hc' hm' g2 => ?_
    · simp only [worths, List.mem_map] at hx
      obtain ⟨y, _, rfl⟩ := hx
      exact Nat.mod_lt _ (by decide)
    · rw [hbits a b hb hlt1, hwn a (by omega), hwn b (by omega)]
    · simp [go_sem, i64_suc (show a < 1000000 by omega)]
      exact ih (a + 1) (by omega) l' f' v' q' Hc' hm'.next g2 h
end Go.Proofs.Ytngoldipfgfecaa.Code
end

section
namespace Go.Proofs.Ytngoldipfgfecaa.Code
open Go Go.Ab
variable {pure : Bool} {base bar : Nat} {H : Heap} {Q : AV → Heap → Prop}

theorem k12 {e1 e2 : Bool} {x : Int} : WpCall E pure base bar 12 [.lst 1 e1 [.int .i64 x], .lst 1 e2 [.int .i64 x]] H Q ↔ Q (.bool true) H := by
  rw [call12]
  have w1 : IntKind.i64.wrap 1 = 1 := by decide
  simp [go_sem, WpFun, c12]
  rw [wp_round c12_l0.eq_1]
  simp [go_sem, w1]
  rw [wp_round c12_l0.eq_1]
  simp [go_sem]

theorem l19 {L : List Int} {c : Int} (hc : ∀ x ∈ L, x = c) (hl : L.length < 1000) {R : PQ} (h : R (.exit 0) [(0, .lst 1 false (zs L)), (3, .int .i64 c), (4, .int .i64 (L.length : Nat)), (15, .bool false)] H) :
    ∀ (k i : Nat), i + k = L.length → Wp E base bar (.loop c19_l0) [(0, .lst 1 false (zs L)), (3, .int .i64 c), (4, .int .i64 (i : Nat))] H R := by
  intro k
  induction k with
  | zero =>
    intro i hi
    obtain rfl : i = L.length := by omega
    rw [wp_round c19_l0.eq_1]
    simp [go_sem, zs_length]
    exact h
  | succ k ih =>
    intro i hi
    have hlt : i < L.length := by omega
    have := hc _ (List.getElem_mem hlt)
    have hg := zs_get hlt
    rw [this] at hg
    rw [wp_round c19_l0.eq_1]
    have hgE : ∀ h, (zs L)[i]'h = .int .i64 c := fun h => by rw [List.getElem?_eq_getElem h] at hg; exact Option.some.inj hg
    simp [go_sem, zs_length, hlt, hgE, aop, i64_suc (show i < 1000000 by omega)]
    exact ih (i + 1) (by omega)
theorem k19 {L : List Int} {c : Int} (hc : ∀ x ∈ L, x = c) (h0 : 0 < L.length) (hl : L.length < 1000) (h : Q (.int .i64 c) H) : WpCall E pure base bar 19 [.lst 1 false (zs L)] H Q := by
  rw [call19]
  have := hc _ (List.getElem_mem h0)
  have hg := zs_get h0
  rw [this] at hg
  have h1 : ¬ (L.length : Int) < 1 := by omega
  have h2 : L ≠ [] := fun e => by rw [e] at h0; simp at h0
  simp [go_sem, WpFun, c19, zs_length, h1, h2, hg]
  refine l19 hc hl ?_ (L.length - 1) 1 (by omega)
  simp [go_sem]
  exact h

theorem l4c {L : List Nat} {rv sv bv pv lv hv : AV} {n : Nat} (hr : isL rv L) (hn : L.length = n) (h7 : n ≤ 7) (hlt : ∀ x ∈ L, x < n) {R : PQ}
    (h : R (.exit 4) [(5, .int .i64 (n : Nat)), (6, sv), (10, rv), (12, bv), (14, pv), (16, lv), (18, hv), (143, rv), (144, .int .i64 (n : Nat)), (145, .int .i64 (n : Nat)), (146, .bool false)] H) :
    ∀ (k i : Nat), i + k = n → Wp E base bar (.loop c4_l2) [(5, .int .i64 (n : Nat)), (6, sv), (10, rv), (12, bv), (14, pv), (16, lv), (18, hv), (143, rv), (144, .int .i64 (n : Nat)), (145, .int .i64 (i : Nat))] H R := by
  intro k
  induction k with
  | zero =>
    intro i hi
    obtain rfl : i = n := by omega
    rw [wp_round c4_l2.eq_1]
    simp [go_sem]
    exact h
  | succ k ih =>
    intro i hi
    have hiL : i < L.length := by omega
    have hx := hlt _ (List.getElem_mem hiL)
    have e1 : ¬ ((L[i] : Nat) : Int) < 0 := by omega
    have e2 : ¬ (n : Int) ≤ ((L[i] : Nat) : Int) := by omega
    rw [wp_round c4_l2.eq_1]
    simp [go_sem, show i < n by omega, hr.ix hiL, e1, e2, i64_suc (show i < 1000000 by omega)]
    exact ih (i + 1) (by omega)

theorem l4d {L : List Nat} {B P : List Int} {rv lv hv : AV} {n T most : Nat} (hr : isL rv L) (hn : L.length = n) (hB : B.length = n) (hP : P.length = n) (h7 : n ≤ 7) (h0 : 0 < L.length)
    (hb : ∀ b, b < n → B.getD b 0 = if b = L[0] then 0 else -1) (hp : ∀ b, b < n → P.getD b 0 = if b = L[0] then (T : Int) else 0) {R : PQ}
    (h : R (.exit 6) [(10, rv), (12, .lst 1 false (zs B)), (14, .lst 1 false (zs P)), (16, lv), (18, hv), (22, .int .i64 (most : Nat)), (23, .int .i64 (T : Nat)), (200, .int .i64 (n : Nat)), (201, .int .i64 (n : Nat)), (202, .bool false)] H) :
    ∀ (k i : Nat), i + k = n → Wp E base bar (.loop c4_l3) [(10, rv), (12, .lst 1 false (zs B)), (14, .lst 1 false (zs P)), (16, lv), (18, hv), (22, .int .i64 (most : Nat)), (23, .int .i64 (T : Nat)), (200, .int .i64 (n : Nat)), (201, .int .i64 (i : Nat))] H R := by
  intro k
  induction k with
  | zero =>
    intro i hi
    obtain rfl : i = n := by omega
    rw [wp_round c4_l3.eq_1]
    simp [go_sem]
    exact h
  | succ k ih =>
    intro i hi
    have hiB : i < B.length := by omega
    have hiP : i < P.length := by omega
    have r0 : ∀ K : AV → Heap → List Nat → Prop, ixaSWp 1 (some rv) (some (.int .i64 (0 : Int))) H K = K (.fp (.int .i64 ((L[0] : Nat) : Int))) H [] := fun K => hr.ix h0
    have gB := zs_get hiB
    have gP := zs_get hiP
    have b1 : B.getD i 0 = B[i] := by simp [List.getD_eq_getElem?_getD, List.getElem?_eq_getElem hiB]
    have b2 : P.getD i 0 = P[i] := by simp [List.getD_eq_getElem?_getD, List.getElem?_eq_getElem hiP]
    have hbi := hb i (by omega)
    have hpi := hp i (by omega)
    rw [b1] at hbi; rw [b2] at hpi
    rw [hbi] at gB; rw [hpi] at gP
    have hnext := ih (i + 1) (by omega)
    rw [wp_round c4_l3.eq_1]
    clear ih hb hp hbi hpi
    generalize L[0] = w at *
    by_cases hc : i = w
    · subst hc
      rw [if_pos rfl] at gB gP
      simp [go_sem, show i < n by omega, r0, gB, gP, i64_suc (show i < 1000000 by omega)]
      exact hnext
    · rw [if_neg hc] at gB gP
      have hc' : ¬ ((i : Nat) : Int) = ((w : Nat) : Int) := by omega
      simp [go_sem, show i < n by omega, r0, hc', gB, gP, i64_suc (show i < 1000000 by omega)]
      exact hnext
end Go.Proofs.Ytngoldipfgfecaa.Code
end

section
namespace Go.Proofs.Ytngoldipfgfecaa.Code
open Go Go.Ab
variable {pure : Bool} {base bar : Nat} {H : Heap} {Q : AV → Heap → Prop}

theorem St.frzS {bs : List AV} {n d : Nat} {s : List Nat} {l : List ZZ} {sv q : AV} (h : St bs n s l sv q H) (hb : bar ≤ 2) : ∃ H', frz (d + 3) bar H sv = some (outL 1 (s.map oneV), H') ∧ St bs n s l sv q H' := by
  obtain ⟨H', h1, h2, h3, h4⟩ := h.os.frz (d := d) (bar := bar) (by omega) (Nat.one_dvd _) oneV_plain hb
  have hs2 : ∀ j, j < 2 → idOf sv ≠ some j := fun j hj e => by have := (h.os.lt e).1; omega
  exact ⟨H', h1, by rw [h4 0 (hs2 0 (by omega))]; exact h.b0, by rw [h4 1 (hs2 1 (by omega))]; exact h.b1, h2, h.oq.mono fun j hj => h4 j fun e => h.ne j e hj, h.ne⟩
theorem St.frzQ {bs : List AV} {n d : Nat} {s : List Nat} {l : List ZZ} {sv q : AV} (h : St bs n s l sv q H) (hb : bar ≤ 2) : ∃ H', frz (d + 3) bar H q = some (outL 2 (prs l), H') ∧ St bs n s l sv q H' := by
  obtain ⟨H', h1, h2, h3, h4⟩ := h.oq.frz (d := d) (bar := bar) (by omega) (by rw [prs_length]; exact ⟨l.length, rfl⟩) prs_plain hb
  have hs2 : ∀ j, j < 2 → idOf q ≠ some j := fun j hj e => by have := (h.oq.lt e).1; omega
  exact ⟨H', h1, by rw [h4 0 (hs2 0 (by omega))]; exact h.b0, by rw [h4 1 (hs2 1 (by omega))]; exact h.b1, h.os.mono fun j hj => h4 j fun e => h.ne j hj e, h2, h.ne⟩

theorem own_callQ {bs : List AV} {n : Nat} {s : List Nat} {f : FuncId} {cf : AFun} {l : List ZZ} {sv q : AV} (hcall : ∀ {args : List AV} {H : Heap} {Q : AV → Heap → Prop}, WpCall E pure base bar f args H Q ↔ frzWp E pure base bar cf Q (frzAll bar H args))
    (g : St bs n s l sv q H) (hb : bar ≤ 2) (k : ∀ (q' : AV) (H' : Heap), isP q' l → St bs n s l sv q H' → WpCall E pure base bar f [.agg [.int .i64 (n : Nat), q']] H' Q) :
    WpCall E pure base bar f [.agg [.int .i64 (n : Nat), q]] H Q := by
  obtain ⟨H', h1, h2⟩ := g.frzQ (d := 4) hb
  have ho : isP (outL 2 (prs l)) l := isP.out
  have kk := k (outL 2 (prs l)) H' ho h2
  have e1 : frzAll bar H [.agg [.int .i64 (n : Nat), q]] = some ([.agg [.int .i64 (n : Nat), outL 2 (prs l)]], H') := by
    simp [frzAll, frz.frzs, frzsW, frz_agg, frz_int, h1]
  have e2 : frzAll bar H' [.agg [.int .i64 (n : Nat), outL 2 (prs l)]] = some ([.agg [.int .i64 (n : Nat), outL 2 (prs l)]], H') := by
    simp [frzAll, frz.frzs, frzsW, frz_agg, frz_int, ho.frz]
  rw [hcall, e2] at kk
  rw [hcall, e1]
  exact kk
theorem own_callS {bs : List AV} {n : Nat} {s : List Nat} {f : FuncId} {cf : AFun} {l : List ZZ} {sv q : AV} (hcall : ∀ {args : List AV} {H : Heap} {Q : AV → Heap → Prop}, WpCall E pure base bar f args H Q ↔ frzWp E pure base bar cf Q (frzAll bar H args))
    (g : St bs n s l sv q H) (hb : bar ≤ 2) (k : ∀ (v' : AV) (H' : Heap), isLL v' (one s) → St bs n s l sv q H' → WpCall E pure base bar f [v'] H' Q) :
    WpCall E pure base bar f [sv] H Q := by
  obtain ⟨H', h1, h2⟩ := g.frzS (d := 5) hb
  have ho : isLL (outL 1 (s.map oneV)) (one s) := isLL.out (oneV_all s)
  have kk := k _ H' ho h2
  have e1 : frzAll bar H [sv] = some ([outL 1 (s.map oneV)], H') := by
    simp [frzAll, frz.frzs, frzsW, h1]
  have e2 : frzAll bar H' [outL 1 (s.map oneV)] = some ([outL 1 (s.map oneV)], H') := by
    simp [frzAll, frz.frzs, frzsW, ho.frz]
  rw [hcall, e2] at kk
  rw [hcall, e1]
  exact kk

theorem near_of' {P : List Nat} {n bits : Nat} {l : List ZZ} {f : Nat → Nat → Bool} (hm : MadeC n bits l f) (hn : P.length = n) (hnd : P.Nodup)
    (hbits : ∀ x y, y < x → x < n → bits.testBit (tri x + y) = !decide (P.getD x 0 < P.getD y 0)) : f = bitL l ∧ Near n f fun x => P.getD x 0 := near_of hm hn hnd hbits

theorem worths_len {bs : List Nat} {n : Nat} (h : n ≤ bs.length) : (worths bs n).length = n := by simp [worths]; omega
theorem worths_sl {bs : List Nat} {n : Nat} (h : n ≤ bs.length) (h1 : 1 ≤ n) (h5 : n ≤ 5) : Sl (worths bs n) :=
  ⟨by rw [worths_len h]; exact h1, by rw [worths_len h]; exact h5, fun x hx => by
    simp only [worths, List.mem_map] at hx
    obtain ⟨y, _, rfl⟩ := hx
    exact Nat.mod_lt _ (by decide)⟩

theorem hiq_of {s : List Nat} {w : Nat} (h : Top s w) : ∀ b, b < s.length → (bestZ s s.length 1).getD b 0 = -1 → s.getD b 0 ≤ hiF s (bestZ s s.length 1) s.length := by
  rcases Nat.eq_zero_or_pos (s.getD w 0) with h0 | h0
  · exact (ans0 h h0).hiq
  · intro b hbl _
    have hB0 := bz_some h h0 s.length (Nat.le_refl _) (by omega)
    have e : hiF s (bestZ s s.length 1) s.length = s.getD w 0 := hiF_some s.length (fun b hb => by
      rw [hB0 b hb]; simp only [Nat.sub_self, Nat.zero_add]; split <;> simp_all) h.lt
    rw [e]; exact h.le b hbl

theorem second_true {bs : List Nat} {a : Nat} (hb : bs.length = 5) (hlt : ∀ x ∈ bs, x < 256) (ha : a < 256) : ∃ f H', acall E f 4 [.int .u8 (a : Nat), .agg (u8s bs)] [] = some (.bool true, H') := by
  have key : WpCall E false 0 0 4 [.int .u8 (a : Nat), .agg (u8s bs)] [] (fun v _ => v = .bool true) := by
    rw [call4]
    have hp : ∀ x ∈ u8s bs, Plain x := fun x hx => by
      simp only [u8s, List.mem_map] at hx
      obtain ⟨a, _, rfl⟩ := hx; exact Plain.int
    have e0 : frzAll 0 [] [.int .u8 (a : Nat), .agg (u8s bs)] = some ([.int .u8 (a : Nat), .agg (u8s bs)], []) := by
      simp [frzAll, frz.frzs, frzsW, frz_agg, frz_int, plains (d := 5) hp]
    rw [e0]
    have e1 : IntKind.i64.wrap (a : Int) = (a : Int) := i64_nat (by omega)
    have e2 : abin .rem (.int .i64 (a : Int)) (.int .i64 5) = some (.int .i64 ((a % 5 : Nat) : Int)) := rem_nat (m := 5) (by decide)
    have hc5 : a % 5 < 5 := Nat.mod_lt _ (by decide)
    generalize a % 5 = m at *
    have e3 : IntKind.i64.wrap (1 + (m : Int)) = ((m + 1 : Nat) : Int) := by
      rw [Go.IntWalk.i64_in _ (by omega)]; omega
    have hcast : ((m : Int) + 1) = ((m + 1 : Nat) : Int) := by omega
    simp [go_sem, WpFun, c4, e1, e2, e3, aop, fillA, setCells, AV.cells, AV.isTup, storeWp, astore]
    rw [hcast]
    obtain ⟨n, hn⟩ : ∃ n, n = m + 1 := ⟨_, rfl⟩
    rw [← hn]
    have h1 : 1 ≤ n := by omega
    have h5 : n ≤ 5 := by omega
    have hs := worths_sl (bs := bs) (n := n) (by omega) h1 h5
    have hwl := worths_len (bs := bs) (n := n) (by omega)
    obtain ⟨bits, hbits⟩ := bits_of fun x y => decide ((worths bs n).getD x 0 < (worths bs n).getD y 0)
    refine l4b hb rfl rfl h5 hlt (fun x y h1 h2 => hbits x y h1 (by omega)) n 0 (by omega) [] _ .nils .nils _ MadeTo.zero ⟨rfl, rfl, .nil, .nil, fun j hj => by cases hj⟩ fun l f sv q H1 hmt g1 => ?_
    generalize worths bs n = s at *
    have hm : MadeC n bits l f := hmt.done h1 (by omega)
    obtain ⟨hf, hN⟩ := near_of (P := keyL s) hm (by rw [keyL_len, hwl]) (keyL_nodup hs) fun x y hyx hx => by
      rw [hbits x y hyx (by omega), keyL_get (by omega), keyL_get (by omega), Bool.eq_iff_iff]
      have := key_lt hs (x := x) (by omega) hyx
      simp only [decide_eq_true_eq, Bool.not_eq_true', decide_eq_false_iff_not, this]
      omega
    have hok := hm.ok
    have hll : l.length < 1000 := by
      have h1 := hmt.len
      have h2 := (by decide : ∀ a, a ≤ 7 → tri a ≤ 100) n (by omega)
      omega
    have hone : ∀ x y, x < n → y < n → x ≠ y → f x y = !f y x := fun x y hx hy hne => hm.one hx hy hne
    obtain ⟨L, hR, hL⟩ := rows_single hN hone
    have hrow := row_eq (f := f) (n := n) (by omega)
    rw [hR] at hrow
    have la : ∀ {H' : Heap}, St (u8s bs) n s l sv q H' → aload H' ⟨true, 2⟩ (.ptr 1 0 0) = some (.agg [.int .i64 (n : Nat), q]) := fun g => by
      rw [aload_ptr g.b1]; rfl
    simp [go_sem, la g1]
    refine own_callQ call14 g1 (Nat.zero_le _) fun q1 H2 hq1 g2 => k14 hq1 hll hok (Nat.zero_le _) (fun L1 rv hL1 hrv => ?_) fun hnone => by rw [← hf, hrow] at hnone; cases hnone
    rw [← hf, hrow] at hL1
    obtain rfl : L = L1 := Option.some.inj hL1
    clear hL1 hrow
    simp [go_sem]
    refine own_callS call15 g2 (Nat.zero_le _) fun v3 H3 hv3 g3 => k15 hs hv3 (Nat.zero_le _) ?_
    simp [go_sem]
    refine own_callS call16 g3 (Nat.zero_le _) fun v4 H4 hv4 g4 => k16 hs hv4 (Nat.zero_le _) ?_
    simp [go_sem]
    refine own_callS call17 g4 (Nat.zero_le _) fun v5 H5 hv5 g5 => k17 hs hv5 (Nat.zero_le _) fun x' ag hup => ?_
    simp [go_sem]
    have hLl := hL.len
    have hL0 : 0 < L.length := by omega
    rw [← hwl] at hL
    have htop := hL.top hs hL0
    have hB : (bestZ s s.length 1).length = n := by rw [bestZ_len, hwl]
    have hP : (payL s).length = n := by simp [payL, hwl]
    have hBlen : (zs (bestZ s s.length 1)).length = n := by rw [zs_length, hB]
    have hPlen : (zs (payL s)).length = n := by rw [zs_length, hP]
    have hiq := hiq_of htop
    refine own_callS call18 g5 (Nat.zero_le _) fun v6 H6 hv6 g6 => k18 hs hv6 (Nat.zero_le _) hiq ?_
    simp [go_sem, hrv.len, hLl, hBlen, hPlen]
    refine l4c hrv hLl (by omega) (fun x hx => by have := hL.lt x hx; omega) ?_ n 0 (by omega)
    have hL0n := htop.lt
    obtain ⟨i1, u1, p1, p2⟩ := g6.ix (i := L[0]) hL0n
    have r0 : ∀ {H : Heap} {K : AV → Heap → List Nat → Prop}, ixaSWp 1 (some rv) (some (.int .i64 (0 : Int))) H K = K (.fp (.int .i64 ((L[0] : Nat) : Int))) H [] := hrv.ix hL0
    have x1 : s.getD L[0] 0 = s[L[0]] := by simp [List.getD_eq_getElem?_getD, List.getElem?_eq_getElem hL0n]
    have y1 := fun (K : AV → Heap → List Nat → Prop) => (oneV_isL (x := s[L[0]])).ix0 (H := H6) (k := .i64) (K := K)
    rcases Nat.lt_or_ge 1 n with hn1 | hn1
    · have hL1 : 1 < L.length := by omega
      obtain ⟨hs1, hs2, hs3⟩ := hL.second hs hL1
      have r1 : ∀ {H : Heap} {K : AV → Heap → List Nat → Prop}, ixaSWp 1 (some rv) (some (.int .i64 (1 : Int))) H K = K (.fp (.int .i64 ((L[1] : Nat) : Int))) H [] := hrv.ix hL1
      obtain ⟨i2, u2, p3, p4⟩ := g6.ix (i := L[1]) hs1
      have x2 : s.getD L[1] 0 = s[L[1]] := by simp [List.getD_eq_getElem?_getD, List.getElem?_eq_getElem hs1]
      have y2 := fun (K : AV → Heap → List Nat → Prop) => (oneV_isL (x := s[L[1]])).ix0 (H := H6) (k := .i64) (K := K)
      have hn1' : (1 : Int) < (n : Int) := by omega
      have hT1 : ∀ y, y < s.length → y ≠ L[0] → s.getD y 0 ≤ s[L[1]] := fun y h1 h2 => by rw [← x2]; exact hs3 y h1 h2
      have hT2 : s[L[1]] = 0 ∨ ∃ y, y < s.length ∧ y ≠ L[0] ∧ s.getD y 0 = s[L[1]] := .inr ⟨_, hs1, hs2, x2⟩
      simp [go_sem, r0, p1, p2, y1, hn1', r1, p3, p4, y2]
      clear y1 y2 p1 p2 p3 p4 r1 x2 hs3
      generalize s[L[1]] = T at *
      rcases Nat.eq_zero_or_pos (s.getD L[0] 0) with h0 | h0
      · have A := ans0 htop h0
        obtain rfl := A.low _ _ hup
        rw [x1] at h0
        rw [A.hi, h0]
        simp [go_sem]
        refine k19 (c := -1) A.best (by omega) (by omega) ?_
        simp [go_sem]
        refine k19 (c := 0) A.pay (by omega) (by omega) ?_
        simp [go_sem, aop, fillA, setCells, chunks, AV.cells]
        refine (k13 (isL.lst (l := [0]))).2 ?_
        simp [go_sem, nats]
        refine k12.2 ?_
        simp [go_sem, aop, fillA, setCells, chunks, AV.cells]
        refine (k13 (isL.lst (l := [0]))).2 ?_
        simp [go_sem, nats]
        refine k12.2 ?_
        simp [go_sem, call20]
      · have A := ans htop h0 hT1 hT2
        obtain rfl := A.low _ _ hup
        rw [A.hi, x1]
        rw [x1] at h0
        have hne : ¬ ((s[L[0]] : Nat) : Int) = 0 := by omega
        have hne2 : ¬ s[L[0]] = 0 := by omega
        generalize s[L[0]] = most at *
        simp [go_sem, hne, hne2]
        refine l4d hrv hLl hB hP (by omega) hL0 (fun b hb => A.best b (by omega)) (fun b hb => A.pay b (by omega)) ?_ n 0 (by omega)
        simp [go_sem, aop, fillA, setCells, chunks, AV.cells]
        refine (k13 (isL.lst (l := [x']))).2 ?_
        simp [go_sem, nats]
        refine k12.2 ?_
        simp [go_sem, aop, fillA, setCells, chunks, AV.cells]
        refine (k13 (isL.lst (l := [most]))).2 ?_
        simp [go_sem, nats]
        refine k12.2 ?_
        simp [go_sem, call20]
    · have hn1' : ¬ (1 : Int) < (n : Int) := by omega
      have hT1 : ∀ y, y < s.length → y ≠ L[0] → s.getD y 0 ≤ 0 := fun y h1 h2 => by omega
      have hT2 : (0 : Nat) = 0 ∨ ∃ y, y < s.length ∧ y ≠ L[0] ∧ s.getD y 0 = 0 := .inl rfl
      simp [go_sem, r0, p1, p2, y1, hn1']
      clear y1 p1 p2
      rcases Nat.eq_zero_or_pos (s.getD L[0] 0) with h0 | h0
      · have A := ans0 htop h0
        obtain rfl := A.low _ _ hup
        rw [x1] at h0
        rw [A.hi, h0]
        simp [go_sem]
        refine k19 (c := -1) A.best (by omega) (by omega) ?_
        simp [go_sem]
        refine k19 (c := 0) A.pay (by omega) (by omega) ?_
        simp [go_sem, aop, fillA, setCells, chunks, AV.cells]
        refine (k13 (isL.lst (l := [0]))).2 ?_
        simp [go_sem, nats]
        refine k12.2 ?_
        simp [go_sem, aop, fillA, setCells, chunks, AV.cells]
        refine (k13 (isL.lst (l := [0]))).2 ?_
        simp [go_sem, nats]
        refine k12.2 ?_
        simp [go_sem, call20]
      · have A := ans htop h0 hT1 hT2
        obtain rfl := A.low _ _ hup
        rw [A.hi, x1]
        rw [x1] at h0
        have hne : ¬ ((s[L[0]] : Nat) : Int) = 0 := by omega
        have hne2 : ¬ s[L[0]] = 0 := by omega
        generalize s[L[0]] = most at *
        simp [go_sem, hne, hne2]
        refine l4d (T := 0) hrv hLl hB hP (by omega) hL0 (fun b hb => A.best b (by omega)) (fun b hb => A.pay b (by omega)) ?_ n 0 (by omega)
        simp [go_sem, aop, fillA, setCells, chunks, AV.cells]
        refine (k13 (isL.lst (l := [0]))).2 ?_
        simp [go_sem, nats]
        refine k12.2 ?_
        simp [go_sem, aop, fillA, setCells, chunks, AV.cells]
        refine (k13 (isL.lst (l := [most]))).2 ?_
        simp [go_sem, nats]
        refine k12.2 ?_
        simp [go_sem, call20]
  obtain ⟨f, v, H', h1, rfl⟩ := key
  exact ⟨f, H', h1⟩
theorem second_law {a : Nat} {f : Nat → Nat} (ha : a < 256) (hf : ∀ i, f i < 256) : ∃ n H', acall E n 4 [.int .u8 (a : Nat), .agg ((List.range 5).map fun i => .int .u8 ((f i : Nat) : Int))] [] = some (.bool true, H') := by
  have := second_true (bs := (List.range 5).map f) (by simp) (fun x hx => by obtain ⟨i, _, rfl⟩ := List.mem_map.1 hx; exact hf i) ha
  simpa [u8s, List.map_map, Function.comp_def] using this
end Go.Proofs.Ytngoldipfgfecaa.Code
end

