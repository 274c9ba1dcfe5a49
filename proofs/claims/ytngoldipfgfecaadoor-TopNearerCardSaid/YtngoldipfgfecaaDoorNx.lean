/-
  Part of the proofs about this chapter: contracts of functions, answers of calls, and plain laws.
-/
import Derived.Test.YtngoldipfgfecaaDoorKit
import Derived.Test.YtngoldipfgfecaaDoorNC
set_option linter.all false
section
namespace Go.Ab
open Go.RowKit Go.ChangeShapes Go.WideShapes
variable {H : Type} {enc : TypeId × Value → H} {P : Program} {W W' : World} {base : Nat} {spare : Nat → Bool} {held : Bool}

theorem flat_vr {n : Nat} {t : TypeId} {v : Value} {d : DataW H} {ps : List MemPlace} {r : Reach} {b0 : Nat}
    (hu : (∃ fs, P.underlying t = some (.struct fs)) ∨ ∃ m e, P.underlying t = some (.array m e)) (hf : flatT P n t = true)
    (hval : Value.okWide P W r b0 t v) (hd : DataW.Trod enc P W 0 spare held t v d ps) : ∃ ys, VR (ctx0 W) (.agg ys) v ∧ Sh P n t ys := by
  have hv : ∃ cs, v = .agg cs := by
    unfold Value.okWide at hval
    rcases hu with ⟨fs, hu⟩ | ⟨m, e, hu⟩
    · rw [hu] at hval
      obtain ⟨cs, h, _⟩ := hval
      exact ⟨cs, h⟩
    · rw [hu] at hval
      obtain ⟨cs, h, _⟩ := hval
      exact ⟨cs, h⟩
  obtain ⟨cs, rfl⟩ := hv
  obtain ⟨fuel, hd⟩ := hd
  obtain ⟨ys, h1, h2⟩ := flat_cel (W := W) n t hf _ _ _ hd
  have hc : (Value.agg cs).cells.toList = cs.toList := rfl
  rw [hc] at h2
  exact ⟨ys, .agg ys cs (by rw [h2.len]; simp) h2.one fun i c u hi hu => h2.vr i c u hi (by simpa using hu), h1⟩

theorem sh_nat {n : Nat} {e : TypeId} {k : IntKind} {ys : List AV} (he : P.underlying e = some (.int k)) (hk : k.min = 0) (h : Sh P (n + 1) e ys) : ∃ a : Nat, ys = [.int k a] ∧ (a : Int) ≤ k.max := by
  unfold Sh at h
  rw [he] at h
  obtain ⟨z, rfl, hw⟩ := h
  simp only [Lit.wf, Bool.and_eq_true, decide_eq_true_eq, hk] at hw
  obtain ⟨a, rfl⟩ := Int.eq_ofNat_of_zero_le hw.1
  exact ⟨a, rfl, hw.2⟩

theorem u8_wf {z : Int} (h : (Lit.int .u8 z).wf = true) : ∃ a : Nat, z = a ∧ a < 256 := by
  simp only [Lit.wf, Bool.and_eq_true, decide_eq_true_eq] at h
  have m0 : IntKind.u8.min = 0 := by decide
  have m1 : IntKind.u8.max = 255 := by decide
  exact ⟨z.toNat, by omega, by omega⟩

/-- a struct of a byte and a word -/
theorem row_vr {t : TypeId} {f0 f1 : Field} {v : Value} {d : DataW H} {ps : List MemPlace} {r : Reach} {b0 : Nat}
    (ht : P.underlying t = some (.struct #[f0, f1])) (o0 : f0.offset = 0) (o1 : f1.offset = 1) (c0 : P.cellsOf f0.type = 1) (c1 : P.cellsOf f1.type = 1) (ct : P.cellsOf t = 2)
    (h0 : P.underlying f0.type = some (.int .u8)) (h1 : P.underlying f1.type = some (.int .u32))
    (hval : Value.okWide P W r b0 t v) (hd : DataW.Trod enc P W 0 spare held t v d ps) :
    ∃ p bits : Nat, p < 256 ∧ bits < 4294967296 ∧ VR (ctx0 W) (.agg [.int .u8 (p : Nat), .int .u32 (bits : Nat)]) v := by
  have hf : flatT P 2 t = true := by
    have g0 : flatT P 1 f0.type = true := by unfold flatT; rw [h0]
    have g1 : flatT P 1 f1.type = true := by unfold flatT; rw [h1]
    unfold flatT; rw [ht]
    simp [rowed, o0, o1, c0, c1, ct, g0, g1]
  obtain ⟨ys, hv, hs⟩ := flat_vr (.inl ⟨_, ht⟩) hf hval hd
  unfold Sh at hs
  rw [ht] at hs
  obtain ⟨hl, hs⟩ := hs
  rw [ct] at hl
  have s0 := hs f0 (by simp)
  have s1 := hs f1 (by simp)
  rw [o0, c0] at s0
  rw [o1, c1] at s1
  obtain ⟨p, hp, hp2⟩ := sh_nat h0 (by decide) s0
  obtain ⟨b, hb, hb2⟩ := sh_nat h1 (by decide) s1
  match ys, hl with
  | [x, y], _ =>
    simp at hp hb
    subst hp hb
    have m1 : IntKind.u8.max = 255 := by decide
    have m2 : IntKind.u32.max = 4294967295 := by decide
    exact ⟨p, b, by omega, by omega, hv⟩

/-- an array of bytes -/
theorem bytes_vr {t e : TypeId} {m : Nat} {v : Value} {d : DataW H} {ps : List MemPlace} {r : Reach} {b0 : Nat}
    (ht : P.underlying t = some (.array m e)) (he : P.underlying e = some (.int .u8)) (ce : P.cellsOf e = 1) (ct : P.cellsOf t = m)
    (hval : Value.okWide P W r b0 t v) (hd : DataW.Trod enc P W 0 spare held t v d ps) :
    ∃ f : Nat → Nat, (∀ i, f i < 256) ∧ VR (ctx0 W) (.agg ((List.range m).map fun i => .int .u8 ((f i : Nat) : Int))) v := by
  have hf : flatT P 2 t = true := by
    have g0 : flatT P 1 e = true := by unfold flatT; rw [he]
    unfold flatT; rw [ht]
    simp [ce, ct, g0]
  obtain ⟨ys, hv, hs⟩ := flat_vr (.inr ⟨_, _, ht⟩) hf hval hd
  unfold Sh at hs
  rw [ht] at hs
  obtain ⟨hl, hs⟩ := hs
  rw [ct] at hl
  have each : ∀ i, i < m → ∃ a : Nat, ys[i]? = some (.int .u8 (a : Nat)) ∧ a < 256 := fun i hi => by
    have := hs i hi
    rw [ce, Nat.mul_one] at this
    obtain ⟨a, ha, ha2⟩ := sh_nat he (by decide) this
    have m1 : IntKind.u8.max = 255 := by decide
    refine ⟨a, ?_, by omega⟩
    have h2 : ((ys.drop i).take 1)[0]? = some (.int .u8 (a : Nat)) := by rw [ha]; rfl
    simpa using h2
  obtain ⟨Y, hY⟩ := Go.Deep.choose_lt each
  refine ⟨fun i => if i < m then Y i else 0, fun i => ?_, ?_⟩
  · simp only
    split
    · rename_i h; exact (hY i h).2
    · decide
  · have : ys = (List.range m).map fun i => AV.int .u8 (((if i < m then Y i else 0 : Nat)) : Int) := by
      apply List.ext_getElem?
      intro i
      by_cases hi : i < m
      · rw [(hY i hi).1]; simp [hi]
      · rw [List.getElem?_eq_none (by omega), List.getElem?_eq_none (by simp; omega)]
    rw [← this]; exact hv
end Go.Ab
end

section
namespace Go.Proofs.YtngoldipfgfecaaDoor.Code
open Go Go.Ab
variable {pure : Bool} {base bar : Nat} {H : Heap} {Q : AV → Heap → Prop}

/-! a list of numbers that is read while it is under construction -/
def RL (v : AV) (l : List Nat) (H : Heap) : Prop := (v = .nils ∧ l = []) ∨ ∃ id ver fz ex, v = .vec id ver 0 l.length 1 ∧ H[id]? = some (.row ver (nats l) fz ex)
theorem RL.of {l : List Nat} {H0 : Heap} {v : AV} (g : Grow 1 (nats l) H0 v H) : RL v l H := by
  rcases g with ⟨h1, rfl, _⟩ | ⟨ver, fz, h1, h2, rfl, rfl⟩
  · exact .inl ⟨rfl, nats_eq_nil.1 h1⟩
  · exact .inr ⟨H0.length, ver, fz, false, by rw [nats_length, Nat.div_one], by simp⟩
theorem RL.mono {l : List Nat} {v : AV} {H' : Heap} (h : RL v l H) (hH : ∀ (i : Nat) (b : Blk), H[i]? = some b → H'[i]? = some b) : RL v l H' := by
  rcases h with h | ⟨id, ver, fz, ex, h1, h2⟩
  · exact .inl h
  · exact .inr ⟨id, ver, fz, ex, h1, hH _ _ h2⟩
theorem RL.len {l : List Nat} {v : AV} {K : AV → Heap → List Nat → Prop} {H' : Heap} (h : RL v l H) : lenWp (some v) H' K = K (.int .i64 (l.length : Int)) H' [] := by
  rcases h with ⟨rfl, rfl⟩ | ⟨id, ver, fz, ex, rfl, _⟩ <;> rfl
theorem RL.ix {l : List Nat} {v : AV} (h : RL v l H) {i : Nat} (hi : i < l.length) : ∃ id ver, (∀ {k : IntKind} {K : AV → Heap → List Nat → Prop}, ixaSWp 1 (some v) (some (.int k (i : Int))) H K = K (.ptr id ver i) H []) ∧ aload H ⟨false, 1⟩ (.ptr id ver i) = some (.int .i64 ((l.getD i 0 : Nat) : Int)) := by
  rcases h with ⟨rfl, rfl⟩ | ⟨id, ver, fz, ex, rfl, h2⟩
  · simp at hi
  · refine ⟨id, ver, fun {k K} => ?_, ?_⟩
    · simp [go_sem, hi]
    · rw [aload_ptr h2, part_one, nats_get hi]
      simp [List.getD_eq_getElem?_getD, List.getElem?_eq_getElem hi]

/-! 19: are two lists equal -/
theorem l19 {a b : AV} {x y : List Nat} (ha : isL a x) (hb : isL b y) (hxy : x.length = y.length) (hx : x.length < 100000) {R : PQ} :
    ∀ (k i : Nat), i + k = x.length → (x.take i = y.take i) → (x = y → R (.exit 0) [(0, a), (1, b), (12, .int .i64 (x.length : Nat)), (13, .int .i64 (x.length : Nat)), (14, .bool false)] H) → (x ≠ y → R .ret [(4, .bool false)] H) →
    Wp E base bar (.loop c19_l0) [(0, a), (1, b), (12, .int .i64 (x.length : Nat)), (13, .int .i64 (i : Nat))] H R := by
  intro k
  induction k with
  | zero =>
    intro i hi ht h1 h2
    obtain rfl : i = x.length := by omega
    rw [wp_round c19_l0.eq_1]
    simp [go_sem]
    rw [List.take_length, hxy, List.take_length] at ht
    exact h1 ht
  | succ k ih =>
    intro i hi ht h1 h2
    have hlt : i < x.length := by omega
    have hlt2 : i < y.length := by omega
    rw [wp_round c19_l0.eq_1]
    by_cases he : x[i] = y[i]
    · simp [go_sem, hlt, ha.ix hlt, hb.ix hlt2, he, i64_suc (show i < 1000000 by omega)]
      refine ih (i + 1) (by omega) ?_ h1 h2
      rw [List.take_add_one, List.take_add_one, ht, List.getElem?_eq_getElem hlt, List.getElem?_eq_getElem hlt2, he]
    · have hne : ¬ ((x[i] : Nat) : Int) = ((y[i] : Nat) : Int) := fun h => he (by omega)
      simp [go_sem, hlt, ha.ix hlt, hb.ix hlt2, hne]
      exact h2 fun h => he (by subst h; rfl)
theorem k19 {a b : AV} {x y : List Nat} (ha : isL a x) (hb : isL b y) (hx : x.length < 100000) (h : Q (.bool (decide (x = y))) H) : WpCall E pure base bar 19 [a, b] H Q := by
  rw [call19]
  by_cases hl : x.length = y.length
  · simp [go_sem, WpFun, c19, ha.frz, hb.frz, ha.len, hb.len, hl]
    rw [← hl]
    refine l19 ha hb hl hx x.length 0 (by omega) rfl (fun he => ?_) fun he => ?_
    · simp [go_sem]
      simpa [he] using h
    · simp [go_sem]
      simpa [he] using h
  · have hne : x ≠ y := fun h => hl (by rw [h])
    have hl' : ¬ ((x.length : Nat) : Int) = ((y.length : Nat) : Int) := fun h => hl (by omega)
    simp [go_sem, WpFun, c19, ha.frz, hb.frz, ha.len, hb.len, hl']
    simpa [hne] using h

/-! the places -/
def plF (bs : List Nat) : List Nat := bs.foldl (fun P x => if x % 16 ∈ P then P else P ++ [x % 16]) []
theorem l4a {P : List Nat} {v : AV} {n : Nat} {s : AV} {m i : Nat} (hP : RL v P H) (hl : P.length < 1000) {R : PQ} :
    ∀ (k j : Nat), j + k = P.length → ∀ fr : Bool, (fr = true ↔ n ∉ P.take j) →
    (∀ fr : Bool, (fr = true ↔ n ∉ P) → R (.exit 2) [(5, v), (39, s), (40, .int .i64 (m : Nat)), (41, .int .i64 (i : Nat)), (8, .int .i64 (n : Nat)), (9, .bool fr), (48, v), (49, .int .i64 (P.length : Nat)), (50, .int .i64 (P.length : Nat)), (51, .bool false)] H) →
    Wp E base bar (.loop c4_l0) [(5, v), (39, s), (40, .int .i64 (m : Nat)), (41, .int .i64 (i : Nat)), (8, .int .i64 (n : Nat)), (9, .bool fr), (48, v), (49, .int .i64 (P.length : Nat)), (50, .int .i64 (j : Nat))] H R := by
  intro k
  induction k with
  | zero =>
    intro j hj fr hfr h
    obtain rfl : j = P.length := by omega
    rw [List.take_length] at hfr
    rw [wp_round c4_l0.eq_1]
    simp [go_sem]
    exact h fr hfr
  | succ k ih =>
    intro j hj fr hfr h
    have hlt : j < P.length := by omega
    obtain ⟨id, ver, e1, e2⟩ := hP.ix hlt
    have hg : P.getD j 0 = P[j] := by simp [List.getD_eq_getElem?_getD, List.getElem?_eq_getElem hlt]
    have hst : ∀ b : Bool, (b = true ↔ (fr = true ∧ ¬ P.getD j 0 = n)) → (b = true ↔ n ∉ P.take (j + 1)) := fun b hb => by
      rw [hb, hfr, List.take_add_one, List.getElem?_eq_getElem hlt, hg]
      simp only [Option.toList_some, List.mem_append, List.mem_singleton, not_or]
      exact and_congr Iff.rfl ⟨fun h e => h e.symm, fun h e => h e.symm⟩
    rw [wp_round c4_l0.eq_1]
    simp only [List.getD_eq_getElem?_getD] at e2 hst hg
    cases fr
    · simp [go_sem, hlt, e1, e2, i64_suc (show j < 1000000 by omega)]
      exact ih (j + 1) (by omega) false (hst false (by simp)) h
    · simp [go_sem, hlt, e1, e2, i64_suc (show j < 1000000 by omega)]
      refine ih (j + 1) (by omega) (!(((P[j] : Nat) : Int) == (n : Int))) (hst _ ?_) h
      rw [hg]
      simp
      omega

theorem tmod_nat {x m : Nat} : (x : Int).tmod (m : Int) = ((x % m : Nat) : Int) := by
  rw [Int.tmod_eq_emod_of_nonneg (by omega)]; rfl
theorem rem_nat {x m : Nat} (hm : m ≠ 0) : abin .rem (.int .i64 (x : Int)) (.int .i64 (m : Int)) = some (.int .i64 ((x % m : Nat) : Int)) := by
  show (if (m : Int) = 0 then none else some (AV.int .i64 ((x : Int).tmod (m : Int)))) = _
  rw [if_neg (by omega), tmod_nat]
theorem pl_snoc {bs : List Nat} {x : Nat} : plF (bs ++ [x]) = if x % 16 ∈ plF bs then plF bs else plF bs ++ [x % 16] := by
  unfold plF; rw [List.foldl_append]; rfl
theorem pl_len {bs : List Nat} : (plF bs).length ≤ bs.length := by
  have : ∀ (r P : List Nat), (r.foldl (fun P x => if x % 16 ∈ P then P else P ++ [x % 16]) P).length ≤ P.length + r.length := by
    intro r
    induction r with
    | nil => intro P; simp
    | cons x r ih =>
      intro P
      rw [List.foldl_cons]
      refine Nat.le_trans (ih _) ?_
      split
      · simp only [List.length_cons]; omega
      · simp only [List.length_append, List.length_cons, List.length_nil]; omega
  simpa [plF] using this bs []
theorem l4 {bs : List Nat} {m : Nat} {H0 : Heap} {sv : AV} (hm : m ≤ bs.length) (hb7 : bs.length ≤ 7) (hlt : ∀ x ∈ bs, x < 256) (hbar : bar ≤ H0.length) (hbase : base ≤ H0.length)
    (hix : ∀ i, i < m → ∃ p, (∀ {Hc : Heap} {k : IntKind} {K : AV → Heap → List Nat → Prop}, ixaSWp 1 (some sv) (some (.int k (i : Int))) Hc K = K p Hc []) ∧ ∀ {v : AV} {l : List AV} {Hc : Heap}, Grow 1 l H0 v Hc → aload Hc ⟨false, 1⟩ p = some (.int .u8 ((bs.getD i 0 : Nat) : Int))) {R : PQ} :
    ∀ (k i : Nat), i + k = m → ∀ (v : AV) (H : Heap), Grow 1 (nats (plF (bs.take i))) H0 v H →
    (∀ v' H', Grow 1 (nats (plF (bs.take m))) H0 v' H' → R (.exit 0) [(5, v'), (39, sv), (40, .int .i64 (m : Nat)), (41, .int .i64 (m : Nat)), (42, .bool false)] H') →
    Wp E base bar (.loop c4_l1) [(5, v), (39, sv), (40, .int .i64 (m : Nat)), (41, .int .i64 (i : Nat))] H R := by
  intro k
  induction k with
  | zero =>
    intro i hi v H g h
    obtain rfl : i = m := by omega
    rw [wp_round c4_l1.eq_1]
    simp [go_sem]
    exact h v H g
  | succ k ih =>
    intro i hi v H g h
    have hlt1 : i < m := by omega
    have hib : i < bs.length := by omega
    obtain ⟨p, e1, e2⟩ := hix i hlt1
    have e3 := e2 g
    have hx : bs.getD i 0 = bs[i] := by simp [List.getD_eq_getElem?_getD, List.getElem?_eq_getElem hib]
    have hx2 : bs[i] < 256 := hlt _ (List.getElem_mem hib)
    rw [hx] at e3
    have htk : bs.take (i + 1) = bs.take i ++ [bs[i]] := by rw [List.take_add_one, List.getElem?_eq_getElem hib]; rfl
    generalize bs[i] = x at *
    have e4 : IntKind.i64.wrap (x : Int) = (x : Int) := i64_nat (by omega)
    have e5 : abin .rem (.int .i64 (x : Int)) (.int .i64 16) = some (.int .i64 ((x % 16 : Nat) : Int)) := rem_nat (m := 16) (by decide)
    generalize hr : x % 16 = r at *
    have hlen := pl_len (bs := bs.take i)
    rw [List.length_take] at hlen
    have hstep : ∀ (v : AV) (H : Heap), Grow 1 (nats (plF (bs.take (i + 1)))) H0 v H → Wp E base bar (.loop c4_l1) [(5, v), (39, sv), (40, .int .i64 (m : Nat)), (41, .int .i64 ((i : Int) + 1))] H R := fun v H g => by
      have := ih (i + 1) (by omega) v H g h
      exact this
    rw [htk, pl_snoc, hr] at hstep
    rw [wp_round c4_l1.eq_1]
    simp [go_sem, hlt1, e1, e3, e4, e5, (RL.of g).len]
    refine l4a (n := r) (RL.of g) (by omega) (plF (bs.take i)).length 0 (by omega) true (by simp) fun fr hfr => ?_
    cases fr
    · have hm : r ∈ plF (bs.take i) := Decidable.byContradiction fun hc => by simpa using hfr.2 hc
      rw [if_pos hm] at hstep
      simp [go_sem, i64_suc (show i < 1000000 by omega)]
      exact hstep v H g
    · have hm : r ∉ plF (bs.take i) := hfr.1 rfl
      rw [if_neg hm] at hstep
      simp [go_sem, aop, fillA, setCells, chunks]
      refine g.nat hbar hbase (by omega) fun v' H' tc g' => ?_
      simp [go_sem, i64_suc (show i < 1000000 by omega)]
      exact hstep v' H' g'
theorem pl_lt {bs : List Nat} : ∀ x ∈ plF bs, x < 16 := by
  have : ∀ (r P : List Nat), (∀ x ∈ P, x < 16) → ∀ x ∈ r.foldl (fun P x => if x % 16 ∈ P then P else P ++ [x % 16]) P, x < 16 := by
    intro r
    induction r with
    | nil => intro P h; exact h
    | cons y r ih =>
      intro P h
      rw [List.foldl_cons]
      refine ih _ fun x hx => ?_
      split at hx
      · exact h x hx
      · rcases List.mem_append.1 hx with hx | hx
        · exact h x hx
        · rw [List.mem_singleton] at hx; subst hx; exact Nat.mod_lt _ (by decide)
  exact this bs [] (by simp)
theorem pl_nodup {bs : List Nat} : (plF bs).Nodup := by
  have : ∀ (r P : List Nat), P.Nodup → (r.foldl (fun P x => if x % 16 ∈ P then P else P ++ [x % 16]) P).Nodup := by
    intro r
    induction r with
    | nil => intro P h; exact h
    | cons y r ih =>
      intro P h
      rw [List.foldl_cons]
      refine ih _ ?_
      split
      · exact h
      · rename_i hn
        rw [List.nodup_append]
        refine ⟨h, by simp, fun a ha b hb he => ?_⟩
        rw [List.mem_singleton] at hb
        exact hn (hb ▸ he ▸ ha)
  exact this bs [] List.nodup_nil
theorem pl_pos {bs : List Nat} (h : bs ≠ []) : plF bs ≠ [] := by
  have : ∀ (r P : List Nat), P ≠ [] → r.foldl (fun P x => if x % 16 ∈ P then P else P ++ [x % 16]) P ≠ [] := by
    intro r
    induction r with
    | nil => intro P h; exact h
    | cons y r ih =>
      intro P h
      rw [List.foldl_cons]
      refine ih _ ?_
      split
      · exact h
      · simp
  cases bs with
  | nil => exact absurd rfl h
  | cons x r =>
    unfold plF
    rw [List.foldl_cons]
    exact this r _ (by simp)

/-! how far the places are -/
theorem l4b {P : List Nat} {v : AV} {H0 : Heap} (hP : RL v P H0) (hl : P.length ≤ 7) (hlt : ∀ x ∈ P, x < 16) (hbar : bar ≤ H0.length) (hbase : base ≤ H0.length) {R : PQ} :
    ∀ (k i : Nat), i + k = P.length → ∀ (u : AV) (H : Heap), Grow 1 (nats (P.take i)) H0 u H →
    (∀ u' H', Grow 1 (nats P) H0 u' H' → R (.exit 4) [(5, v), (12, open4), (13, u'), (69, v), (70, .int .i64 (P.length : Nat)), (71, .int .i64 (P.length : Nat)), (72, .bool false)] H') →
    Wp E base bar (.loop c4_l2) [(5, v), (12, open4), (13, u), (69, v), (70, .int .i64 (P.length : Nat)), (71, .int .i64 (i : Nat))] H R := by
  intro k
  induction k with
  | zero =>
    intro i hi u H g h
    obtain rfl : i = P.length := by omega
    rw [List.take_length] at g
    rw [wp_round c4_l2.eq_1]
    simp [go_sem]
    exact h u H g
  | succ k ih =>
    intro i hi u H g h
    have hlt1 : i < P.length := by omega
    obtain ⟨id, ver, e1, e2⟩ := (hP.mono (H' := H) fun _ _ hb => g.get hb).ix hlt1
    have hx : P.getD i 0 = P[i] := by simp [List.getD_eq_getElem?_getD, List.getElem?_eq_getElem hlt1]
    have hx2 : P[i] < 16 := hlt _ (List.getElem_mem hlt1)
    have htk : P.take (i + 1) = P.take i ++ [P[i]] := by rw [List.take_add_one, List.getElem?_eq_getElem hlt1]; rfl
    rw [hx] at e2
    generalize P[i] = x at *
    have c13 := fun (Q : AV → Heap → Prop) => call13 (pure := false) (base := base) (bar := bar) (H := H) (Q := Q) hx2
    rw [wp_round c4_l2.eq_1]
    simp [go_sem, hlt1, e1, e2, call10b hx2, c13, aop, fillA, setCells, chunks]
    refine g.nat hbar hbase (by rw [List.length_take]; omega) fun u' H' tc g' => ?_
    rw [← htk] at g'
    simp [go_sem, i64_suc (show i < 1000000 by omega)]
    exact ih (i + 1) (by omega) u' H' g' h

/-! the contest of the places -/
def HX (H2 : Heap) (n : Nat) (q : AV) : Heap := H2 ++ [.row 0 [.int .i64 (n : Int), q] 0 true]
theorem HX_len {H2 : Heap} {n : Nat} {q : AV} : (HX H2 n q).length = H2.length + 1 := by simp [HX]
theorem HX_get {H2 : Heap} {n : Nat} {q : AV} : (HX H2 n q)[H2.length]? = some (.row 0 [.int .i64 (n : Int), q] 0 true) := by simp [HX]
theorem HX_set {H2 : Heap} {n : Nat} {q q' : AV} : (HX H2 n q).set H2.length (.row 0 [.int .i64 (n : Int), q'] 0 true) = HX H2 n q' := by simp [HX]
theorem HX_old {H2 : Heap} {n : Nat} {q : AV} {i : Nat} {b : Blk} (h : H2[i]? = some b) : (HX H2 n q)[i]? = some b := by
  have : i < H2.length := by
    rcases Nat.lt_or_ge i H2.length with h' | h'
    · exact h'
    · rw [List.getElem?_eq_none h'] at h; cases h
  unfold HX
  rw [List.getElem?_append_left this]; exact h
theorem grow_slot2 {cells : List AV} {H0 : Heap} {v : AV} (g : Grow 2 cells H0 v H) : v.isTup = false ∧ v.cells = [v] := by
  rcases g with ⟨_, rfl, _⟩ | ⟨_, _, _, _, rfl, _⟩ <;> exact ⟨rfl, rfl⟩
theorem l4c {P : List Nat} {n bits a : Nat} {u : AV} {H2 : Heap} (hu : RL u P H2) (hn : n = P.length) (h7 : n ≤ 7) (ha : a < n)
    (hbits : ∀ x y, y < x → x < n → bits.testBit (tri x + y) = !decide (P.getD x 0 < P.getD y 0)) (hbar : bar ≤ H2.length) (hbase : base ≤ H2.length) {R : PQ} :
    ∀ (k b : Nat), b + k = a → ∀ (l : List ZZ) (f : Nat → Nat → Bool) (q : AV) (Hc : Heap), MadeTo n bits a b l f → Grow 2 (prs l) (HX H2 n q) q Hc →
    (∀ l' f' q' Hc', MadeTo n bits a a l' f' → Grow 2 (prs l') (HX H2 n q') q' Hc' →
      R (.exit 8) [(13, u), (20, .ptr H2.length 0 0), (106, .int .i64 (n : Nat)), (107, .int .i64 (a : Nat)), (21, .int .i64 (a : Nat)), (110, .int .i64 (a : Nat)), (111, .int .i64 (a : Nat)), (112, .bool false)] Hc') →
    Wp E base bar (.loop c4_l3) [(13, u), (20, .ptr H2.length 0 0), (106, .int .i64 (n : Nat)), (107, .int .i64 (a : Nat)), (21, .int .i64 (a : Nat)), (110, .int .i64 (a : Nat)), (111, .int .i64 (b : Nat))] Hc R := by
  intro k
  induction k with
  | zero =>
    intro b hb l f q Hc hm g h
    obtain rfl : b = a := by omega
    rw [wp_round c4_l3.eq_1]
    simp [go_sem]
    exact h l f q Hc hm g
  | succ k ih =>
    intro b hb l f q Hc hm g h
    have hlt : b < a := by omega
    have hll := hm.len
    have ht : tri a + b < 28 := (by decide : ∀ a, a < 7 → ∀ b, b < a → tri a + b < 28) a (by omega) b hlt
    have hul := hu.mono (H' := Hc) fun _ _ hb => g.get (HX_old hb)
    obtain ⟨i1, v1, e1, e2⟩ := hul.ix (i := a) (by omega)
    obtain ⟨i2, v2, e3, e4⟩ := hul.ix (i := b) (by omega)
    have lq : aload Hc ⟨false, 1⟩ (.ptr H2.length 0 1) = some q := by rw [aload_ptr (g.get HX_get)]; rfl
    have hgl := g.len
    rw [HX_len] at hgl
    have hbb := hbits a b hlt ha
    generalize P.getD a 0 = fa at *
    generalize P.getD b 0 = fb at *
    have key : ∀ x y : Nat, ((bits.testBit (tri a + b) = true ∧ x = b ∧ y = a) ∨ (bits.testBit (tri a + b) = false ∧ x = a ∧ y = b)) → ∀ q' H', Grow 2 (prs (l ++ [((x : Int), (y : Int))])) (HX H2 n q) q' H' →
        Wp E base bar (.loop c4_l3) [(13, u), (20, .ptr H2.length 0 0), (106, .int .i64 (n : Nat)), (107, .int .i64 (a : Nat)), (21, .int .i64 (a : Nat)), (110, .int .i64 (a : Nat)), (111, .int .i64 ((b : Int) + 1))]
          (H'.set H2.length (.row 0 [.int .i64 (n : Int), q'] 0 true)) R := fun x y hxy q' H' g' => by
      have g2 := g'.set (i := H2.length) (b := .row 0 [.int .i64 (n : Int), q'] 0 true) (by rw [HX_len]; omega)
      rw [HX_set] at g2
      exact ih (b + 1) (by omega) _ _ q' _ (hm.put hlt ha hxy) g2 h
    rw [wp_round c4_l3.eq_1]
    by_cases hc : fa < fb
    · have hc' : (fa : Int) < (fb : Int) := by omega
      simp only [hc, decide_true, Bool.not_true] at hbb
      simp [go_sem, hlt, e1, e2, e3, e4, hc', lq, aop, fillA, setCells, chunks]
      refine g.pair (p := ((a : Int), (b : Int))) (by rw [HX_len]; omega) (by rw [HX_len]; omega) (by omega) fun q' H' tc g' => ?_
      obtain ⟨s1, s2⟩ := grow_slot2 g'
      simp [go_sem]
      rw [storeWp_ptr (size := 1) (g'.get HX_get) s1 (by rw [s2]; rfl) (by omega) (by simp) (by omega) (.inl (by omega))]
      simp [go_sem, s2, setCells, i64_suc (show b < 1000000 by omega)]
      exact key a b (.inr ⟨hbb, rfl, rfl⟩) q' H' g'
    · have hc' : ¬ (fa : Int) < (fb : Int) := by omega
      simp only [hc, decide_false, Bool.not_false] at hbb
      simp [go_sem, hlt, e1, e2, e3, e4, hc', lq, aop, fillA, setCells, chunks]
      refine g.pair (p := ((b : Int), (a : Int))) (by rw [HX_len]; omega) (by rw [HX_len]; omega) (by omega) fun q' H' tc g' => ?_
      obtain ⟨s1, s2⟩ := grow_slot2 g'
      simp [go_sem]
      rw [storeWp_ptr (size := 1) (g'.get HX_get) s1 (by rw [s2]; rfl) (by omega) (by simp) (by omega) (.inl (by omega))]
      simp [go_sem, s2, setCells, i64_suc (show b < 1000000 by omega)]
      exact key b a (.inl ⟨hbb, rfl, rfl⟩) q' H' g'
theorem l4d {P : List Nat} {n bits : Nat} {u : AV} {H2 : Heap} (hu : RL u P H2) (hn : n = P.length) (h7 : n ≤ 7)
    (hbits : ∀ x y, y < x → x < n → bits.testBit (tri x + y) = !decide (P.getD x 0 < P.getD y 0)) (hbar : bar ≤ H2.length) (hbase : base ≤ H2.length) {R : PQ} :
    ∀ (k a : Nat), a + k = n → ∀ (l : List ZZ) (f : Nat → Nat → Bool) (q : AV) (Hc : Heap), MadeTo n bits a 0 l f → Grow 2 (prs l) (HX H2 n q) q Hc →
    (∀ l' f' q' Hc', MadeTo n bits n 0 l' f' → Grow 2 (prs l') (HX H2 n q') q' Hc' →
      R (.exit 6) [(13, u), (20, .ptr H2.length 0 0), (106, .int .i64 (n : Nat)), (107, .int .i64 (n : Nat)), (108, .bool false)] Hc') →
    Wp E base bar (.loop c4_l4) [(13, u), (20, .ptr H2.length 0 0), (106, .int .i64 (n : Nat)), (107, .int .i64 (a : Nat))] Hc R := by
  intro k
  induction k with
  | zero =>
    intro a ha l f q Hc hm g h
    obtain rfl : a = n := by omega
    rw [wp_round c4_l4.eq_1]
    simp [go_sem]
    exact h l f q Hc hm g
  | succ k ih =>
    intro a ha l f q Hc hm g h
    have hlt : a < n := by omega
    rw [wp_round c4_l4.eq_1]
    simp [go_sem, hlt]
    refine l4c hu hn h7 hlt hbits hbar hbase a 0 (by omega) l f q Hc hm g fun l' f' q' Hc' hm' g' => ?_
    have := ih (a + 1) (by omega) l' f' q' Hc' hm'.next g' h
    simp [go_sem, i64_suc (show a < 1000000 by omega)]
    exact this
end Go.Proofs.YtngoldipfgfecaaDoor.Code
end

section
namespace Go.Proofs.YtngoldipfgfecaaDoor.Code
open Go Go.Ab

/-! numbers with given digits -/
theorem bits_ex (q : Nat → Bool) : ∀ k : Nat, ∃ T : Nat, ∀ i, T.testBit i = (decide (i < k) && q i)
  | 0 => ⟨0, fun i => by simp⟩
  | k + 1 => by
    obtain ⟨T, hT⟩ := bits_ex q k
    cases hq : q k
    · refine ⟨T, fun i => ?_⟩
      rw [hT]
      by_cases h : i = k
      · subst h; simp [hq]
      · by_cases h1 : i < k
        · simp [h1, show i < k + 1 by omega]
        · simp [h1, show ¬ i < k + 1 by omega]
    · refine ⟨T ||| 2 ^ k, fun i => ?_⟩
      rw [Nat.testBit_or, hT, Nat.testBit_two_pow]
      by_cases h : i = k
      · subst h; simp [hq]
      · by_cases h1 : i < k
        · simp [h1, show i < k + 1 by omega, show ¬ k = i by omega]
        · simp [h1, show ¬ i < k + 1 by omega, show ¬ k = i by omega]
def prsL : List (Nat × Nat) := (List.range 7).flatMap fun x => (List.range x).map fun y => (x, y)
theorem prsL_get : ∀ x, x < 7 → ∀ y, y < x → prsL[tri x + y]? = some (x, y) := by decide
theorem bits_of (p : Nat → Nat → Bool) : ∃ T : Nat, ∀ x y, y < x → x < 7 → T.testBit (tri x + y) = p x y := by
  obtain ⟨T, hT⟩ := bits_ex (fun i => match prsL[i]? with | some (x, y) => p x y | none => false) 28
  refine ⟨T, fun x y h1 h2 => ?_⟩
  have h3 : tri x + y < 28 := (by decide : ∀ a, a < 7 → ∀ b, b < a → tri a + b < 28) x h2 y h1
  rw [hT, prsL_get x h2 y h1]
  simp [h3]

/-! a contest by places: the law -/
section
variable {n : Nat} {f : Nat → Nat → Bool} {F : Nat → Nat}
/-- who is nearer wins -/
structure Near (n : Nat) (f : Nat → Nat → Bool) (F : Nat → Nat) : Prop where
  beat : ∀ x y, x < n → y < n → (f x y = true ↔ F x < F y)
  inj : ∀ x y, x < n → y < n → F x = F y → x = y
/-- those before and behind one in a list in order -/
theorem sort_cut : ∀ {L : List Nat} {k : Nat}, (∀ x ∈ L, x < n) → L.Pairwise (fun a b => F a < F b) → Near n f F → ∀ hk : k < L.length,
    L.filter (fun y => f y L[k]) = L.take k ∧ L.filter (f L[k]) = L.drop (k + 1)
  | [], k, _, _, _, hk => by simp at hk
  | x :: r, 0, hL, hs, hN, hk => by
    have hs' := List.pairwise_cons.1 hs
    have hx : x < n := hL x (List.mem_cons_self ..)
    have hxx : f x x = false := by
      cases h : f x x
      · rfl
      · exact absurd ((hN.beat x x hx hx).1 h) (Nat.lt_irrefl _)
    have h1 : ∀ y ∈ r, f y x = false := fun y hy => by
      cases h : f y x
      · rfl
      · have a := (hN.beat y x (hL y (List.mem_cons_of_mem _ hy)) hx).1 h
        have b := hs'.1 y hy
        omega
    have h2 : ∀ y ∈ r, f x y = true := fun y hy => (hN.beat x y hx (hL y (List.mem_cons_of_mem _ hy))).2 (hs'.1 y hy)
    constructor
    · simp only [List.getElem_cons_zero, List.take_zero]
      rw [List.filter_eq_nil_iff]
      intro y hy
      rcases List.mem_cons.1 hy with rfl | hy
      · simp [hxx]
      · simp [h1 y hy]
    · simp only [List.getElem_cons_zero]
      rw [List.filter_cons, hxx]
      simp only [Bool.false_eq_true, if_false, Nat.zero_add, List.drop_succ_cons, List.drop_zero]
      exact List.filter_eq_self.2 h2
  | x :: r, k + 1, hL, hs, hN, hk => by
    have hs' := List.pairwise_cons.1 hs
    have hx : x < n := hL x (List.mem_cons_self ..)
    have hk' : k < r.length := by simpa using hk
    obtain ⟨i1, i2⟩ := sort_cut (fun y hy => hL y (List.mem_cons_of_mem _ hy)) hs'.2 hN hk'
    have hm : r[k] ∈ r := List.getElem_mem hk'
    have hrk : r[k] < n := hL _ (List.mem_cons_of_mem _ hm)
    have hlt := hs'.1 _ hm
    have h1 : f x r[k] = true := (hN.beat _ _ hx hrk).2 hlt
    have h2 : f r[k] x = false := by
      cases h : f r[k] x
      · rfl
      · have := (hN.beat _ _ hrk hx).1 h; omega
    simp only [List.getElem_cons_succ, List.filter_cons, h1, h2, if_true, i1, i2]
    simp
/-- a list of all in order -/
structure Full (n : Nat) (F : Nat → Nat) (L : List Nat) : Prop where
  nodup : L.Nodup
  lt : ∀ x ∈ L, x < n
  len : L.length = n
  sort : L.Pairwise (fun a b => F a < F b)
theorem Full.perm {L : List Nat} (h : Full n F L) : L.Perm (List.range n) := by
  rw [List.perm_ext_iff_of_nodup h.nodup List.nodup_range]
  intro u
  rw [List.mem_range]
  refine ⟨h.lt u, fun hu => Decidable.byContradiction fun hc => ?_⟩
  have := sub_len (l := u :: L) (m := List.range n) (List.nodup_cons.2 ⟨hc, h.nodup⟩) (fun x hx => by
    rcases List.mem_cons.1 hx with rfl | hx
    · exact List.mem_range.2 hu
    · exact List.mem_range.2 (h.lt x hx))
  have hl := h.len
  simp only [List.length_cons, List.length_range] at this
  omega
theorem Full.before (hN : Near n f F) {L : List Nat} (h : Full n F L) {k : Nat} (hk : k < L.length) : ((List.range n).filter (fun y => f y L[k])).length = k := by
  rw [← (h.perm.filter _).length_eq, (sort_cut h.lt h.sort hN hk).1, List.length_take]
  omega
theorem Full.behind (hN : Near n f F) {L : List Nat} (h : Full n F L) {k : Nat} (hk : k < L.length) : ((List.range n).filter (f L[k])).length = n - 1 - k := by
  rw [← (h.perm.filter _).length_eq, (sort_cut h.lt h.sort hN hk).2, List.length_drop, h.len]
  omega
theorem Full.uniq (hN : Near n f F) {L M : List Nat} (h : Full n F L) (h' : Full n F M) : L = M := by
  apply List.ext_getElem (by rw [h.len, h'.len])
  intro k h1 h2
  have hm : L[k] ∈ M := h'.perm.mem_iff.2 (h.perm.mem_iff.1 (List.getElem_mem h1))
  obtain ⟨j, hj, e⟩ := List.mem_iff_getElem.1 hm
  have a := h.before hN h1
  have b := h'.before hN hj
  rw [e] at b
  obtain rfl : j = k := by omega
  exact e.symm
theorem chain_sort (hN : Near n f F) : ∀ {L : List Nat}, (∀ x ∈ L, x < n) → chainL f L → L.Pairwise (fun a b => F a < F b)
  | [], _, _ => List.Pairwise.nil
  | [a], _, _ => List.pairwise_singleton _ _
  | a :: b :: r, hL, h => by
    have ha : a < n := hL a (List.mem_cons_self ..)
    have hb : b < n := hL b (List.mem_cons_of_mem _ (List.mem_cons_self ..))
    have ih := chain_sort hN (L := b :: r) (fun x hx => hL x (List.mem_cons_of_mem _ hx)) h.2
    have hab := (hN.beat a b ha hb).1 h.1
    refine List.pairwise_cons.2 ⟨fun y hy => ?_, ih⟩
    rcases List.mem_cons.1 hy with rfl | hy
    · exact hab
    · have := (List.pairwise_cons.1 ih).1 y hy; omega
theorem full_of (hN : Near n f F) {L : List Nat} (h : L ∈ rowsR f n n []) : Full n F L := by
  obtain ⟨hv, hl⟩ := rows_iff.1 h
  exact ⟨hv.nodup, hv.lt, hl, chain_sort hN hv.lt hv.chain⟩
theorem rows_single (hN : Near n f F) (hone : ∀ x y, x < n → y < n → x ≠ y → f x y = !f y x) : ∃ L, rowsR f n n [] = [L] ∧ Full n F L := by
  have h1 := rows_ne hone
  have h2 := rowsR_nodup (f := f) (n := n) n []
  have h3 : ∀ L ∈ rowsR f n n [], Full n F L := fun L hL => full_of hN hL
  generalize rowsR f n n [] = R at h1 h2 h3
  cases R with
  | nil => exact absurd rfl h1
  | cons L r =>
    cases r with
    | nil => exact ⟨L, rfl, h3 L (List.mem_cons_self ..)⟩
    | cons M r =>
      exfalso
      have e := (h3 L (List.mem_cons_self ..)).uniq hN (h3 M (List.mem_cons_of_mem _ (List.mem_cons_self ..)))
      exact (List.nodup_cons.1 h2).1 (by rw [e]; exact List.mem_cons_self ..)
theorem rch_near {w : Nat → Nat} (hN : Near n f F) (hw : ∀ x y, (w x).testBit y = f x y) (hd : ∀ x y, f x y = true → x < n ∧ y < n) {x y : Nat} (h : Rch w x y) : y = x ∨ (x < n ∧ y < n ∧ F x < F y) := by
  induction h with
  | refl => exact .inl rfl
  | @step y z h1 h2 ih =>
    rw [hw] at h2
    obtain ⟨hy, hz⟩ := hd _ _ h2
    have h3 := (hN.beat _ _ hy hz).1 h2
    rcases ih with rfl | ⟨a, _, b⟩
    · exact .inr ⟨hy, hz, h3⟩
    · exact .inr ⟨a, hz, by omega⟩
theorem mono_id {h : Nat → Nat} (hm : ∀ i j, i < j → j < n → h i < h j) (hb : ∀ i, i < n → h i < n) {k : Nat} (hk : k < n) : h k = k := by
  have lo : ∀ k, k < n → k ≤ h k := by
    intro k
    induction k with
    | zero => intro _; exact Nat.zero_le _
    | succ k ih =>
      intro hk
      have a := ih (by omega)
      have b := hm k (k + 1) (by omega) hk
      omega
  have hi : ∀ j, j < n → h (n - 1 - j) + j ≤ n - 1 := by
    intro j
    induction j with
    | zero => intro hj; have := hb (n - 1) (by omega); simp; omega
    | succ j ih =>
      intro hj
      have a := ih (by omega)
      have b := hm (n - 1 - (j + 1)) (n - 1 - j) (by omega) (by omega)
      omega
  have a := lo k hk
  have b := hi (n - 1 - k) (by omega)
  rw [show n - 1 - (n - 1 - k) = k by omega] at b
  omega
theorem all_same {x : Nat} : ∀ {l : List Nat}, l ≠ [] → l.Pairwise (· < ·) → (∀ y ∈ l, y = x) → l = [x]
  | [], h, _, _ => absurd rfl h
  | [y], _, _, h => by rw [h y (List.mem_cons_self ..)]
  | y :: z :: r, _, hp, h => by
    have := (List.pairwise_cons.1 hp).1 z (List.mem_cons_self ..)
    rw [h y (List.mem_cons_self ..), h z (List.mem_cons_of_mem _ (List.mem_cons_self ..))] at this
    exact absurd this (Nat.lt_irrefl _)
theorem groups_near {w : Nat → Nat} {G : List (List Nat)} {L : List Nat} (hN : Near n f F) (hw : ∀ x y, (w x).testBit y = f x y) (hd : ∀ x y, f x y = true → x < n ∧ y < n) (hp : Parts n w G) (hL : Full n F L) :
    G = L.map fun x => [x] := by
  have hA : ∀ a b, a < n → b < n → idxG G a = idxG G b → a = b := fun a b ha hb e => by
    rcases rch_near hN hw hd (hp.inside a b ha hb e) with h | ⟨_, _, h⟩
    · exact h.symm
    · rcases rch_near hN hw hd (hp.inside b a hb ha e.symm) with h' | ⟨_, _, h'⟩
      · exact h'
      · omega
  have hB : ∀ a b, a < n → b < n → F a < F b → idxG G a < idxG G b := fun a b ha hb h => by
    rcases Nat.lt_trichotomy (idxG G a) (idxG G b) with h1 | h1 | h1
    · exact h1
    · have := hA a b ha hb h1; subst this; omega
    · have := hp.order b a hb ha h1
      rw [hw] at this
      have := (hN.beat b a hb ha).1 this
      omega
  have hlen := hL.len
  have hlt : ∀ i (hi : i < L.length), L[i] < n := fun i hi => hL.lt _ (List.getElem_mem hi)
  have hC : ∀ k (hk : k < L.length), idxG G L[k] = k := fun k hk => by
    have key := mono_id (n := n) (h := fun i => idxG G (L.getD i 0)) (fun i j hij hj => by
      have hi' : i < L.length := by omega
      have hj' : j < L.length := by omega
      simp only [List.getD_eq_getElem?_getD, List.getElem?_eq_getElem hi', List.getElem?_eq_getElem hj', Option.getD_some]
      exact hB _ _ (hlt i hi') (hlt j hj') (List.pairwise_iff_getElem.1 hL.sort i j hi' hj' hij)) (fun i hi => by
      have hi' : i < L.length := by omega
      simp only [List.getD_eq_getElem?_getD, List.getElem?_eq_getElem hi', Option.getD_some]
      obtain ⟨h1, _⟩ := hp.has _ (hlt i hi')
      have := hp.len
      omega) (k := k) (by omega)
    simpa [List.getD_eq_getElem?_getD, List.getElem?_eq_getElem hk] using key
  have hlenG : G.length = n := by
    have h1 := hp.len
    rcases Nat.eq_zero_or_pos n with h0 | h0
    · omega
    · have hk : n - 1 < L.length := by omega
      obtain ⟨h2, _⟩ := hp.has _ (hlt (n - 1) hk)
      rw [hC] at h2
      omega
  apply List.ext_getElem (by simp [hlenG, hlen])
  intro k h1 h2
  have hk : k < L.length := by simpa using h2
  rw [List.getElem_map]
  have hin : G[k] ∈ G := List.getElem_mem h1
  obtain ⟨e1, e2, e3, _⟩ := hp.each _ hin
  refine all_same e2 e1 fun y hy => ?_
  have hy1 := hp.idx k h1 y hy
  exact hA y L[k] (e3 y hy) (hlt k hk) (by rw [hy1, hC k hk])
theorem best_near {w : Nat → Nat} {L : List Nat} (hN : Near n f F) (hbd : BoardW n w) (hw : ∀ x y, (w x).testBit y = f x y) (hL : Full n F L) (h1 : 1 ≤ n) : bestS n w = L.take 1 := by
  have hlen := hL.len
  have hp := hL.perm
  cases L with
  | nil => simp at hlen; omega
  | cons x0 r =>
    have hx0 : x0 < n := hL.lt _ (List.mem_cons_self ..)
    have hs := List.pairwise_cons.1 hL.sort
    have hk : ∀ x, x < n → (isBest n w x = true ↔ x = x0) := fun x hx => by
      rw [best_king hbd hw hx, king_iff hx]
      constructor
      · intro h
        have hx' : x ∈ x0 :: r := hp.mem_iff.2 (List.mem_range.2 hx)
        rcases List.mem_cons.1 hx' with h' | hr
        · exact h'
        · exfalso
          have hlt := hs.1 x hr
          rcases h x0 hx0 with h2 | h2 | ⟨u, hu, h2, h3⟩
          · subst h2; omega
          · have := (hN.beat _ _ hx hx0).1 h2; omega
          · have a := (hN.beat _ _ hx hu).1 h2
            have b := (hN.beat _ _ hu hx0).1 h3
            omega
      · rintro rfl z hz
        have hz' : z ∈ x :: r := hp.mem_iff.2 (List.mem_range.2 hz)
        rcases List.mem_cons.1 hz' with h' | hr
        · exact .inl h'
        · exact .inr (.inl ((hN.beat _ _ hx hz).2 (hs.1 z hr)))
    have hf : (x0 :: r).filter (isBest n w) = [x0] := by
      rw [List.filter_cons, if_pos ((hk x0 hx0).2 rfl)]
      congr 1
      rw [List.filter_eq_nil_iff]
      intro y hy hc
      have hy' : y < n := hL.lt _ (List.mem_cons_of_mem _ hy)
      have := (hk y hy').1 hc
      subst this
      exact (List.nodup_cons.1 hL.nodup).1 hy
    have := hp.filter (isBest n w)
    rw [hf] at this
    unfold bestS
    exact (List.singleton_perm.1 this).symm
end
end Go.Proofs.YtngoldipfgfecaaDoor.Code
end

section
namespace Go.Proofs.YtngoldipfgfecaaDoor.Code
open Go Go.Ab
variable {pure : Bool} {base bar : Nat} {H : Heap} {Q : AV → Heap → Prop}

theorem isLL_ix {v : AV} {G : List (List Nat)} (h : isLL v G) {i : Nat} (hi : i < G.length) : ∃ x, isL x G[i] ∧ (∀ {H : Heap} {k : IntKind} {K : AV → Heap → List Nat → Prop}, ixaSWp 1 (some v) (some (.int k (i : Int))) H K = K (.fp x) H []) ∧ ∀ {H : Heap} {s : Nat}, aload H ⟨false, s⟩ (.fp x) = some x := by
  rcases h with ⟨rfl, rfl⟩ | ⟨ex, vs, rfl, h⟩
  · simp at hi
  · have hl := h.length
    have hiv : i < vs.length := by omega
    have hx : ∀ {vs : List AV} {ls : List (List Nat)} (_ : allL vs ls) (i : Nat) (h1 : i < vs.length) (h2 : i < ls.length), isL vs[i] ls[i] := by
      intro vs
      induction vs with
      | nil => intro ls _ i h1; simp at h1
      | cons v r ih =>
        intro ls h i h1 h2
        cases ls with
        | nil => simp at h2
        | cons l t =>
          cases i with
          | zero => exact h.1
          | succ i => exact ih h.2 i (by simpa using h1) (by simpa using h2)
    have hx' := hx h i hiv hi
    refine ⟨vs[i], hx', fun {H k K} => ?_, fun {H s} => ?_⟩
    · simp [go_sem, List.getElem?_eq_getElem hiv]
    · rcases hx' with ⟨e, _⟩ | ⟨ex, e⟩ <;> rw [e] <;> rfl
theorem l5 {P L S : List Nat} {u rv sv gv bv : AV} {n : Nat} (hu : RL u P H) (hr : isL rv L) (hs : isL sv S) (hg : isLL gv (L.map fun x => [x])) (hP : P.length = n) (hLl : L.length = n) (hSl : S.length = n) (h7 : n ≤ 7)
    (hlt : ∀ k (hk : k < L.length), L[k] < n) (hsc : ∀ k (hk : k < L.length), S.getD L[k] 0 = n - 1 - k) (hsort : ∀ k (hk : k + 1 < L.length), P.getD L[k] 0 < P.getD L[k + 1] 0) {R : PQ} :
    ∀ (k i : Nat), i + k = n →
    R (.exit 10) [(13, u), (23, rv), (27, bv), (29, sv), (31, gv), (209, rv), (210, .int .i64 (n : Nat)), (211, .int .i64 (n : Nat)), (212, .bool false)] H →
    Wp E base bar (.loop c4_l5) [(13, u), (23, rv), (27, bv), (29, sv), (31, gv), (209, rv), (210, .int .i64 (n : Nat)), (211, .int .i64 (i : Nat))] H R := by
  intro k
  induction k with
  | zero =>
    intro i hi h
    obtain rfl : i = n := by omega
    rw [wp_round c4_l5.eq_1]
    simp [go_sem]
    exact h
  | succ k ih =>
    intro i hi h
    have hlt1 : i < n := by omega
    have hiL : i < L.length := by omega
    obtain ⟨x, hx, g1, g2⟩ := isLL_ix hg (i := i) (by simpa using hiL)
    rw [List.getElem_map] at hx
    have hLi := hlt i hiL
    have hSi := hsc i hiL
    have hnext := ih (i + 1) (by omega) h
    obtain ⟨p1, q1, a1, a2⟩ := hu.ix (i := L[i]) (by omega)
    have s1 := fun (K : AV → Heap → List Nat → Prop) => hs.ix (H := H) (K := K) (k := .i64) (show L[i] < S.length by omega)
    obtain ⟨N1, hN1⟩ : ∃ N1, N1 = n - 1 := ⟨_, rfl⟩
    obtain ⟨D, hD⟩ : ∃ D, D = n - 1 - i := ⟨_, rfl⟩
    rw [← hD] at hSi
    have hS : S[L[i]] = D := by rw [← hSi]; simp [List.getD_eq_getElem?_getD, List.getElem?_eq_getElem (show L[i] < S.length by omega)]
    have s2 : ∀ K : AV → Heap → List Nat → Prop, ixaSWp 1 (some sv) (some (.int .i64 ((L[i] : Nat) : Int))) H K = K (.fp (.int .i64 (D : Int))) H [] := fun K => by rw [s1, hS]
    clear s1
    have e1 : ¬ ((L[i] : Nat) : Int) < 0 := by omega
    have e2 : ¬ (n : Int) ≤ ((L[i] : Nat) : Int) := by omega
    have e3 : IntKind.i64.wrap ((n : Int) - 1) = (N1 : Int) := by
      rw [Go.IntWalk.i64_in _ (by omega)]; omega
    have e4 : IntKind.i64.wrap ((N1 : Int) - (i : Int)) = (D : Int) := by
      rw [Go.IntWalk.i64_in _ (by omega)]; omega
    have hc1 : isL (.lst 1 true [.int .i64 ((L[i] : Nat) : Int)]) [L[i]] := isL.lst (l := [L[i]])
    rw [wp_round c4_l5.eq_1]
    simp [go_sem, hlt1, hr.ix hiL, hu.len, hP, e1, e2, g1, g2, call7, c7, WpFun, aop, fillA, setCells, chunks]
    refine k19 hx hc1 (by simp) ?_
    have hnv : AV.noVec.noVecs [x, .lst 1 true [.int .i64 ((L[i] : Nat) : Int)]] = true := by simp [AV.noVec.noVecs, hx.noVec, AV.noVec]
    rcases Nat.eq_zero_or_pos i with h0 | h0
    · subst h0
      obtain rfl : D = N1 := by omega
      have e5 : IntKind.i64.wrap (D : Int) = (D : Int) := i64_nat (by omega)
      simp [go_sem]
      rw [s2]
      simp [go_sem, hu.len, hP, e3, e5, i64_suc (show 0 < 1000000 by omega)]
      exact hnext
    · have h1i : i - 1 + 1 = i := by omega
      have hso := hsort (i - 1) (by omega)
      have hi1 : i - 1 < L.length := by omega
      have hL1 := hlt (i - 1) hi1
      have e6 : IntKind.i64.wrap ((i : Int) - 1) = ((i - 1 : Nat) : Int) := by
        rw [Go.IntWalk.i64_in _ (by omega)]; omega
      obtain ⟨p2, q2, b1, b2⟩ := hu.ix (i := L[i - 1]) (by omega)
      simp only [h1i] at hso
      have hso' : ¬ ((P.getD L[i] 0 : Nat) : Int) ≤ ((P.getD L[i - 1] 0 : Nat) : Int) := by omega
      generalize P.getD L[i] 0 = u1 at *
      generalize P.getD L[i - 1] 0 = u2 at *
      have r1 : ∀ K : AV → Heap → List Nat → Prop, ixaSWp 1 (some rv) (some (.int .i64 ((i - 1 : Nat) : Int))) H K = K (.fp (.int .i64 ((L[i - 1] : Nat) : Int))) H [] := fun K => hr.ix hi1
      have hpos : (0 : Int) < (i : Int) := by omega
      simp [go_sem]
      rw [s2]
      simp [go_sem, hu.len, hP, e3, e4, h0, hpos, e6]
      rw [r1]
      simp [go_sem, b1, b2, a1, a2, hso', i64_suc (show i < 1000000 by omega)]
      exact hnext

/-- a call with a contest that is under construction -/
theorem own_call {f : FuncId} {cf : AFun} {n : Nat} {l : List ZZ} {q : AV} {H0 : Heap} (hcall : ∀ {args : List AV} {H : Heap} {Q : AV → Heap → Prop}, WpCall E pure base bar f args H Q ↔ frzWp E pure base bar cf Q (frzAll bar H args))
    (g : Grow 2 (prs l) H0 q H) (hb : bar ≤ H0.length) (k : ∀ (q' : AV) (H' : Heap), isP q' l → Grow 2 (prs l) H0 q H' → WpCall E pure base bar f [.agg [.int .i64 (n : Nat), q']] H' Q) :
    WpCall E pure base bar f [.agg [.int .i64 (n : Nat), q]] H Q := by
  obtain ⟨H', h1, h2, h3, h4⟩ := g.frz (d := 4) (bar := bar) (by decide) (by rw [prs_length]; exact ⟨l.length, rfl⟩) prs_plain hb
  have hq : (if prs l = [] then AV.nils else q) = q := by
    split
    · rename_i he
      rcases g with ⟨_, h, _⟩ | ⟨_, _, h, _⟩
      · exact h.symm
      · exact absurd he h
    · rfl
  rw [hq] at h2
  have ho : isP (outL 2 (prs l)) l := isP.out
  have kk := k (outL 2 (prs l)) H' ho h2
  have e1 : frzAll bar H [.agg [.int .i64 (n : Nat), q]] = some ([.agg [.int .i64 (n : Nat), outL 2 (prs l)]], H') := by
    simp [frzAll, frz.frzs, frzsW, frz_agg, frz_int, h1]
  have e2 : frzAll bar H' [.agg [.int .i64 (n : Nat), outL 2 (prs l)]] = some ([.agg [.int .i64 (n : Nat), outL 2 (prs l)]], H') := by
    simp [frzAll, frz.frzs, frzsW, frz_agg, frz_int, ho.frz]
  rw [hcall, e2] at kk
  rw [hcall, e1]
  exact kk

theorem near_of {P : List Nat} {n bits : Nat} {l : List ZZ} {f : Nat → Nat → Bool} (hm : MadeC n bits l f) (hn : P.length = n) (hnd : P.Nodup)
    (hbits : ∀ x y, y < x → x < n → bits.testBit (tri x + y) = !decide (P.getD x 0 < P.getD y 0)) : f = bitL l ∧ Near n f fun x => P.getD x 0 := by
  have hf : f = bitL l := by
    funext x y
    rw [Bool.eq_iff_iff, bitL_iff, hm.beat]
  have hinj : ∀ x y, x < n → y < n → P.getD x 0 = P.getD y 0 → x = y := fun x y hx hy h => by
    have h1 : P.getD x 0 = P[x] := by simp [List.getD_eq_getElem?_getD, List.getElem?_eq_getElem (show x < P.length by omega)]
    have h2 : P.getD y 0 = P[y] := by simp [List.getD_eq_getElem?_getD, List.getElem?_eq_getElem (show y < P.length by omega)]
    rw [h1, h2] at h
    exact (List.getElem_inj hnd).1 h
  refine ⟨hf, ⟨fun x y hx hy => ?_, hinj⟩⟩
  rcases Nat.lt_trichotomy x y with h | h | h
  · obtain ⟨_, h2⟩ := hm.won y x h hy
    rw [h2, hbits y x h hy]
    have hne : P.getD x 0 ≠ P.getD y 0 := fun e => by have := hinj x y hx hy e; omega
    simp only [Bool.not_eq_true', decide_eq_false_iff_not]
    omega
  · subst h
    simp [hm.irr]
  · obtain ⟨h1, _⟩ := hm.won x y h hx
    rw [h1, hbits x y h hx]
    simp
theorem storeA {id : Nat} {ex : Bool} {x y a b : AV} {K : AV → Heap → List Nat → Prop} (h : H[id]? = some (.row 0 [a, b] 0 ex)) (hb : bar ≤ id) (hx : x.top = 0) (hy : y.top = 0) :
    storeWp base bar 2 (.ptr id 0 0) (.agg [x, y]) H K = K (.tup []) (H.set id (.row 0 [x, y] 0 ex)) [id] := by
  rw [storeWp_ptr (size := 2) h rfl rfl (Nat.zero_le _) (by simp) hb (.inr (by simp [AV.cells, tops_cons, tops_nil, hx, hy]))]
  simp [AV.cells, setCells]
theorem first_slice {v : AV} {L : List Nat} (h : isL v L) (h1 : 1 ≤ L.length) : ∃ w, aslice H (.slc 1) v none (some (.int .i64 1)) none = some w ∧ isL w (L.take 1) := by
  rcases h with ⟨rfl, rfl⟩ | ⟨ex, rfl⟩
  · simp at h1
  · have hb : bound1 (.int .i64 1) L.length = some 1 := by simp [bound1, AV.asNat, h1]
    refine ⟨.lst 1 (ex && 1 == L.length) (nats (L.take 1)), ?_, isL.lst⟩
    simp [aslice, optBound, nats_length, hb, nats, List.map_take]
/-- bytes -/
def u8s (bs : List Nat) : List AV := bs.map fun (x : Nat) => .int .u8 (x : Int)
theorem u8s_len {bs : List Nat} : (u8s bs).length = bs.length := by simp [u8s]
theorem u8s_get {bs : List Nat} {i : Nat} (hi : i < bs.length) : (u8s bs)[i]? = some (.int .u8 ((bs.getD i 0 : Nat) : Int)) := by
  simp [u8s, List.getD_eq_getElem?_getD, List.getElem?_eq_getElem hi]
set_option maxRecDepth 8000 in
theorem near_true {bs : List Nat} {c : Nat} (hb : bs.length = 7) (hlt : ∀ x ∈ bs, x < 256) (hc : c < 256) : ∃ f H', acall E f 4 [.agg (u8s bs), .int .u8 (c : Nat)] [] = some (.bool true, H') := by
  have key : WpCall E false 0 0 4 [.agg (u8s bs), .int .u8 (c : Nat)] [] (fun v _ => v = .bool true) := by
    rw [call4]
    have hp : ∀ x ∈ u8s bs, Plain x := fun x hx => by
      simp only [u8s, List.mem_map] at hx
      obtain ⟨a, _, rfl⟩ := hx; exact Plain.int
    have e0 : frzAll 0 [] [.agg (u8s bs), .int .u8 (c : Nat)] = some ([.agg (u8s bs), .int .u8 (c : Nat)], []) := by
      simp [frzAll, frz.frzs, frzsW, frz_agg, frz_int, plains (d := 5) hp]
    rw [e0]
    have e1 : IntKind.i64.wrap (c : Int) = (c : Int) := i64_nat (by omega)
    have e2 : abin .rem (.int .i64 (c : Int)) (.int .i64 7) = some (.int .i64 ((c % 7 : Nat) : Int)) := rem_nat (m := 7) (by decide)
    have hc7 : c % 7 < 7 := Nat.mod_lt _ (by decide)
    generalize c % 7 = cm at *
    have e3 : IntKind.i64.wrap (1 + (cm : Int)) = ((cm + 1 : Nat) : Int) := by
      rw [Go.IntWalk.i64_in _ (by omega)]; omega
    have hsl : aslice [Blk.row 0 (u8s bs) 0 true] (.arr 7 1) (.ptr 0 0 0) none (some (.int .i64 ((cm : Int) + 1))) none = some (.vec 0 0 0 (cm + 1) 1) := by
      have hz : ∀ z : Nat, z ≤ 7 → aslice [Blk.row 0 (u8s bs) 0 true] (.arr 7 1) (.ptr 0 0 0) none (some (.int .i64 (z : Int))) none = some (.vec 0 0 0 z 1) := fun z hz => by
        simp [aslice, optBound, bound1, AV.asNat, u8s_len, hb, hz]
      exact hz (cm + 1) (by omega)
    simp [go_sem, WpFun, c4, e1, e2, e3, aop, Opd.evo, hsl]
    have hm7 : cm + 1 ≤ 7 := by omega
    have hm1 : 1 ≤ cm + 1 := by omega
    have hcast : ((cm : Int) + 1) = ((cm + 1 : Nat) : Int) := by omega
    rw [hcast]
    generalize cm + 1 = m at *
    refine l4 (H0 := [Blk.row 0 (u8s bs) 0 true]) (bs := bs) (by omega) (by omega) hlt (Nat.zero_le _) (Nat.zero_le _) (fun i hi => ⟨.ptr 0 0 i, fun {Hc k K} => by simp [go_sem, hi], fun {v l Hc} g => ?_⟩) m 0 (by omega) .nils _ Grow.nil fun v H1 g1 => ?_
    · rw [aload_ptr (g.get (i := 0) rfl), part_one, u8s_get (by omega)]
    have hPlen := pl_len (bs := bs.take m)
    rw [List.length_take] at hPlen
    have hPlt := pl_lt (bs := bs.take m)
    have hPnd := pl_nodup (bs := bs.take m)
    have hPne : plF (bs.take m) ≠ [] := pl_pos (fun h => by
      have := congrArg List.length h
      rw [List.length_take, Nat.min_eq_left (by omega), List.length_nil] at this; omega)
    generalize plF (bs.take m) = P at *
    have hP1 : 1 ≤ P.length := by
      cases P with
      | nil => exact absurd rfl hPne
      | cons x r => simp
    simp [go_sem, call7, c7, WpFun, aop, fillA, setCells, chunks, (RL.of g1).len]
    have hRL1 : RL v P H1 := RL.of g1
    refine l4b (v := v) hRL1 (by omega) hPlt (Nat.zero_le _) (Nat.zero_le _) P.length 0 (by omega) .nils H1 Grow.nil fun u H2 g2 => ?_
    simp [go_sem, hRL1.len]
    rw [storeA (a := .int .i64 0) (b := .nils) (ex := true) (by simp) (Nat.zero_le _) rfl rfl]
    have hRL2 : RL u P H2 := RL.of g2
    simp [go_sem, hRL2.len]
    obtain ⟨bits, hbits⟩ := bits_of fun x y => !decide (P.getD x 0 < P.getD y 0)
    have hbits' : ∀ x y, y < x → x < P.length → bits.testBit (tri x + y) = !decide (P.getD x 0 < P.getD y 0) := fun x y h1 h2 => hbits x y h1 (by omega)
    refine l4d hRL2 rfl (by omega) hbits' (Nat.zero_le _) (Nat.zero_le _) P.length 0 (by omega) [] _ .nils (HX H2 P.length .nils) MadeTo.zero Grow.nil fun l f q H3 hmt g3 => ?_
    have hm : MadeC P.length bits l f := hmt.done hP1 (by omega)
    obtain ⟨hf, hN⟩ := near_of hm rfl hPnd hbits'
    have hok := hm.ok
    have hll : l.length < 1000 := by
      have h1 := hmt.len
      have h2 := (by decide : ∀ a, a ≤ 7 → tri a ≤ 100) P.length (by omega)
      omega
    obtain ⟨hbd, hw⟩ := hm.board
    have hone : ∀ x y, x < P.length → y < P.length → x ≠ y → f x y = !f y x := fun x y hx hy hne => hm.one hx hy hne
    obtain ⟨L, hR, hL⟩ := rows_single hN hone
    have hrow := row_eq (f := f) (n := P.length) (by omega)
    rw [hR] at hrow
    have hrz : rowsZ (boardF l fun _ => 0) P.length = 1 := by
      rw [rows_eq hw (by omega) hP1 hm.dom, hR]; rfl
    have la : ∀ {H' : Heap}, Grow 2 (prs l) (HX H2 P.length q) q H' → aload H' ⟨true, 2⟩ (.ptr H2.length 0 0) = some (.agg [.int .i64 (P.length : Nat), q]) := fun g => by
      rw [aload_ptr (g.get HX_get)]; rfl
    simp [go_sem, la g3]
    refine own_call call14 g3 (Nat.zero_le _) fun q1 H4 hq1 g4 => k14 hq1 hll hok (Nat.zero_le _) (fun L1 rv hL1 hrv => ?_) fun hnone => by rw [← hf, hrow] at hnone; cases hnone
    rw [← hf, hrow] at hL1
    obtain rfl : L = L1 := Option.some.inj hL1
    clear hL1 hrow
    simp [go_sem, la g4]
    refine own_call call15 g4 (Nat.zero_le _) fun q2 H5 hq2 g5 => k15 hq2 hll hok (Nat.zero_le _) ?_
    rw [hrz]
    simp [go_sem, la g5]
    refine own_call call16 g5 (Nat.zero_le _) fun q3 H6 hq3 g6 => k16g hq3 hll hok (Nat.zero_le _) fun bv hbv => ?_
    rw [best_near hN hbd hw hL hP1] at hbv
    simp [go_sem, la g6]
    refine own_call call17 g6 (Nat.zero_le _) fun q4 H7 hq4 g7 => k17g hq4 hll hok (Nat.zero_le _) fun sv hsv => ?_
    rw [often_eq hbd hw] at hsv
    simp [go_sem, la g7]
    obtain ⟨g, hg⟩ := reach_w hbd
    refine own_call call18 g7 (Nat.zero_le _) fun q5 H8 hq5 g8 => k18g hq5 hll hok hg (Nat.zero_le _) fun gv hgv => ?_
    rw [groups_near hN hw hm.dom (parts_of hbd hg) hL] at hgv
    have hRL8 : RL u P H8 := hRL2.mono fun i b hb => g8.get (HX_old hb)
    have hLl := hL.len
    have hGl : (L.map fun x => [x]).length = P.length := by rw [List.length_map, hLl]
    have hSl : ((List.range P.length).map fun x => ((List.range P.length).filter (f x)).length).length = P.length := by rw [List.length_map, List.length_range]
    obtain ⟨S, hS⟩ : ∃ S, S = (List.range P.length).map fun x => ((List.range P.length).filter (f x)).length := ⟨_, rfl⟩
    rw [← hS] at hsv hSl
    have glen := fun (K : AV → Heap → List Nat → Prop) => hgv.len (H := H8) (K := K)
    rw [hGl] at glen
    simp [go_sem, hrv.len, hsv.len, glen, hRL8.len, hLl, hSl]
    refine l5 (P := P) (L := L) (S := S) hRL8 hrv hsv hgv rfl hLl hSl (by omega) (fun k hk => hL.lt _ (List.getElem_mem hk)) (fun k hk => ?_) (fun k hk => ?_) P.length 0 (by omega) ?_
    · have hlt := hL.lt _ (List.getElem_mem hk)
      rw [hS]
      simp only [List.getD_eq_getElem?_getD, List.getElem?_map, List.getElem?_range hlt, Option.map_some, Option.getD_some]
      exact hL.behind hN hk
    · exact List.pairwise_iff_getElem.1 hL.sort k (k + 1) (by omega) hk (by omega)
    · obtain ⟨rv1, hs1, hr1⟩ := first_slice (H := H8) hrv (show 1 ≤ L.length by omega)
      simp [go_sem, aop, Opd.evo, hs1]
      refine k19 hbv hr1 (by rw [List.length_take]; omega) ?_
      simp [go_sem, call12]
  obtain ⟨f, v, H', h1, rfl⟩ := key
  exact ⟨f, H', h1⟩
theorem nearer_true {g : Nat → Nat} {c : Nat} (hg : ∀ i, g i < 256) (hc : c < 256) : ∃ f H', acall E f 4 [.agg ((List.range 7).map fun i => .int .u8 ((g i : Nat) : Int)), .int .u8 (c : Nat)] [] = some (.bool true, H') := by
  have h := near_true (bs := (List.range 7).map g) (c := c) (by simp) (fun x hx => by
    obtain ⟨i, _, rfl⟩ := List.mem_map.1 hx; exact hg i) hc
  have e : u8s ((List.range 7).map g) = (List.range 7).map fun i => .int .u8 ((g i : Nat) : Int) := by
    unfold u8s; rw [List.map_map]; rfl
  rwa [e] at h
end Go.Proofs.YtngoldipfgfecaaDoor.Code
end

