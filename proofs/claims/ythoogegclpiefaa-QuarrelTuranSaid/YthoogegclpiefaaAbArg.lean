/-
  Parts of the proofs about this chapter, joined: rules, contracts of functions and plain laws.
-/
import Derived.Test.YthoogegclpiefaaAbTop
import Derived.ChangeArms
import Derived.Deep.Slices
import Derived.Carry
import Derived.OpenShut
import Derived.Test.YthoogegclpiefaaAbO
set_option linter.all false
section
namespace Go.Ab
open Go.RowKit Go.ChangeShapes Go.WideShapes
variable {H : Type} {enc : TypeId × Value → H} {P : Program} {W : World} {base : Nat} {spare : Nat → Bool} {held : Bool}

/-- cells of a type without references -/
def Sh (P : Program) : Nat → TypeId → List AV → Prop
  | 0, _, _ => False
  | n + 1, t, ys => match P.underlying t with
    | some .bool => ∃ b, ys = [.bool b]
    | some (.int k) => ∃ z, ys = [.int k z] ∧ (Lit.int k z).wf = true
    | some (.struct fs) => ys.length = P.cellsOf t ∧ ∀ f ∈ fs.toList, Sh P n f.type ((ys.drop f.offset).take (P.cellsOf f.type))
    | some (.array m e) => ys.length = P.cellsOf t ∧ ∀ i, i < m → Sh P n e ((ys.drop (i * P.cellsOf e)).take (P.cellsOf e))
    | _ => False

/-- fields lie one behind the other -/
def rowed (P : Program) : Nat → List Field → Nat → Bool
  | o, [], n => o == n
  | o, f :: r, n => f.offset == o && rowed P (o + P.cellsOf f.type) r n

def flatT (P : Program) : Nat → TypeId → Bool
  | 0, _ => false
  | n + 1, t => match P.underlying t with
    | some .bool => true
    | some (.int _) => true
    | some (.struct fs) => rowed P 0 fs.toList (P.cellsOf t) && fs.toList.all fun f => flatT P n f.type
    | some (.array m e) => P.cellsOf t == m * P.cellsOf e && flatT P n e
    | _ => false

/-- cell for cell -/
structure Cel (W : World) (ys : List AV) (cs : List Value) : Prop where
  len : ys.length = cs.length
  one : ∀ c ∈ ys, c.one = true
  vr : ∀ (i : Nat) (c : AV) (v : Value), ys[i]? = some c → cs[i]? = some v → VR (ctx0 W) c v

theorem Cel.nil : Cel W [] [] := ⟨rfl, fun _ h => by simp at h, fun i c v h => by simp at h⟩
theorem Cel.single {c : AV} {v : Value} (h1 : c.one = true) (h : VR (ctx0 W) c v) : Cel W [c] [v] := ⟨rfl, fun x hx => by simp at hx; subst hx; exact h1, fun i x u hx hu => by
  cases i with
  | zero => simp at hx hu; subst hx; subst hu; exact h
  | succ i => simp at hx⟩
theorem Cel.append {ys zs : List AV} {cs ds : List Value} (h : Cel W ys cs) (k : Cel W zs ds) : Cel W (ys ++ zs) (cs ++ ds) where
  len := by simp [h.len, k.len]
  one c hc := by
    rcases List.mem_append.1 hc with hc | hc
    · exact h.one c hc
    · exact k.one c hc
  vr i c v hc hv := by
    by_cases hi : i < ys.length
    · rw [List.getElem?_append_left hi] at hc
      rw [List.getElem?_append_left (by rw [← h.len]; exact hi)] at hv
      exact h.vr i c v hc hv
    · rw [List.getElem?_append_right (by omega)] at hc
      rw [List.getElem?_append_right (by rw [← h.len]; omega)] at hv
      rw [← h.len] at hv
      exact k.vr _ c v hc hv

theorem flat_cel : ∀ (n : Nat) (t : TypeId), flatT P n t = true → ∀ (fuel : Nat) (cs : List Value) (x : DataW H × List MemPlace), DataW.trod enc P W base spare held fuel t cs = some x → ∃ ys, Sh P n t ys ∧ Cel W ys cs
  | 0, _, h => by simp [flatT] at h
  | n + 1, t, hflat => fun fuel cs x h => by
    unfold flatT at hflat
    unfold Sh
    cases ht : P.underlying t with
    | none => simp [ht] at hflat
    | some u =>
      cases u with
      | bool =>
        obtain ⟨b, rfl, _⟩ := DataW.trod_bool ht h
        exact ⟨[.bool b], ⟨b, rfl⟩, Cel.single rfl (.bool b)⟩
      | int k =>
        obtain ⟨z, rfl, _, hw⟩ := DataW.trod_int ht h
        exact ⟨[.int k z], ⟨z, rfl, hw⟩, Cel.single rfl (.int k z)⟩
      | struct fs =>
        simp only [ht, Bool.and_eq_true, List.all_eq_true] at hflat ⊢
        obtain ⟨hr, hall⟩ := hflat
        obtain ⟨xs, m, _, _, hl, hxl, hx⟩ := DataW.trod_struct ht h
        have each : ∀ f ∈ fs.toList, ∃ ys, Sh P n f.type ys ∧ Cel W ys ((cs.drop f.offset).take (P.cellsOf f.type)) := fun f hf => by
          obtain ⟨i, hi⟩ := List.getElem?_of_mem hf
          have hi' : fs[i]? = some f := by simpa using hi
          have := hx i f hi'
          have hlt : i < xs.length := by rw [hxl]; exact (Array.getElem?_eq_some_iff.1 hi').1
          rw [List.getElem?_eq_getElem hlt] at this
          exact flat_cel n f.type (hall f hf) _ _ _ this
        have build : ∀ (l : List Field) (o : Nat), rowed P o l (P.cellsOf t) = true → (∀ f ∈ l, ∃ ys, Sh P n f.type ys ∧ Cel W ys ((cs.drop f.offset).take (P.cellsOf f.type))) → o ≤ P.cellsOf t →
            ∃ ys, Cel W ys (cs.drop o) ∧ ∀ f ∈ l, o ≤ f.offset ∧ Sh P n f.type ((ys.drop (f.offset - o)).take (P.cellsOf f.type)) := by
          intro l
          induction l with
          | nil =>
            intro o ho _ _
            simp only [rowed, beq_iff_eq] at ho
            refine ⟨[], ?_, fun f hf => by simp at hf⟩
            rw [List.drop_eq_nil_of_le (by omega)]
            exact .nil
          | cons f r ih =>
            intro o ho hall2 hle
            simp only [rowed, Bool.and_eq_true, beq_iff_eq] at ho
            obtain ⟨rfl, ho⟩ := ho
            have bound : ∀ (l : List Field) (o : Nat), rowed P o l (P.cellsOf t) = true → o ≤ P.cellsOf t := by
              intro l
              induction l with
              | nil => intro o ho; simp only [rowed, beq_iff_eq] at ho; omega
              | cons f r ih => intro o ho; simp only [rowed, Bool.and_eq_true] at ho; have := ih _ ho.2; omega
            have hb := bound r _ ho
            obtain ⟨ys, h1, h2⟩ := hall2 f (List.mem_cons_self ..)
            obtain ⟨zs, k1, k2⟩ := ih _ ho (fun g hg => hall2 g (List.mem_cons_of_mem _ hg)) hb
            have hyl : ys.length = P.cellsOf f.type := by rw [h2.len]; simp; omega
            refine ⟨ys ++ zs, ?_, fun g hg => ?_⟩
            · have e : cs.drop f.offset = (cs.drop f.offset).take (P.cellsOf f.type) ++ cs.drop (f.offset + P.cellsOf f.type) := by
                rw [← List.drop_drop, List.take_append_drop]
              rw [e]; exact h2.append k1
            · rcases List.mem_cons.1 hg with rfl | hg
              · refine ⟨Nat.le_refl _, ?_⟩
                rw [Nat.sub_self, List.drop_zero, List.take_append_of_le_length (by omega), List.take_of_length_le (by omega)]
                exact h1
              · obtain ⟨k3, k4⟩ := k2 g hg
                refine ⟨by omega, ?_⟩
                rw [List.drop_append, List.drop_eq_nil_of_le (by omega), List.nil_append, hyl, show g.offset - f.offset - P.cellsOf f.type = g.offset - (f.offset + P.cellsOf f.type) by omega]
                exact k4
        obtain ⟨ys, h1, h2⟩ := build fs.toList 0 hr each (Nat.zero_le _)
        rw [List.drop_zero] at h1
        refine ⟨ys, ⟨by rw [h1.len, hl], fun f hf => ?_⟩, h1⟩
        have := (h2 f hf).2
        simpa using this
      | array m e =>
        simp only [ht, Bool.and_eq_true, beq_iff_eq] at hflat ⊢
        obtain ⟨hsz, he⟩ := hflat
        obtain ⟨xs, k, _, _, hl, hxl, hx⟩ := DataW.trod_array ht h
        have each : ∀ i, i < m → ∃ ys, Sh P n e ys ∧ Cel W ys ((cs.drop (i * P.cellsOf e)).take (P.cellsOf e)) := fun i hi => by
          have := hx i hi
          rw [List.getElem?_eq_getElem (by omega)] at this
          exact flat_cel n e he _ _ _ this
        have build : ∀ j, j ≤ m → ∃ ys, Cel W ys (cs.take (j * P.cellsOf e)) ∧ ∀ i, i < j → Sh P n e ((ys.drop (i * P.cellsOf e)).take (P.cellsOf e)) := by
          intro j
          induction j with
          | zero => intro _; exact ⟨[], by simpa using Cel.nil, fun i hi => by omega⟩
          | succ j ih =>
            intro hj
            obtain ⟨ys, h1, h2⟩ := ih (by omega)
            obtain ⟨zs, k1, k2⟩ := each j (by omega)
            have hle : (j + 1) * P.cellsOf e ≤ m * P.cellsOf e := Nat.mul_le_mul_right _ hj
            have hj1 : (j + 1) * P.cellsOf e = j * P.cellsOf e + P.cellsOf e := Nat.succ_mul ..
            have hyl : ys.length = j * P.cellsOf e := by rw [h1.len]; simp; omega
            have hzl : zs.length = P.cellsOf e := by rw [k2.len]; simp; omega
            refine ⟨ys ++ zs, ?_, fun i hi => ?_⟩
            · rw [hj1, List.take_add]
              exact h1.append k2
            · by_cases hij : i < j
              · have hle2 : (i + 1) * P.cellsOf e ≤ j * P.cellsOf e := Nat.mul_le_mul_right _ hij
                have hi1 : (i + 1) * P.cellsOf e = i * P.cellsOf e + P.cellsOf e := Nat.succ_mul ..
                rw [List.drop_append_of_le_length (by omega), List.take_append_of_le_length (by simp; omega)]
                exact h2 i hij
              · obtain rfl : i = j := by omega
                rw [← hyl, List.drop_left, List.take_of_length_le (by omega)]
                exact k1
        obtain ⟨ys, h1, h2⟩ := build m (Nat.le_refl _)
        rw [← hsz, ← hl, List.take_length] at h1
        exact ⟨ys, ⟨by rw [h1.len, hl, hsz], h2⟩, h1⟩
      | _ => simp [ht] at hflat

def wrapA (P : Program) (e : TypeId) (ys : List AV) : AV :=
  match P.underlying e with
  | some (.struct _) | some (.array _ _) => .agg ys
  | _ => ys.headD default

theorem flat_cells {n : Nat} {e : TypeId} {ys : List AV} (h : Sh P n e ys) (hf : flatT P n e = true) : (wrapA P e ys).cells = ys := by
  cases n with
  | zero => simp [Sh] at h
  | succ n =>
    unfold Sh at h
    unfold wrapA
    cases ht : P.underlying e with
    | none => simp [ht] at h
    | some u =>
      cases u with
      | bool => simp only [ht] at h; obtain ⟨b, rfl⟩ := h; rfl
      | int k => simp only [ht] at h; obtain ⟨b, rfl, _⟩ := h; rfl
      | struct fs => rfl
      | array m e => rfl
      | _ => simp [ht] at h

/-- a slice of such a type -/
theorem slice_vr {n : Nat} {t e : TypeId} {v : Value} {fuel : Nat} {x : DataW H × List MemPlace} (ht : P.underlying t = some (.slice e)) (hf : flatT P n e = true)
    (h : DataW.trod enc P W 0 spare held fuel t [v] = some x) {r : Reach} {b0 : Nat} (hok : Cell.okWide P W r b0 t v) :
    ∃ q, VR (ctx0 W) q v ∧ q.one = true ∧ (q = .nils ∨ ∃ xs, q = .lst (P.cellsOf e) false xs ∧ ∀ x ∈ xs, ∃ ys, x = wrapA P e ys ∧ Sh P n e ys) := by
  rcases DataW.trod_slice ht h with ⟨h1, _⟩ | ⟨a, len, cap, elems, rest, k, rfl, h1, h2, h3, h4, h5, h6, h7, h8⟩
  · simp only [List.cons.injEq, and_true] at h1
    subst h1
    exact ⟨.nils, .nils, rfl, .inl rfl⟩
  · simp only [List.cons.injEq, and_true] at h1
    subst h1
    have hs : a.spot = none := by
      unfold Cell.okWide at hok
      rw [ht] at hok
      simp only at hok
      unfold Cell.ok at hok
      rw [ht] at hok
      exact hok.2.2.2.1
    obtain ⟨b, o, sp⟩ := a
    simp only at hs
    subst hs
    have each : ∀ i, i < len → ∃ ys : List AV, Sh P n e ys ∧ ys.length = P.cellsOf e ∧ (∀ c ∈ ys, c.one = true) ∧ ∀ j c, ys[j]? = some c → ∃ u, W.cell? ⟨b, o + i * P.cellsOf e + j, none⟩ = some u ∧ VR (ctx0 W) c u := fun i hi => by
      have hbind := h7 i hi
      rw [List.getElem?_eq_getElem (by omega)] at hbind
      simp only [Option.bind_eq_some_iff] at hbind
      obtain ⟨cs, hc1, hc2⟩ := hbind
      obtain ⟨_, hlen, hcell⟩ := World.cells?_some hc1
      obtain ⟨ys, g1, g2⟩ := flat_cel (W := W) n e hf _ _ _ hc2
      refine ⟨ys, g1, by rw [g2.len, hlen], g2.one, fun j c hj => ?_⟩
      have hjl : j < cs.length := by rw [← g2.len]; exact (List.getElem?_eq_some_iff.1 hj).1
      refine ⟨cs[j], ?_, g2.vr j c _ hj (List.getElem?_eq_getElem hjl)⟩
      have := hcell j (by omega)
      rw [List.getElem?_eq_getElem hjl] at this
      have e1 : ∀ (b o n : Nat), (⟨b, o, none⟩ : Addr).add n = ⟨b, o + n, none⟩ := fun b o n => by
        unfold Addr.add
        split <;> simp_all
      rw [e1, e1] at this
      exact this
    obtain ⟨Y, hY⟩ := Go.Deep.choose_lt each
    let xs : List AV := (List.range len).map fun i => wrapA P e (Y i)
    have hxl : xs.length = len := by simp [xs]
    have hxi : ∀ i y, xs[i]? = some y → i < len ∧ y = wrapA P e (Y i) := fun i y hy => by
      have hlt : i < xs.length := (List.getElem?_eq_some_iff.1 hy).1
      rw [List.getElem?_eq_getElem hlt] at hy
      refine ⟨by omega, ?_⟩
      simp [xs] at hy
      exact hy.symm
    refine ⟨.lst (P.cellsOf e) false xs, ?_, rfl, .inr ⟨xs, rfl, fun y hy => ?_⟩⟩
    · have hv := VR.lst (Γ := ctx0 W) (P.cellsOf e) false xs b o cap (fun i j => (W.cell? ⟨b, o + i * P.cellsOf e + j, none⟩).getD default) (by omega) (by simp) (fun y hy => by
          obtain ⟨i, hi⟩ := List.getElem?_of_mem hy
          obtain ⟨hlt, rfl⟩ := hxi i y hi
          obtain ⟨g1, g2, g3, _⟩ := hY i hlt
          rw [flat_cells g1 hf]
          exact ⟨g2, g3⟩) (fun i y j c hy hc => by
          obtain ⟨hlt, rfl⟩ := hxi i y hy
          obtain ⟨g1, g2, g3, g4⟩ := hY i hlt
          rw [flat_cells g1 hf] at hc
          obtain ⟨u, hu, _⟩ := g4 j c hc
          refine ⟨?_, ?_⟩
          · show W.cell? _ = _
            rw [hu]; rfl
          · show b < W.heap.size
            unfold World.cell? at hu
            split at hu
            · rename_i hh; exact (Array.getElem?_eq_some_iff.1 hh).1
            · cases hu) (fun i y j c hy hc => by
          obtain ⟨hlt, rfl⟩ := hxi i y hy
          obtain ⟨g1, g2, g3, g4⟩ := hY i hlt
          rw [flat_cells g1 hf] at hc
          obtain ⟨u, hu, hvr⟩ := g4 j c hc
          simp only [hu, Option.getD_some]
          exact hvr)
      rw [hxl] at hv
      exact hv
    · obtain ⟨i, hi⟩ := List.getElem?_of_mem hy
      obtain ⟨hlt, rfl⟩ := hxi i y hi
      exact ⟨Y i, rfl, (hY i hlt).1⟩
end Go.Ab
end

section
namespace Go.Ab
open Go.RowKit Go.ChangeShapes Go.WideShapes
variable {H : Type} {enc : TypeId × Value → H} {P : Program} {W W' : World} {base : Nat} {spare : Nat → Bool} {held : Bool}

theorem pairs_of : ∀ {xs : List AV}, (∀ x ∈ xs, ∃ a b : Int, x = .agg [.int .i64 a, .int .i64 b]) → ∃ l, xs = prA l
  | [], _ => ⟨[], rfl⟩
  | x :: r, h => by
    obtain ⟨a, b, rfl⟩ := h x (List.mem_cons_self ..)
    obtain ⟨l, rfl⟩ := pairs_of fun y hy => h y (List.mem_cons_of_mem _ hy)
    exact ⟨(a, b) :: l, rfl⟩

/-- an array of two numbers -/
theorem sh_pair {n : Nat} {e ei : TypeId} {ys : List AV} (he : P.underlying e = some (.array 2 ei)) (hi : P.underlying ei = some (.int .i64)) (ce : P.cellsOf e = 2) (ci : P.cellsOf ei = 1) (h : Sh P (n + 2) e ys) :
    ∃ a b : Int, ys = [.int .i64 a, .int .i64 b] := by
  unfold Sh at h
  rw [he] at h
  obtain ⟨hl, h⟩ := h
  have h0 := h 0 (by omega)
  have h1 := h 1 (by omega)
  rw [ci] at h0 h1
  unfold Sh at h0 h1
  rw [hi] at h0 h1
  obtain ⟨a, h0, _⟩ := h0
  obtain ⟨b, h1, _⟩ := h1
  rw [ce] at hl
  match ys, hl with
  | [x, y], _ =>
    simp at h0 h1
    exact ⟨a, b, by rw [h0, h1]⟩

theorem house_vr {t e ei : TypeId} {f0 f1 : Field} {v : Value} {d : DataW H} {ps : List MemPlace} {r : Reach} {b0 : Nat}
    (ht : P.underlying t = some (.struct #[f0, f1])) (o0 : f0.offset = 0) (o1 : f1.offset = 1) (c0 : P.cellsOf f0.type = 1) (c1 : P.cellsOf f1.type = 1) (ct : P.cellsOf t = 2)
    (h0 : P.underlying f0.type = some (.int .i64)) (h1 : P.underlying f1.type = some (.slice e)) (he : P.underlying e = some (.array 2 ei)) (hi : P.underlying ei = some (.int .i64)) (ce : P.cellsOf e = 2) (ci : P.cellsOf ei = 1)
    (hct : P.cellTypes P.depth t = some [f0.type, f1.type]) (hval : Value.okWide P W r b0 t v) (hd : DataW.Trod enc P W 0 spare held t v d ps) :
    ∃ n q l, VR (ctx0 W) (.agg [.int .i64 n, q]) v ∧ isP q l := by
  unfold Value.okWide at hval
  rw [ht] at hval
  obtain ⟨cs, rfl, hcs, ts, hts, _, hcell⟩ := hval
  rw [hct] at hts
  cases hts
  obtain ⟨fuel, hd⟩ := hd
  obtain ⟨xs, m, _, _, hl, hxl, hx⟩ := DataW.trod_struct ht hd
  have g0 := hx 0 f0 rfl
  have g1 := hx 1 f1 rfl
  have hxl2 : xs.length = 2 := hxl
  rw [List.getElem?_eq_getElem (by omega), o0, c0] at g0
  rw [List.getElem?_eq_getElem (by omega), o1, c1] at g1
  have hl2 : cs.toList.length = 2 := by simpa [ct] using hcs
  obtain ⟨u0, u1, hu⟩ : ∃ u0 u1, cs.toList = [u0, u1] := by
    match cs.toList, hl2 with
    | [a, b], _ => exact ⟨a, b, rfl⟩
  have hcl : (Value.agg cs).cells = cs := rfl
  rw [hcl, hu] at g0 g1
  simp at g0 g1
  obtain ⟨n, hn, _⟩ := DataW.trod_int h0 g0
  simp at hn
  subst hn
  have hcs1 : cs[1]? = some u1 := by
    have : cs.toList[1]? = some u1 := by rw [hu]; rfl
    simpa using this
  obtain ⟨u, hu1, hok⟩ := hcell 1 u1 hcs1
  simp at hu1
  subst hu1
  have hf : flatT P 2 e = true := by
    unfold flatT; rw [he]; simp only [ce, ci]; unfold flatT; rw [hi]; rfl
  obtain ⟨q, q1, q2, q3⟩ := slice_vr (n := 2) h1 hf g1 hok
  have hP : ∃ l, isP q l := by
    rcases q3 with rfl | ⟨xs, rfl, hxs⟩
    · exact ⟨[], .nil⟩
    · obtain ⟨l, rfl⟩ := pairs_of (xs := xs) fun x hx => by
        obtain ⟨ys, rfl, hs⟩ := hxs x hx
        obtain ⟨a, b, rfl⟩ := sh_pair (n := 0) he hi ce ci hs
        exact ⟨a, b, by unfold wrapA; rw [he]⟩
      rw [ce]
      exact ⟨l, .lst⟩
  obtain ⟨l, hP⟩ := hP
  refine ⟨n, q, l, ?_, hP⟩
  have e : cs = #[.int .i64 n, u1] := by
    apply Array.toList_inj.1
    rw [hu]
  subst e
  refine .agg [.int .i64 n, q] #[.int .i64 n, u1] rfl (fun c hc => ?_) fun i c v hc hv => ?_
  · simp at hc
    rcases hc with rfl | rfl
    · rfl
    · exact q2
  · match i with
    | 0 => simp at hc hv; subst hc; subst hv; exact .int _ _
    | 1 => simp at hc hv; subst hc; subst hv; exact q1
    | i + 2 => simp at hc

/-- what was there is read again -/
theorem trodAll_stays (hl : laidOutB P = true) (hb : Below W.heap.size W W') {sp : Nat → Bool} : ∀ {ts : List TypeId} {vs : List Value} {ds : List (DataW H)} {ps : List MemPlace},
    (∀ t ∈ ts, P.readableRec t = true ∧ t < P.types.size) → DataW.TrodAll enc P W 0 (fun _ => true) true ts vs ds ps → (∀ x ∈ ps, x.block < W.heap.size) → (∀ x ∈ ps, sp x.block = true) →
    DataW.TrodAll enc P W' 0 sp true ts vs ds ps
  | [], [], [], ps, _, h, _, _ => h
  | t :: ts, v :: vs, d :: ds, ps, hr, h, hlt, hsp => by
    obtain ⟨p, q, h1, h2, rfl⟩ := h
    refine ⟨p, q, ?_, trodAll_stays hl hb (fun t ht => hr t (List.mem_cons_of_mem _ ht)) h2 (fun x hx => hlt x (List.mem_append_right _ hx)) (fun x hx => hsp x (List.mem_append_right _ hx)), rfl⟩
    have := hr t (List.mem_cons_self ..)
    exact WideElems.Trod_stays hl this.1 this.2 h1 (fun x hx => hb.same (hlt x (List.mem_append_left _ hx))) (fun x hx => hsp x (List.mem_append_left _ hx))
  | [], _ :: _, _, _, _, h, _, _ => h.elim
  | [], [], _ :: _, _, _, h, _, _ => h.elim
  | _ :: _, [], _, _, _, h, _, _ => h.elim
  | _ :: _, _ :: _, [], _, _, h, _, _ => h.elim
end Go.Ab
end
