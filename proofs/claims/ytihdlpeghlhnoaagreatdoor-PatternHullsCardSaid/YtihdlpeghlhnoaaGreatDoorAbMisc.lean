/-
  Part of the proved evaluator, or answers that it computed.
-/
import Derived.Test.YtihdlpeghlhnoaaGreatDoorAbVal
set_option linter.all false
namespace Go.Ab
variable {P : Program}

theorem part_cells {ti : TI} (h1 : ti.agg = false → ti.size = 1) {cs : List AV} (hone : ∀ c ∈ cs, c.one = true) {off : Nat} {v : AV} (h : part ti cs off = some v) :
    v.cells = (cs.drop off).take ti.size ∧ off + ti.size ≤ cs.length := by
  unfold part at h
  cases ha : ti.agg with
  | true =>
    rw [ha] at h
    simp only [if_true] at h
    split at h
    · rename_i hl
      simp only [Option.some.injEq] at h; subst h
      exact ⟨rfl, hl⟩
    · cases h
  | false =>
    rw [ha] at h
    simp only [Bool.false_eq_true, if_false] at h
    have hl := (List.getElem?_eq_some_iff.1 h).1
    rw [h1 ha]
    refine ⟨?_, by omega⟩
    rw [cells_of_one (hone v (List.mem_of_getElem? h)), List.take_one, List.head?_drop, h]; rfl

theorem part_sound {Γ : Ctx} {t : TypeId} {ti : TI} (ht : tiOf P t = some ti) {cs : List AV} {vs : Array Value} (hl : cs.length = vs.size) (hone : ∀ c ∈ cs, c.one = true)
    (hv : ∀ (i : Nat) (c : AV) (v : Value), cs[i]? = some c → vs[i]? = some v → VR Γ c v) {off : Nat} {v : AV} (h : part ti cs off = some v) (w : World) : ∃ v', (Go.part t vs off).run P w = .ok v' w ∧ VR Γ v v' := by
  unfold part at h
  unfold Go.part
  simp only [Sem.run_bind, run_agg ht, Result.andThen_ok]
  cases ha : ti.agg with
  | true =>
    rw [ha] at h
    simp only [if_true] at h ⊢
    split at h
    · rename_i hle
      simp only [Option.some.injEq] at h; subst h
      refine ⟨_, by simp only [Sem.run_bind, run_size (tiOf_size ht), Result.andThen_ok, Sem.run_pure]; rfl, .agg _ _ ?_ (fun c hc => hone c (mem_take_drop hc)) (fun i c u hc hu => ?_)⟩
      · simp; omega
      · rw [List.getElem?_take] at hc
        split at hc
        · rename_i hi
          rw [List.getElem?_drop] at hc
          rw [Array.getElem?_extract] at hu
          split at hu
          · exact hv _ c u hc hu
          · cases hu
        · cases hc
    · cases h
  | false =>
    rw [ha] at h
    simp only [Bool.false_eq_true, if_false] at h ⊢
    have hi : off < cs.length := (List.getElem?_eq_some_iff.1 h).1
    have hg : vs[off]? = some (vs[off]'(hl ▸ hi)) := Array.getElem?_eq_getElem _
    rw [hg]
    exact ⟨_, rfl, hv off v _ h hg⟩

/-- a part of what a frozen pointer points at -/
theorem fp_part {Γ : Ctx} {cs : List AV} {b o : Nat} {f : Nat → Value} (h1 : ∀ c ∈ cs, c.one = true) (hcell : ∀ (j : Nat) (c : AV), cs[j]? = some c → Γ.w.cell? ⟨b, o + j, none⟩ = some (f j) ∧ Γ.I b (o + j))
    (hv : ∀ (j : Nat) (c : AV), cs[j]? = some c → VR Γ c (f j)) {ti : TI} (ht : ti.agg = false → ti.size = 1) {off : Nat} {v : AV} (h : part ti cs off = some v) : VR Γ (.fp v) (.pointer (some ⟨b, o + off, none⟩)) := by
  obtain ⟨hc, _⟩ := part_cells ht h1 h
  have key : ∀ j c, v.cells[j]? = some c → cs[off + j]? = some c := fun j c hj => by
    rw [hc, List.getElem?_take] at hj
    split at hj
    · rwa [List.getElem?_drop] at hj
    · cases hj
  refine .fp v b (o + off) (fun j => f (off + j)) (fun c hc' => ?_) (fun j c hj => ?_) (fun j c hj => hv _ c (key j c hj))
  · rw [hc] at hc'; exact h1 c (mem_take_drop hc')
  · have := hcell _ c (key j c hj)
    rwa [← Nat.add_assoc] at this

theorem foff_sound {Γ : Ctx} {s : TypeId} {fs : Array Field} {g : Field} {i : Nat} {ti : TI} (hs : P.underlying s = some (.struct fs)) (hg : fs[i]? = some g) (ht : tiOf P g.type = some ti) (h0 : ti.size ≠ 0)
    {x v : AV} {xu : Value} (hx : VR Γ x xu) (h : (match x with | .ptr id ver o => some (.ptr id ver (o + g.offset)) | .fp (.agg cs) => (part ti cs g.offset).map .fp | _ => none) = some v) :
    ∃ v', (Instr.fieldAt s xu i).run P Γ.w = .ok v' Γ.w ∧ VR Γ v v' := by
  have hz : (sizeOf g.type).run P Γ.w = .ok ti.size Γ.w := run_size (tiOf_size ht) _
  have run : ∀ a : Addr, (Instr.fieldAt s (.pointer (some a)) i).run P Γ.w = .ok (.pointer (some (a.add g.offset))) Γ.w := fun a => by
    simp [Instr.fieldAt, run_underlying hs, hg, Instr.sureAddr, fieldPlace, hz, h0]
  cases hx with
  | ptr id ver off a hn hle ha =>
    simp only [Option.some.injEq] at h; subst h
    exact ⟨_, run a, .ptr _ _ _ _ hn hle (fun hv => by rw [ha hv, add_at, Nat.add_assoc])⟩
  | fp x b o f h1 hcell hv =>
    cases x <;> simp only [reduceCtorEq] at h
    rename_i cs
    cases hp : part ti cs g.offset with
    | none => simp [hp] at h
    | some y =>
      simp only [hp, Option.map_some, Option.some.injEq] at h; subst h
      refine ⟨_, run _, ?_⟩
      rw [add_at]
      exact fp_part h1 hcell hv (ti_one ht) hp
  | _ => simp only [reduceCtorEq] at h

theorem asNat_VR {Γ : Ctx} {x : AV} {u : Value} {n : Nat} (hx : VR Γ x u) (h : x.asNat = some n) : ∃ k, u = .int k (n : Int) := by
  cases hx <;> simp only [AV.asNat, reduceCtorEq] at h
  split at h
  · rename_i k m hm
    simp only [Option.some.injEq] at h; subst h
    exact ⟨k, by rw [Int.toNat_of_nonneg hm]⟩
  · cases h

theorem ixaS_sound {Γ : Ctx} {t e : TypeId} {sz : Nat} (ht : P.underlying t = some (.slice e)) (hs : sizeT P e = some sz) {x v : AV} {xu : Value} {k : IntKind} {i : Nat} (hx : VR Γ x xu)
    (h : (match x with
        | .lst sz' _ xs => if sz' = sz then (xs[i]?).map .fp else none
        | .vec id ver off len sz' => if sz' = sz ∧ i < len then some (.ptr id ver (off + i * sz)) else none
        | _ => none) = some v) : ∃ v', (Instr.indexAt t xu (.int k (i : Int))).run P Γ.w = .ok v' Γ.w ∧ VR Γ v v' := by
  have run : ∀ (a : Addr) (len cap : Nat), i < len → (Instr.indexAt t (.slice (some a) len cap) (.int k (i : Int))).run P Γ.w = .ok (.pointer (some (a.add (i * sz)))) Γ.w := fun a len cap hl => by
    simp [Instr.indexAt, asIntOf, run_underlying ht, hl, run_size hs]
  cases hx with
  | emp sz' ex a cap hex =>
    simp only at h
    split at h
    · simp at h
    · cases h
  | lst sz' ex xs b o cap f hlc hex hsz hcell hv =>
    simp only at h
    split at h
    · rename_i he; subst he
      cases hi : xs[i]? with
      | none => simp [hi] at h
      | some y =>
        simp only [hi, Option.map_some, Option.some.injEq] at h; subst h
        have hl := (List.getElem?_eq_some_iff.1 hi).1
        refine ⟨_, run _ _ _ hl, ?_⟩
        rw [add_at]
        exact .fp y b _ (f i) (hsz y (List.mem_of_getElem? hi)).2 (fun j c hc => hcell i y j c hi hc) (fun j c hc => hv i y j c hi hc)
    · cases h
  | vec id ver off len sz' a cap hn hle ha =>
    simp only at h
    split at h
    · rename_i he
      obtain ⟨rfl, hl⟩ := he
      simp only [Option.some.injEq] at h; subst h
      exact ⟨_, run _ _ _ hl, .ptr _ _ _ _ hn hle (fun hv => by rw [(ha hv).1, add_at, Nat.add_assoc])⟩
    · cases h
  | _ => simp only [reduceCtorEq] at h

theorem ixaA_sound {Γ : Ctx} {t e : TypeId} {n : Nat} {ti : TI} (ht : P.underlying t = some (.array n e)) (hti : tiOf P e = some ti) {x v : AV} {xu : Value} {k : IntKind} {i : Nat} (hi : i < n) (hx : VR Γ x xu)
    (h : (match x with | .ptr id ver o => some (.ptr id ver (o + i * ti.size)) | .fp (.agg cs) => (part ti cs (i * ti.size)).map .fp | _ => none) = some v) :
    ∃ v', (Instr.indexAt t xu (.int k (i : Int))).run P Γ.w = .ok v' Γ.w ∧ VR Γ v v' := by
  have run : ∀ a : Addr, (Instr.indexAt t (.pointer (some a)) (.int k (i : Int))).run P Γ.w = .ok (.pointer (some (a.add (i * ti.size)))) Γ.w := fun a => by
    simp [Instr.indexAt, asIntOf, run_underlying ht, hi, Instr.sureAddr, run_size (tiOf_size hti)]
  cases hx with
  | ptr id ver off a hn hle ha =>
    simp only [Option.some.injEq] at h; subst h
    exact ⟨_, run a, .ptr _ _ _ _ hn hle (fun hv => by rw [ha hv, add_at, Nat.add_assoc])⟩
  | fp x b o f h1 hcell hv =>
    cases x <;> simp only [reduceCtorEq] at h
    rename_i cs
    cases hp : part ti cs (i * ti.size) with
    | none => simp [hp] at h
    | some y =>
      simp only [hp, Option.map_some, Option.some.injEq] at h; subst h
      refine ⟨_, run _, ?_⟩
      rw [add_at]
      exact fp_part h1 hcell hv (ti_one hti) hp
  | _ => simp only [reduceCtorEq] at h

/-! ## the parts of a struct, an array, a slice -/
structure CellsR (Γ : Ctx) (cs : List AV) (vs : Array Value) : Prop where
  len : cs.length = vs.size
  one : ∀ c ∈ cs, c.one = true
  rel : ∀ (i : Nat) (c : AV) (v : Value), cs[i]? = some c → vs[i]? = some v → VR Γ c v

theorem CellsR.set {Γ : Ctx} {cs : List AV} {vs : Array Value} (h : CellsR Γ cs vs) {x : AV} {v : Value} (hx : VR Γ x v) (h1 : x.one = true) (i : Nat) : CellsR Γ (cs.set i x) (vs.setIfInBounds i v) := by
  refine ⟨by simp [h.len], fun c hc => ?_, fun j c u hc hu => ?_⟩
  · rcases List.mem_or_eq_of_mem_set hc with h2 | h2
    · exact h.one c h2
    · subst h2; exact h1
  · by_cases hij : i = j
    · subst hij
      have hl : i < cs.length := by
        have := (List.getElem?_eq_some_iff.1 hc).1
        simpa using this
      rw [List.getElem?_set_self hl] at hc
      rw [Array.getElem?_setIfInBounds_self_of_lt (by rw [← h.len]; exact hl)] at hu
      simp only [Option.some.injEq] at hc hu
      subst hc hu; exact hx
    · rw [List.getElem?_set_ne hij] at hc
      rw [Array.getElem?_setIfInBounds_ne hij] at hu
      exact h.rel j c u hc hu

theorem CellsR.setCells {Γ : Ctx} : ∀ {xs : List AV} {us : List Value} {cs : List AV} {vs : Array Value} (off k : Nat), CellsR Γ cs vs → VRs Γ xs us → (∀ c ∈ xs, c.one = true) →
    CellsR Γ (setCells cs (off + k) xs) ((us.zipIdx k).foldl (fun cs (p : Value × Nat) => cs.setIfInBounds (off + p.2) p.1) vs)
  | [], us, cs, vs, off, k, h, hv, _ => by have := hv.of_nil; subst this; simpa [Go.Ab.setCells] using h
  | x :: xs, us, cs, vs, off, k, h, hv, h1 => by
    obtain ⟨u, r, rfl, hx, hr⟩ := hv.of_cons
    simp only [Go.Ab.setCells, List.zipIdx_cons, List.foldl_cons]
    exact CellsR.setCells (xs := xs) off (k + 1) (h.set hx (h1 x (by simp)) _) hr (fun c hc => h1 c (by simp [hc]))

theorem fill_sound {Γ : Ctx} (place : Nat → Option (Nat × Nat)) : ∀ (ps : List (Nat × Nat × AV)) (qs : List (Nat × Value)) {cs cs' : List AV} {vs : Array Value}, CellsR Γ cs vs → ps.length = qs.length →
    (∀ (j : Nat) (p : Nat × Nat × AV) (q : Nat × Value), ps[j]? = some p → qs[j]? = some q → place q.1 = some (p.1, p.2.1) ∧ VR Γ p.2.2 q.2 ∧ ∀ l, p.2.2 ≠ .tup l) → fillA cs ps = some cs' →
    ∃ vs', Instr.fill place vs qs = some vs' ∧ CellsR Γ cs' vs'
  | [], qs, cs, cs', vs, h, hl, _, hf => by
    cases qs with
    | nil => simp [fillA] at hf; subst hf; exact ⟨vs, rfl, h⟩
    | cons q r => simp at hl
  | (off, size, x) :: ps, qs, cs, cs', vs, h, hl, hp, hf => by
    cases qs with
    | nil => simp at hl
    | cons q qs =>
      obtain ⟨i, u⟩ := q
      obtain ⟨h1, h2, h3⟩ := hp 0 (off, size, x) (i, u) (by simp) (by simp)
      simp only at h1 h2 h3
      simp only [fillA] at hf
      split at hf
      · rename_i hc
        obtain ⟨hvs, hones⟩ := h2.cells h3
        have hus : u.cells.size = size := by rw [← hc.1, hvs.1]; simp
        have hcr := CellsR.setCells off 0 h hvs hones
        simp only [Nat.add_zero] at hcr
        obtain ⟨vs', e1, e2⟩ := fill_sound place ps qs hcr (by simpa using hl) (fun j p q hj hq => hp (j + 1) p q (by simpa using hj) (by simpa using hq)) hf
        refine ⟨vs', ?_, e2⟩
        have hsz : ¬ (u.cells.size ≠ size ∨ off + u.cells.size > vs.size) := by rw [← h.len]; omega
        simp only [Instr.fill, h1]
        rw [if_neg (by simpa using hsz)]
        rw [← e1]
        congr 1
        rw [← Array.foldl_toList, Array.toList_zipIdx]
      · cases hf

end Go.Ab
