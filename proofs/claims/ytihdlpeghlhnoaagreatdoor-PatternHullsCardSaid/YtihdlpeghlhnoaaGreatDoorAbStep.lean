/-
  Part of the proved evaluator, or answers that it computed.
-/
import Derived.Test.YtihdlpeghlhnoaaGreatDoorAbSlice
set_option linter.all false
namespace Go.Ab
variable {P : Program}

theorem OpRun.value {o : Oper} {a : Act} {Γ Δ : Ctx} {v : Value} (h : (execOp a.eval o).run P Γ.w = .ok (.value v) Δ.w) : OpRun P o a Γ Δ v := ⟨_, h, .inl rfl⟩

/-- an operation that leaves the world alone -/
theorem still {base bar : Nat} {Γ : Ctx} {H : Heap} (s : Sim Γ H) {o : Oper} {a : Act} {v : AV} {v' : Value} (h : (execOp a.eval o).run P Γ.w = .ok (.value v') Γ.w) (hv : VR Γ v v') :
    ∃ Δ v', OpRun P o a Γ Δ v' ∧ VR Δ v v' ∧ Good base bar [] Γ Δ H H := ⟨Γ, v', .value h, hv, Good.refl s⟩

theorem opts_VR {nt : Nat} {Γ : Ctx} {fr : Frame} {a : Act} (F : Fits nt Γ fr a) {x : Option Operand} {y : Option Opd} {v : Option AV} (hc : cOpt x = some y) (hv : Opd.evo fr y = some v) :
    Opts Γ v (x.map a.eval) ∧ v.isSome = y.isSome := by
  cases x with
  | none =>
    simp [cOpt] at hc; subst hc
    simp [Opd.evo] at hv; subst hv
    exact ⟨⟨by simp, by simp⟩, rfl⟩
  | some x =>
    simp only [cOpt] at hc
    cases hx : cOpd x with
    | none => simp [hx] at hc
    | some y' =>
      simp only [hx, Option.map_some, Option.some.injEq] at hc; subst hc
      simp only [Opd.evo] at hv
      split at hv
      · rename_i u hu
        simp only [Option.some.injEq] at hv; subst hv
        exact ⟨⟨fun w hw => by simp only [Option.some.injEq] at hw; subst hw; exact ⟨_, rfl, opd_VR F hx hu⟩, by simp⟩, rfl⟩
      · cases hv

theorem parts_map {Γ : Ctx} : ∀ {ops : List (Nat × Operand)} {ρ : Operand → Value} {pl : Nat → Option (Nat × Nat)} {ps : List (Nat × Nat × Opd)} {fr : Frame} {vs : List AV},
    (∀ (x : Operand) (y : Opd) (v : AV), cOpd x = some y → y.ev fr = some v → VR Γ v (ρ x)) → cParts pl ops = some ps → evs fr (ps.map (·.2.2)) = some vs → vs.any AV.isTup = false →
    ((ps.zip vs).map fun (p, v) => (p.1, p.2.1, v)).length = (ops.map fun (i, x) => (i, ρ x)).length ∧
    ∀ (j : Nat) (p : Nat × Nat × AV) (q : Nat × Value), ((ps.zip vs).map fun (p, v) => (p.1, p.2.1, v))[j]? = some p → (ops.map fun (i, x) => (i, ρ x))[j]? = some q → pl q.1 = some (p.1, p.2.1) ∧ VR Γ p.2.2 q.2 ∧ ∀ l, p.2.2 ≠ .tup l
  | [], ρ, pl, ps, fr, vs, _, hp, hv, _ => by simp [cParts] at hp; subst hp; simp [evs] at hv; subst hv; simp
  | (i, x) :: r, ρ, pl, ps, fr, vs, hr, hp, hv, ht => by
    simp only [cParts] at hp
    split at hp
    · rename_i o sz y ys h1 h2 h3
      simp only [Option.some.injEq] at hp; subst hp
      simp only [List.map_cons, evs] at hv
      split at hv
      · rename_i v hv1
        split at hv
        · rename_i vs' hv2
          simp only [Option.some.injEq] at hv; subst hv
          simp only [List.any_cons, Bool.or_eq_false_iff] at ht
          obtain ⟨e1, e2⟩ := parts_map hr h3 hv2 ht.2
          refine ⟨by simpa using e1, fun j p q hj hq => ?_⟩
          cases j with
          | zero =>
            simp at hj hq
            subst hj hq
            exact ⟨h1, hr x y v h2 hv1, notTup_iff ht.1⟩
          | succ j => exact e2 j p q (by simpa using hj) (by simpa using hq)
        · cases hv
      · cases hv
    · cases hp

theorem parts_map2 {Γ : Ctx} {sz : Nat} : ∀ {ops : List (Nat × Operand)} {ρ : Operand → Value} {ps : List (Nat × Opd)} {vs' : List AV},
    cParts2 ops = some ps → VRs Γ vs' (ops.map fun p => ρ p.2) → (∀ c ∈ vs', ∀ l, c ≠ .tup l) →
    ((ps.zip vs').map fun (p, v) => (p.1 * sz, sz, v)).length = (ops.map fun (i, x) => (i, ρ x)).length ∧
    ∀ (j : Nat) (p : Nat × Nat × AV) (q : Nat × Value), ((ps.zip vs').map fun (p, v) => (p.1 * sz, sz, v))[j]? = some p → (ops.map fun (i, x) => (i, ρ x))[j]? = some q → some (q.1 * sz, sz) = some (p.1, p.2.1) ∧ VR Γ p.2.2 q.2 ∧ ∀ l, p.2.2 ≠ .tup l
  | [], ρ, ps, vs', hp, hv, _ => by
    simp [cParts2] at hp; subst hp
    simp
  | (i, x) :: r, ρ, ps, vs', hp, hv, ht => by
    simp only [cParts2] at hp
    split at hp
    · rename_i y ys h2 h3
      simp only [Option.some.injEq] at hp; subst hp
      cases vs' with
      | nil => simp [VRs] at hv
      | cons v vs' =>
        simp only [List.map_cons] at hv
        obtain ⟨u, r', e, hx, hr⟩ := hv.of_cons
        simp only [List.cons.injEq] at e
        obtain ⟨rfl, rfl⟩ := e
        obtain ⟨e1, e2⟩ := parts_map2 (sz := sz) h3 hr (fun c hc => ht c (by simp [hc]))
        refine ⟨by simpa using e1, fun j p q hj hq => ?_⟩
        cases j with
        | zero =>
          simp at hj hq
          subst hj hq
          exact ⟨rfl, hx, ht v (by simp)⟩
        | succ j => exact e2 j p q (by simpa using hj) (by simpa using hq)
    · cases hp

theorem evs_parts2 {nt : Nat} {Γ : Ctx} {fr : Frame} {a : Act} (F : Fits nt Γ fr a) : ∀ {ops : List (Nat × Operand)} {ps : List (Nat × Opd)} {vs : List AV}, cParts2 ops = some ps → evs fr (ps.map (·.2)) = some vs → VRs Γ vs (ops.map fun p => a.eval p.2)
  | [], ps, vs, hp, hv => by simp [cParts2] at hp; subst hp; simp [evs] at hv; subst hv; exact VRs.nil
  | (i, x) :: r, ps, vs, hp, hv => by
    simp only [cParts2] at hp
    split at hp
    · rename_i y ys h2 h3
      simp only [Option.some.injEq] at hp; subst hp
      simp only [List.map_cons, evs] at hv
      split at hv
      · rename_i v hv1
        split at hv
        · rename_i vs' hv2
          simp only [Option.some.injEq] at hv; subst hv
          exact VRs.cons (opd_VR F h2 hv1) (evs_parts2 F h3 hv2)
        · cases hv
      · cases hv
    · cases hp

theorem fillA_length : ∀ (ps : List (Nat × Nat × AV)) {cs cs' : List AV}, fillA cs ps = some cs' → cs'.length = cs.length
  | [], cs, cs', h => by simp [fillA] at h; rw [h]
  | (off, size, x) :: ps, cs, cs', h => by
    simp only [fillA] at h
    split at h
    · rw [fillA_length ps h, setCells_length]
    · cases h

theorem run_buildSlice_zero (w : World) (t e : TypeId) (parts : Array (Nat × Value)) (ie : TypeInfo)
    (hu : P.underlying t = some (.slice e)) (hie : P.info? e = some ie) (hp : parts.toList = []) :
    (Instr.buildSlice t 0 parts).run P w = .ok (.slice (some ⟨w.heap.size, 0, none⟩) 0 0) (w.alloc (.cells #[] e)) := by
  simp [Instr.buildSlice, run_underlying hu, sizeOf, typeInfo, hie, hp, Instr.fill, newRow, Array.range_zero']

end Go.Ab
