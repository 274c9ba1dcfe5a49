/-
  Part of the proved evaluator, or answers that it computed.
-/
import Derived.Test.YtihdlpeghlhnoaaGreatDoorAbMisc
set_option linter.all false
namespace Go.Ab
variable {P : Program}

def OpRun (P : Program) (o : Oper) (a : Act) (Γ Δ : Ctx) (v' : Value) : Prop :=
  ∃ n, (execOp a.eval o).run P Γ.w = .ok n Δ.w ∧ (n = .value v' ∨ (n = .skip ∧ v' = undef))

theorem zeroOf_some {Γ : Ctx} {t : TypeId} {z : AV} (h : zeroOf P t = some z) : ∃ i zv, P.info? t = some i ∧ i.zero = some zv ∧ VR Γ z zv ∧ (∀ l, z ≠ .tup l) := by
  unfold zeroOf at h
  split at h
  · rename_i i hi
    split at h
    · rename_i zv hz
      split at h
      · rename_i x hx
        split at h
        · cases h
        · rename_i ht
          simp only [Option.some.injEq] at h; subst h
          exact ⟨i, zv, hi, hz, ofV_VR hx, notTup_iff (by simpa using ht)⟩
      · cases h
    · cases h
  · cases h

theorem CellsR.of {Γ : Ctx} {x : AV} {v : Value} (h : VR Γ x v) (ht : ∀ l, x ≠ .tup l) : CellsR Γ x.cells v.cells := by
  obtain ⟨h1, h2⟩ := h.cells ht
  exact ⟨by simpa using h1.1, h2, fun i c u hc hu => h1.2 i c u hc (by simpa using hu)⟩

theorem CellsR.mono {Γ Δ : Ctx} (e : Evo Γ Δ) {cs : List AV} {vs : Array Value} (h : CellsR Γ cs vs) : CellsR Δ cs vs := ⟨h.len, h.one, fun i c v hc hv => (h.rel i c v hc hv).mono e⟩

theorem flat_rep {sz : Nat} {z : List AV} (hz : z.length = sz) (h0 : 0 < sz) : ∀ (c k : Nat), k < c * sz → (List.flatten (List.replicate c z))[k]? = z[k % sz]?
  | 0, k, h => by omega
  | c + 1, k, h => by
    rw [List.replicate_succ, List.flatten_cons, List.getElem?_append]
    split
    · rename_i hk
      rw [Nat.mod_eq_of_lt (by omega)]
    · rename_i hk
      rw [flat_rep hz h0 c _ (by rw [Nat.add_mul] at h; omega), hz, ← Nat.mod_eq_sub_mod (by omega)]

theorem flat_rep_length {sz : Nat} {z : List AV} (hz : z.length = sz) (c : Nat) : (List.flatten (List.replicate c z)).length = c * sz := by
  induction c with
  | zero => simp
  | succ c ih => rw [List.replicate_succ, List.flatten_cons, List.length_append, ih, hz, Nat.add_mul]; omega

theorem CellsR.rep {Γ : Ctx} {z : List AV} {zv : Array Value} (h : CellsR Γ z zv) {n c : Nat} (h0 : 0 < z.length) (hn : n = c * z.length) : CellsR Γ (List.flatten (List.replicate c z)) ((Array.range n).map (zv[· % zv.size]!)) := by
  refine ⟨by simp [flat_rep_length rfl, hn], fun x hx => ?_, fun i x v hx hv => ?_⟩
  · obtain ⟨l, hl, hxl⟩ := List.mem_flatten.1 hx
    rw [(List.mem_replicate.1 hl).2] at hxl
    exact h.one x hxl
  · have hi : i < c * z.length := by
      have := (List.getElem?_eq_some_iff.1 hx).1
      rwa [flat_rep_length rfl] at this
    rw [flat_rep rfl h0 c i hi] at hx
    have hm : i % z.length < z.length := Nat.mod_lt _ h0
    have hm' : i % zv.size < zv.size := by rw [← h.len]; exact hm
    have hv' : zv[i % zv.size]? = some v := by
      rw [Array.getElem?_map, Array.getElem?_range, if_pos (by omega)] at hv
      simp only [Option.map_some, Option.some.injEq] at hv
      rw [← hv, Array.getElem?_eq_getElem hm']
      simp [hm']
    rw [← h.len] at hv'
    exact h.rel _ x v hx hv'

/-- a new block that the evaluator does not keep: all its cells are frozen -/
def Ctx.fresh (Γ : Ctx) (w' : World) : Ctx := { Γ with w := w', I := fun b o => Γ.I b o ∨ b = Γ.w.heap.size }

theorem Good.fresh {base bar : Nat} {Γ : Ctx} {H : Heap} {w' : World} {o : Obj} (s : Sim Γ H)
    (hh : w'.heap = Γ.w.heap.push o) (ho : w'.os = Γ.w.os) (ht : w'.tape = Γ.w.tape) (hu : w'.output = Γ.w.output) : Good base bar [] Γ (Γ.fresh w') H H := by
  have hcell : ∀ b o, b < Γ.w.heap.size → w'.cell? ⟨b, o, none⟩ = Γ.w.cell? ⟨b, o, none⟩ := fun b o hb => by
    simp only [World.cell?, hh]
    rw [Array.getElem?_push_lt hb, Array.getElem?_eq_getElem hb]
  have e : Evo Γ (Γ.fresh w') := by
    refine ⟨Nat.le_refl _, fun _ _ => Nat.le_refl _, fun _ _ _ => ⟨rfl, rfl⟩, fun i hi => .inl ⟨hi, rfl⟩, fun b o h => ⟨.inl h, hcell b o (s.imm b o h)⟩, fun b o h => ?_, fun b hb _ => ?_, by simp [Ctx.fresh, hh], ho, ht, hu⟩
    · rcases h with h | h
      · exact .inl h
      · exact .inr (.inl (by omega))
    · simp only [Ctx.fresh, hh]
      rw [Array.getElem?_push_lt hb, Array.getElem?_eq_getElem hb]
  refine ⟨⟨s.n, fun id b hb => ?_, s.inj, fun b o h => ?_, s.glob.mono e⟩, e, fun _ _ h => h, fun _ _ => rfl, fun _ _ _ => rfl, Nat.le_refl _⟩
  · have hl := s.lt (List.getElem?_eq_some_iff.1 hb).1
    refine (s.blk id b hb).mono e rfl rfl ?_ (fun o h => ?_)
    · simp only [Ctx.fresh, hh]
      rw [Array.getElem?_push_lt hl, ← Array.getElem?_eq_getElem hl]
    · rcases h with h | h
      · exact h
      · simp only [Ctx.fresh] at h; omega
  · simp only [Ctx.fresh, hh, Array.size_push]
    rcases h with h | h
    · have := s.imm b o h; omega
    · omega

theorem optBound_sound {Γ : Ctx} {x : Option AV} {xu : Option Value} (hx : ∀ v, x = some v → ∃ u, xu = some u ∧ VR Γ v u) (hn : x = none → xu = none) {y y' d n : Nat} (hy : y ≤ y') (h : optBound x y d = some n) (code : BoundsCode) (w : World) :
    (x = none ∧ xu = none ∧ n = d) ∨ ∃ v u, x = some v ∧ xu = some u ∧ n ≤ y ∧ (Instr.sliceBound u y' code).run P w = .ok n w := by
  cases x with
  | none => simp [optBound] at h; exact .inl ⟨rfl, hn rfl, h.symm⟩
  | some v =>
    obtain ⟨u, hu, hr⟩ := hx v rfl
    simp only [optBound, bound1] at h
    split at h
    · rename_i i hi
      split at h
      · rename_i hle
        simp only [Option.some.injEq] at h; subst h
        obtain ⟨k, rfl⟩ := asNat_VR hr hi
        refine .inr ⟨v, _, rfl, hu, hle, ?_⟩
        have : (0 : Int) ≤ (i : Int) ∧ (i : Int) ≤ (y' : Int) := by omega
        simp [Instr.sliceBound, asIntOf, this]
      · cases h
    · cases h

/-- a slice expression: what is told of its bounds -/
structure Opts (Γ : Ctx) (x : Option AV) (xu : Option Value) : Prop where
  some : ∀ v, x = some v → ∃ u, xu = some u ∧ VR Γ v u
  none : x = none → xu = none

theorem bounds_sound {Γ : Ctx} {lo hi mx : Option AV} {lou hiu mxu : Option Value} (hlo : Opts Γ lo lou) (hhi : Opts Γ hi hiu) (hmx : Opts Γ mx mxu) {len len' cap cap' m h l : Nat} (hc : cap ≤ cap')
    (e1 : optBound mx cap cap = .some m) (e2 : optBound hi m len = .some h) (e3 : optBound lo h 0 = .some l) (hl : len = len') (hmxhi : mx.isSome = true → hi.isSome = true) (isS : Bool) (w : World) :
    ∃ m', (Instr.sliceBounds isS len' cap' lou hiu mxu).run P w = .ok (l, h, m') w ∧ m ≤ m' ∧ (mx.isSome = true → m' = m) ∧ (mx = none → m' = cap') ∧ (lo = none → l = 0) ∧ (lo ≠ none → l ≤ h) ∧ (hi = none → h = len) ∧ (hi ≠ none → h ≤ m) := by
  subst hl
  rcases optBound_sound (P := P) hmx.some hmx.none hc e1 (if isS then .slice3Acap else .slice3Alen) w with ⟨rfl, rfl, rfl⟩ | ⟨mv, mu, rfl, rfl, hm, rm⟩
  · -- no max
    rcases optBound_sound (P := P) hhi.some hhi.none hc e2 (if isS then .sliceAcap else .sliceAlen) w with ⟨rfl, rfl, rfl⟩ | ⟨hv, hu, rfl, rfl, hh, rh⟩
    · rcases optBound_sound (P := P) hlo.some hlo.none (Nat.le_refl _) e3 .sliceB w with ⟨rfl, rfl, rfl⟩ | ⟨lv, lu, rfl, rfl, hl, rl⟩
      · exact ⟨cap', by simp [Instr.sliceBounds], hc, by simp, by simp, by simp, by simp, by simp, by simp⟩
      · exact ⟨cap', by simp [Instr.sliceBounds, rl], hc, by simp, by simp, by simp, by simpa using hl, by simp, by simp⟩
    · rcases optBound_sound (P := P) hlo.some hlo.none (Nat.le_refl _) e3 .sliceB w with ⟨rfl, rfl, rfl⟩ | ⟨lv, lu, rfl, rfl, hl, rl⟩
      · exact ⟨cap', by simp [Instr.sliceBounds, rh], hc, by simp, by simp, by simp, by simp, by simp, by simpa using hh⟩
      · exact ⟨cap', by simp [Instr.sliceBounds, rh, rl], hc, by simp, by simp, by simp, by simpa using hl, by simp, by simpa using hh⟩
  · rcases optBound_sound (P := P) hhi.some hhi.none (Nat.le_refl _) e2 .slice3B w with ⟨rfl, rfl, rfl⟩ | ⟨hv, hu, rfl, rfl, hh, rh⟩
    · simp at hmxhi
    · rcases optBound_sound (P := P) hlo.some hlo.none (Nat.le_refl _) e3 .slice3C w with ⟨rfl, rfl, rfl⟩ | ⟨lv, lu, rfl, rfl, hl, rl⟩
      · exact ⟨m, by simp [Instr.sliceBounds, rm, rh], Nat.le_refl _, by simp, by simp, by simp, by simp, by simp, by simpa using hh⟩
      · exact ⟨m, by simp [Instr.sliceBounds, rm, rh, rl], Nat.le_refl _, by simp, by simp, by simp, by simpa using hl, by simp, by simpa using hh⟩

end Go.Ab
