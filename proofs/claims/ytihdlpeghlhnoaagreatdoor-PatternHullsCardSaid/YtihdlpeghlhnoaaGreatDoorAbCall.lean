/-
  Part of the proved evaluator, or answers that it computed.
-/
import Derived.Test.YtihdlpeghlhnoaaGreatDoorAbOp
import Derived.Scope
set_option linter.all false
namespace Go.Ab
variable {P : Program}

/-- a call ends like this -/
def CallsTo (P : Program) (f : FuncId) (base bar : Nat) (tc : List Nat) (args : List AV) (H : Heap) (v : AV) (H' : Heap) : Prop :=
  ∀ (Γ : Ctx) (us : List Value), Sim Γ H → VRs Γ args us → Calls P f us.toArray Γ.w fun e w' => ∃ Δ v', e = .returned v' ∧ Δ.w = w' ∧ VR Δ v v' ∧ Good base bar tc Γ Δ H H'

theorem Good.weaken {base base' bar bar' : Nat} {tc : List Nat} {Γ Δ : Ctx} {H H' : Heap} (g : Good base bar tc Γ Δ H H') (h : base' ≤ base) (hb : bar' ≤ bar) : Good base' bar' tc Γ Δ H H' :=
  ⟨g.sim, g.evo, fun k hk => g.wf k (by omega), fun i hi => g.bar i (by omega), g.tc, g.len⟩

theorem Sim.wf {Γ : Ctx} {H : Heap} (s : Sim Γ H) : WF H.length H := fun i b _ hb => by
  cases b with
  | map es => exact Nat.zero_le _
  | row ver cs fz ex =>
  obtain ⟨_, c, t, _, _, _, _, h7, _⟩ := s.blk i _ hb
  simp only [Blk.top]
  refine AV.le_tops fun x hx => ?_
  obtain ⟨j, hj, rfl⟩ := List.getElem_of_mem hx
  obtain ⟨_, v, _, hv⟩ := h7 j _ (List.getElem?_eq_getElem hj)
  rw [← s.n]; exact hv.top_le

theorem VRs.cut {Γ : Ctx} {k : Nat} {xs : List AV} {us : List Value} (h : VRs Γ xs us) (ht : AV.top.tops xs ≤ k) : VRs (Γ.cut k) xs us :=
  ⟨h.1, fun i c v hc hv => (h.2 i c v hc hv).cut (AV.tops_le ht c (List.mem_of_getElem? hc))⟩

/-- a single value, or a tuple -/
def tupleV (us : List Value) : Value := match us with
  | [v] => v
  | us => .tuple us.toArray

theorem VRs.tupled {Γ : Ctx} {xs : List AV} {us : List Value} (h : VRs Γ xs us) : VR Γ (tupled xs) (tupleV us) := by
  match xs, us, h with
  | [], [], h => exact .tup _ _ rfl (by simp)
  | [x], [u], h => exact h.2 0 x u (by simp) (by simp)
  | x :: y :: r, u :: v :: s, h => exact .tup _ _ (by simpa using h.1) (fun i c w hc hw => h.2 i c w hc (by simpa using hw))
  | [], u :: s, h => simp [VRs] at h
  | x :: r, [], h => simp [VRs] at h
  | [x], u :: v :: s, h => simp [VRs] at h
  | x :: y :: r, [u], h => simp [VRs] at h

/-- one block of the call's own is handed out: it lies first behind the caller's -/
def Ctx.hand (Γ : Ctx) (k id : Nat) : Ctx :=
  { Γ with n := k + 1, ρ := fun i => if i = k then Γ.ρ id else Γ.ρ i, ver := fun i => if i = k then Γ.ver id else Γ.ver i, bsz := fun i => if i = k then Γ.bsz id else Γ.bsz i }

theorem VR.hand {Γ : Ctx} {k id : Nat} {x : AV} {v : Value} (h : VR Γ x v) (ht : x.top ≤ k) : VR (Γ.hand k id) x v := by
  induction h with
  | int k n => exact .int k n
  | bool b => exact .bool b
  | str s => exact .str s
  | nilp => exact .nilp
  | nils => exact .nils
  | nilm => exact .nilm
  | nilf => exact .nilf
  | nili => exact .nili
  | agg cs vs hl h1 _ ih =>
    simp only [AV.top] at ht
    exact .agg cs vs hl h1 fun i c v hc hv => ih i c v hc hv (AV.tops_le ht c (List.mem_of_getElem? hc))
  | tup cs vs hl _ ih =>
    simp only [AV.top] at ht
    exact .tup cs vs hl fun i c v hc hv => ih i c v hc hv (AV.tops_le ht c (List.mem_of_getElem? hc))
  | emp sz ex a cap hex => exact .emp sz ex a cap hex
  | lst sz ex xs b o cap f hlc hex hsz hcell _ ih =>
    simp only [AV.top] at ht
    exact .lst sz ex xs b o cap f hlc hex hsz hcell fun i x j c hx hc =>
      ih i x j c hx hc (AV.cells_top (AV.tops_le ht x (List.mem_of_getElem? hx)) c (List.mem_of_getElem? hc))
  | fp x b o f h1 hcell _ ih =>
    simp only [AV.top] at ht
    exact .fp x b o f h1 hcell fun j c hc => ih j c hc (AV.cells_top ht c (List.mem_of_getElem? hc))
  | ptr i ver off a hn hle h =>
    simp only [AV.top] at ht
    have hne : i ≠ k := by omega
    exact .ptr i ver off a (by simp only [Ctx.hand]; omega) (by simpa [Ctx.hand, hne] using hle) (by simpa [Ctx.hand, Ctx.δ, hne] using h)
  | vec i ver off len sz a cap hn hle h =>
    simp only [AV.top] at ht
    have hne : i ≠ k := by omega
    exact .vec i ver off len sz a cap (by simp only [Ctx.hand]; omega) (by simpa [Ctx.hand, hne] using hle) (by simpa [Ctx.hand, Ctx.δ, hne] using h)
  | fn f xs ys us vs hl hl' _ _ ih ih' =>
    simp only [AV.top] at ht
    exact .fn f xs ys us vs hl hl' (fun i c v hc hv => ih i c v hc hv (AV.tops_le (by omega) c (List.mem_of_getElem? hc)))
      (fun i c v hc hv => ih' i c v hc hv (AV.tops_le (by omega) c (List.mem_of_getElem? hc)))
  | ifc t x v _ ih => simp only [AV.top] at ht; exact .ifc t x v (ih ht)
  | dead a n c => exact .dead a n c
  | mp i r hn h =>
    simp only [AV.top] at ht
    have hne : i ≠ k := by omega
    exact .mp i r (by simp only [Ctx.hand]; omega) (by simpa [Ctx.hand, hne] using h)

theorem GlobOK.hand {Γ : Ctx} {k id : Nat} (h : GlobOK Γ) : GlobOK (Γ.hand k id) := fun g x hx => ⟨(h g x hx).1, (h g x hx).2.hand (by simp only [AV.top]; rw [(h g x hx).1]; exact Nat.zero_le _)⟩
theorem moveP_VR {Γ : Ctx} {k id : Nat} {x : AV} {v : Value} (h : VR Γ x v) (ht : movable id k x = true) : VR (Γ.hand k id) (moveP id k x) v := by
  cases x with
  | ptr i ver off =>
    simp only [movable, Bool.or_eq_true, beq_iff_eq, Nat.blt_eq] at ht
    simp only [moveP]
    by_cases hi : i = id
    · subst hi
      rw [if_pos rfl]
      cases h with
      | ptr _ _ _ a hn hle h => exact .ptr k ver off a (by simp [Ctx.hand]) (by simpa [Ctx.hand] using hle) (by simpa [Ctx.hand, Ctx.δ] using h)
    · rw [if_neg hi]
      exact h.hand (by simp only [AV.top]; omega)
  | _ =>
    simp only [movable, Nat.ble_eq] at ht
    exact h.hand ht

theorem Good.hand {base bar : Nat} {tc : List Nat} {Γ Δ : Ctx} {H H' : Heap} (g : Good base bar tc Γ Δ H H') (h0 : Γ.n = H.length) {id ver fz : Nat} {ex : Bool} {cs cs' : List AV}
    (hid : H'[id]? = some (.row ver cs fz ex)) (hk : H.length ≤ id) (hw : WF H.length H') (hbk : bar ≤ H.length) (hbase : base ≤ H.length)
    (hcs : ∀ c t, Δ.w.heap[Δ.ρ id]? = some (.cells c t (0, 0)) → cs'.length = cs.length ∧ ∀ (i : Nat) (x : AV), cs'[i]? = some x → x.one = true ∧ x.top ≤ H.length ∧ ∃ v, c[Δ.δ id + i]? = some v ∧ VR Δ x v) :
    Good base bar tc Γ (Δ.hand H.length id) H (H'.take H.length ++ [.row ver cs' fz ex]) := by
  obtain ⟨s, e, wf, hb, ht, hl⟩ := g
  have hidl : id < H'.length := (List.getElem?_eq_some_iff.1 hid).1
  have hn := s.n
  have htl : (H'.take H.length).length = H.length := by simp; omega
  obtain ⟨ver1, cs1, fz1, ex1, e1, e2, c, t, e3, e4, e5, e6, e7, e8⟩ := s.row id _ hid
  simp only [Blk.row.injEq] at e1
  obtain ⟨rfl, rfl, rfl, rfl⟩ := e1
  obtain ⟨hcl, hcv⟩ := hcs c t e3
  have hnew : Γ.w.heap.size ≤ Δ.ρ id := by
    rcases e.ρ id (by omega) with ⟨h1, _⟩ | h1
    · omega
    · exact h1
  refine ⟨⟨by simp [Ctx.hand]; omega, fun i b hbb => ?_, fun i j hi hj hij => ?_, s.imm, s.glob.hand⟩,
    ⟨by simp only [Ctx.hand]; omega, fun i hi => ?_, fun i hi h => ?_, fun i hi => ?_, e.I, e.newI, e.frame, e.size, e.os, e.tape, e.output⟩, fun m hm hwm i b hi hbb => ?_, fun i hi => ?_, fun i hi hn' => ?_, by simp; omega⟩
  · rw [List.getElem?_append] at hbb
    rw [htl] at hbb
    split at hbb
    · rename_i hi
      rw [List.getElem?_take, if_pos hi] at hbb
      have hne : i ≠ H.length := by omega
      have htop := hw i b hi hbb
      cases b with
      | row ver2 cs2 fz2 ex2 =>
        obtain ⟨h2, c2, t2, h3, h4, h5, h6, h7, h8⟩ := s.blk i _ hbb
        have hd : (Δ.hand H.length id).δ i = Δ.δ i := by simp [Ctx.hand, Ctx.δ, hne]
        refine ⟨by simpa [Ctx.hand, hne] using h2, c2, t2, by simpa [Ctx.hand, hne] using h3, by simpa [Ctx.hand, hne] using h4, by rw [hd]; exact h5, by rw [hd]; exact h6, fun j x hx => ?_, by rw [hd]; simpa [Ctx.hand, hne] using h8⟩
        rw [hd]
        obtain ⟨h9, v, h10, h11⟩ := h7 j x hx
        exact ⟨h9, v, h10, h11.hand (AV.tops_le htop x (List.mem_of_getElem? hx))⟩
      | map es =>
        obtain ⟨h2, c2, t2, h3, h4, h5, h6⟩ := s.blk i _ hbb
        refine ⟨by simpa [Ctx.hand, hne] using h2, c2, t2, by simpa [Ctx.hand, hne] using h3, h4, fun j p hp => ?_, by simpa [Ctx.hand, hne] using h6⟩
        obtain ⟨h7, x, h8, h9, h10⟩ := h5 j p hp
        exact ⟨h7, x, h8, h9.hand (by omega), h10.hand (by omega)⟩
    · rename_i hi
      have hi0 : i = H.length := by
        have := (List.getElem?_eq_some_iff.1 hbb).1
        simp at this; omega
      subst hi0
      simp at hbb
      subst hbb
      have hd : (Δ.hand H.length id).δ H.length = Δ.δ id := by simp [Ctx.hand, Ctx.δ]
      refine ⟨by simpa [Ctx.hand] using e2, c, t, by simpa [Ctx.hand] using e3, by simpa [Ctx.hand] using e4, by rw [hd]; omega, fun h => by rw [hd, hcl]; exact e6 h, fun j x hx => ?_, by rw [hd]; simpa [Ctx.hand] using e8⟩
      rw [hd]
      obtain ⟨h9, h9', v, h10, h11⟩ := hcv j x hx
      exact ⟨h9, v, h10, h11.hand h9'⟩
  · simp only [List.length_append, htl, List.length_singleton] at hi hj
    simp only [Ctx.hand] at hij
    by_cases h1 : i = H.length <;> by_cases h2 : j = H.length
    · omega
    · simp only [h1, h2, if_true, if_false] at hij
      have := s.inj _ _ hidl (by omega) hij; omega
    · simp only [h1, h2, if_true, if_false] at hij
      have := s.inj _ _ (by omega) hidl hij; omega
    · simp only [h1, h2, if_false] at hij
      exact s.inj _ _ (by omega) (by omega) hij
  · have hne : i ≠ H.length := by omega
    simpa [Ctx.hand, hne] using e.ver i hi
  · have hne : i ≠ H.length := by omega
    simp only [Ctx.hand, hne, if_false] at h ⊢
    exact e.same i hi h
  · simp only [Ctx.hand] at hi ⊢
    by_cases h1 : i = H.length
    · subst h1; right; simpa using hnew
    · simp only [h1, if_false]
      exact e.ρ i (by omega)
  · rw [List.getElem?_append] at hbb
    rw [htl] at hbb
    split at hbb
    · rename_i hi'
      rw [List.getElem?_take, if_pos hi'] at hbb
      exact wf m hm hwm i b hi hbb
    · rename_i hi'; omega
  · rw [List.getElem?_append_left (by rw [htl]; omega), List.getElem?_take, if_pos (by omega), hb i hi]
  · rw [List.getElem?_append_left (by rw [htl]; omega), List.getElem?_take, if_pos hi, ht i hi hn']

end Go.Ab
