/-
  Part of the proved evaluator, or answers that it computed.
-/
import Derived.Test.YtihdlpeghlhnoaaGreatDoorAbCall
set_option linter.all false
namespace Go.Ab
variable {P : Program}

theorem VRs.map_moveP {Γ : Ctx} {k id : Nat} {xs : List AV} {us : List Value} (h : VRs Γ xs us) (ht : xs.all (movable id k) = true) : VRs (Γ.hand k id) (xs.map (moveP id k)) us := by
  refine ⟨by simp [h.1], fun i c v hc hv => ?_⟩
  rw [List.getElem?_map] at hc
  cases hx : xs[i]? with
  | none => simp [hx] at hc
  | some x =>
    simp only [hx, Option.map_some, Option.some.injEq] at hc; subst hc
    exact moveP_VR (h.2 i x v hx hv) (List.all_eq_true.1 ht x (List.mem_of_getElem? hx))

/-- what leaves a call -/
theorem leave_sound {mode base bar : Nat} {Γ Δ : Ctx} {H0 H : Heap} {vs : List AV} {us : List Value} {v : AV} {H' : Heap} (s0 : Sim Γ H0) (g : Good base bar (List.range H0.length) Γ Δ H0 H) (hv : VRs Δ vs us)
    (hmode : (mode = 2 ∨ mode = 3) ∨ base = H0.length) (hbar : bar ≤ base) (hb0 : base ≤ H0.length) (h : leave mode base bar vs H = some (v, H')) :
    ∃ Θ, Θ.w = Δ.w ∧ VR Θ v (tupleV us) ∧ Good base bar (List.range H0.length) Γ Θ H0 H' := by
  unfold leave at h
  split at h
  · simp only [Option.some.injEq, Prod.mk.injEq] at h
    obtain ⟨rfl, rfl⟩ := h
    exact ⟨Δ, rfl, hv.tupled, g⟩
  rename_i hm3
  split at h
  · cases h
  · rename_i vs1 H1 hfz
    obtain ⟨Δ1, g1, gw, gn, gρ, gv, hv1, _, _, hlen⟩ := (frz_sound base bar 8).2 _ _ _ _ _ _ hfz g.sim hv
    have g2 : Good base bar (List.range H0.length) Γ Δ1 H0 H1 := (g.trans g1).any (fun i _ hi => by simpa using hi)
    split at h
    · simp only [Option.some.injEq, Prod.mk.injEq] at h
      obtain ⟨rfl, rfl⟩ := h
      exact ⟨Δ1, gw, hv1.tupled, g2⟩
    · rename_i hm2
      have hbase : base = H0.length := hmode.resolve_left fun hc => hc.elim hm2 (fun e => hm3 (.inl e))
      subst hbase
      have hwf0 : WF H0.length H1 := g2.wf _ (Nat.le_refl _) s0.wf
      split at h
      · -- nothing is handed out
        split at h
        · rename_i ht
          simp only [Option.some.injEq, Prod.mk.injEq] at h
          obtain ⟨rfl, rfl⟩ := h
          refine ⟨Δ1.cut H0.length, gw, (hv1.cut ht).tupled, g2.cut s0.n _ (Nat.le_refl _) hwf0 g2.len hbar⟩
        · cases h
      · rename_i id hid
        split at h
        · rename_i ver0 cs0 fz0 ex0 hb1
          split at h
          · rename_i cs H2 hfz2
            -- the block's own cells
            obtain ⟨ver1, cs1, fz1, ex1, e1, e2, c, t, e3, e4, e5, e6, e7, e8⟩ := g2.sim.row id _ hb1
            simp only [Blk.row.injEq] at e1
            obtain ⟨rfl, rfl, rfl, rfl⟩ := e1
            have hcs0 : VRs Δ1 cs0 ((c.toList.drop (Δ1.δ id)).take cs0.length) := by
              refine ⟨by simp; omega, fun i x u hx hu => ?_⟩
              obtain ⟨_, w, h10, h11⟩ := e7 i x hx
              rw [List.getElem?_take] at hu
              split at hu
              · rw [List.getElem?_drop] at hu
                simp at hu
                rw [hu] at h10
                simp only [Option.some.injEq] at h10; subst h10
                exact h11
              · cases hu
            obtain ⟨Δ2, g3, gw3, gn3, gρ3, gv3, hcs, hone, _, hlen3⟩ := (frz_sound H0.length bar 8).2 _ _ _ _ _ _ hfz2 g2.sim hcs0
            have g4 : Good H0.length bar (List.range H0.length) Γ Δ2 H0 H2 := (g2.trans g3).any (fun i _ hi => by simpa using hi)
            split at h
            · rename_i ver fz ex hb2
              split at h
              · rename_i hc
                obtain ⟨hcl, ht, hmv, hle⟩ := hc
                simp only [Option.some.injEq, Prod.mk.injEq] at h
                obtain ⟨rfl, rfl⟩ := h
                refine ⟨Δ2.hand H0.length id, by show Δ2.w = _; rw [gw3, gw], ((hv1.mono g3.evo).map_moveP hmv).tupled, ?_⟩
                refine g4.hand s0.n hb2 hle (g4.wf _ (Nat.le_refl _) s0.wf) hbar (Nat.le_refl _) (fun c' t' hc' => ⟨hcl, fun i x hx => ?_⟩)
                rw [gw3, gρ3, e3] at hc'
                simp only [Option.some.injEq, Obj.cells.injEq] at hc'
                obtain ⟨rfl, _, _⟩ := hc'
                obtain ⟨u, hu, hxu⟩ := hcs.get hx
                have hdd : Δ2.δ id = Δ1.δ id := by
                  unfold Ctx.δ
                  rw [(g3.evo.same id (by rw [g2.sim.n]; exact (List.getElem?_eq_some_iff.1 hb1).1) (by rw [gv3])).2]
                rw [hdd]
                rw [List.getElem?_take] at hu
                split at hu
                · rw [List.getElem?_drop] at hu
                  refine ⟨hone (fun y hy => ?_) x (List.mem_of_getElem? hx), AV.tops_le ht x (List.mem_of_getElem? hx), u, by simpa using hu, hxu⟩
                  obtain ⟨j, hj, rfl⟩ := List.getElem_of_mem hy
                  exact (e7 j _ (List.getElem?_eq_getElem hj)).1
                · cases hu
              · cases h
            · cases h
          · cases h
        · cases h

def resRun (a : Act) : ResultVar → Sem Value
  | .tmp t => pure (a.tmps.getD t undef)
  | .cell p t => do loadVar t (← asAddr (a.tmps.getD p undef))

theorem run_results {nt : Nat} {Γ : Ctx} {fr : Frame} {a : Act} (F : Fits nt Γ fr a) {H : Heap} (s : Sim Γ H) : ∀ {l : List ResultVar} {rs : List ARes} {vs : List AV}, cRes P l = some rs → resOf fr H rs = some vs →
    ∃ us, (l.mapM (resRun a)).run P Γ.w = .ok us Γ.w ∧ VRs Γ vs us
  | [], rs, vs, hr, hv => by
    simp [cRes] at hr; subst hr
    simp [resOf] at hv; subst hv
    exact ⟨[], by simp, VRs.nil⟩
  | .tmp t :: r, rs, vs, hr, hv => by
    simp only [cRes] at hr
    cases hc : cRes P r with
    | none => simp [hc] at hr
    | some rs' =>
      simp only [hc, Option.map_some, Option.some.injEq] at hr; subst hr
      simp only [resOf] at hv
      split at hv <;> try (cases hv; done)
      rename_i v vs' h1 h2
      simp only [Option.some.injEq] at hv; subst hv
      obtain ⟨us, e1, e2⟩ := run_results F s hc h2
      exact ⟨_ :: us, by rw [List.mapM_cons]; simp [resRun, e1], VRs.cons (F.fr t v h1) e2⟩
  | .cell p t :: r, rs, vs, hr, hv => by
    simp only [cRes] at hr
    split at hr <;> try (cases hr; done)
    rename_i ti rs' hti hc
    simp only [Option.some.injEq] at hr; subst hr
    simp only [resOf] at hv
    split at hv <;> try (cases hv; done)
    rename_i x hx
    split at hv <;> try (cases hv; done)
    rename_i v vs' h1 h2
    simp only [Option.some.injEq] at hv; subst hv
    obtain ⟨us, e1, e2⟩ := run_results F s hc h2
    have hrel := F.fr p x hx
    obtain ⟨v', l1, l2⟩ := aload_sound (P := P) s hti hrel h1
    have hl : (do loadVar t (← asAddr (a.tmps.getD p undef)) : Sem Value).run P Γ.w = .ok v' Γ.w := by
      generalize a.tmps.getD p undef = q at hrel l1
      cases hrel <;> simp [aload] at h1 <;> simpa [Instr.loadAt, Instr.sureAddr, asAddr] using l1
    have hl' : (resRun a (.cell p t)).run P Γ.w = .ok v' Γ.w := hl
    exact ⟨v' :: us, by rw [List.mapM_cons]; simp [hl', e1], VRs.cons l2 e2⟩

theorem results_sound {nt : Nat} {Γ : Ctx} {fr : Frame} {a : Act} (F : Fits nt Γ fr a) {H : Heap} (s : Sim Γ H) {fn : Func} {rs : List ARes} {vs : List AV} (hr : cRes P fn.results.toList = some rs) (hv : resOf fr H rs = some vs) :
    ∃ us, (results fn a.tmps).run P Γ.w = .ok (tupleV us) Γ.w ∧ VRs Γ vs us := by
  obtain ⟨us, e1, e2⟩ := run_results (P := P) F s hr hv
  refine ⟨us, ?_, e2⟩
  have he : results fn a.tmps = (do
      let vs ← fn.results.mapM (resRun a)
      pure (if h : vs.size = 1 then vs[0] else .tuple vs)) := by
    unfold results
    congr 1
  rw [he, Array.mapM_eq_mapM_toList]
  simp only [Sem.run_bind, Sem.run_map, e1, Result.andThen_ok, Sem.run_pure]
  congr 1
  match us with
  | [] => rfl
  | [u] => rfl
  | u :: v :: r => simp [tupleV]

end Go.Ab
