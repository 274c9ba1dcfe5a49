/-
  Part of the proved evaluator, or answers that it computed.
-/
import Derived.Test.YtihdlpeghlhnoaaGreatDoorAbCode
set_option linter.all false
namespace Go.Ab
variable {P : Program}

theorem fget_fset (fr : Frame) (t u : Nat) (v : AV) : fget u (fset t v fr) = if u = t then some v else fget u fr := by
  induction fr with
  | nil => simp only [fsetN, fsetC, fgetN, fgetC]
  | cons p r ih =>
    obtain ⟨s, x⟩ := p
    simp only [fsetN, fsetC]
    by_cases hts : t = s
    · subst hts
      rw [if_pos rfl]
      simp only [fgetN, fgetC]
      by_cases hut : u = t
      · simp [hut]
      · simp [hut]
    · rw [if_neg hts]
      simp only [fgetN, fgetC, ih]
      by_cases hus : u = s
      · subst hus
        have : u ≠ t := fun e => hts e.symm
        simp [this]
      · simp [hus]

theorem Fits.put {nt : Nat} {Γ : Ctx} {fr : Frame} {a : Act} (F : Fits nt Γ fr a) {d : Option Nat} (hd : d.all (fun t => Nat.blt t nt) = true) {v : AV} {u : Value} (hv : VR Γ v u) : Fits nt Γ (fput d v fr) (a.put d u) := by
  cases d with
  | none => exact F
  | some t =>
    simp only [Option.all_some, Nat.blt_eq] at hd
    refine ⟨fun s x hx => ?_, by simp [Act.put, F.size], F.defers, F.glob⟩
    simp only [fput, fget_fset] at hx
    have hts : t < a.tmps.size := by rw [F.size]; exact hd
    simp only [Act.put]
    split at hx
    · rename_i hs; subst hs
      simp only [Option.some.injEq] at hx; subst hx
      simpa [Array.getD_eq_getD_getElem?, hts] using hv
    · rename_i hs
      have := F.fr s x hx
      rw [Array.getD_eq_getD_getElem?, Array.getElem?_setIfInBounds_ne (Ne.symm hs), ← Array.getD_eq_getD_getElem?]
      exact this

theorem fget_fkeep (ts : List Nat) : ∀ (fr : Frame) (t : Nat) (v : AV), fget t (fkeep ts fr) = some v → fget t fr = some v
  | [], t, v, h => by simp [fkeepN, fkeepC, fgetN, fgetC] at h
  | (u, x) :: r, t, v, h => by
    simp only [fkeepN, fkeepC] at h
    by_cases hu : ts.contains u = true
    · rw [if_pos hu] at h
      simp only [fgetN, fgetC] at h ⊢
      split at h
      · rename_i he; rw [if_pos he]; exact h
      · rename_i he; rw [if_neg he]; exact fget_fkeep ts r t v h
    · rw [if_neg hu] at h
      simp only [fgetN, fgetC]
      have h1 := fget_fkeep ts r t v h
      by_cases he : t = u
      · subst he
        -- the slot is not kept, so it is not found further on
        exfalso
        have : ∀ (r : Frame), fget t (fkeep ts r) = none := by
          intro r
          induction r with
          | nil => rfl
          | cons p r ih =>
            obtain ⟨s, y⟩ := p
            simp only [fkeepN, fkeepC]
            split
            · rename_i hs
              simp only [fgetN, fgetC]
              rw [if_neg (by intro e; subst e; exact hu hs), ih]
            · exact ih
        rw [this] at h; cases h
      · rw [if_neg he]; exact h1

theorem Fits.keep {nt : Nat} {Γ : Ctx} {fr : Frame} {a : Act} (F : Fits nt Γ fr a) (ts : List Nat) : Fits nt Γ (fkeep ts fr) a := ⟨fun t v h => F.fr t v (fget_fkeep ts fr t v h), F.size, F.defers, F.glob⟩

theorem undef_VR {Γ : Ctx} : VR Γ (.tup []) undef := .tup _ _ rfl (by simp)

theorem want_sound {nt : Nat} {Γ : Ctx} {fr : Frame} {a : Act} (F : Fits nt Γ fr a) {ops : Array Oper} {o : Oper} {g : Option (Nat × Bool)} (hg : cGuard ops o.guard = some g) {b : Bool} (h : wantA g fr = some b) :
    Region.wanted o (yielded ops a.tmps) = b := by
  unfold Region.wanted
  cases hog : o.guard with
  | none =>
    rw [hog] at hg; simp [cGuard] at hg; subst hg
    simp [wantA] at h; simpa using h
  | some p =>
    obtain ⟨j, want⟩ := p
    rw [hog] at hg
    simp only [cGuard] at hg
    split at hg
    · rename_i t ht
      simp only [Option.some.injEq] at hg; subst hg
      simp only [wantA] at h
      have hy : yielded ops a.tmps j = match a.tmps[t]? with | some (.bool b) => some b | _ => none := by
        unfold yielded; rw [ht]; rfl
      simp only [hy]
      split at h
      · rename_i x hx
        simp only [Option.some.injEq] at h; subst h
        have hv := F.fr t _ hx
        rw [Array.getD_eq_getD_getElem?] at hv
        cases hq : a.tmps[t]? with
        | none => rw [hq] at hv; simp [undef] at hv; cases hv
        | some u =>
          rw [hq] at hv
          simp at hv
          cases hv
          cases x <;> cases want <;> rfl
      · rename_i x hx hnb
        simp only [Option.some.injEq] at h; subst h
        have hv := F.fr t _ hnb
        rw [Array.getD_eq_getD_getElem?] at hv
        cases hq : a.tmps[t]? with
        | none => rfl
        | some u =>
          rw [hq] at hv
          simp at hv
          cases hv <;> first | rfl | (exact absurd rfl (hx _))
      · cases h
    · cases hg

theorem cOp_call {op : Op} {r : AOp} (h : cOp P op = some r) (hc : (∃ f args, r = .callF f args) ∨ (∃ x args, r = .callV x args) ∨ ∃ tbl x args, r = .callI tbl x args) : ∃ c, op = .call c ∧ cCall P c = some r := by
  cases op
  case call c => exact ⟨c, rfl, h⟩
  all_goals exfalso
  all_goals unfold cOp at h
  all_goals try (dsimp only at h)
  all_goals repeat' split at h
  all_goals first
    | (cases h; done)
    | (simp only [Option.some.injEq] at h; subst h; rcases hc with ⟨f, args, e⟩ | ⟨x, args, e⟩ | ⟨tbl, x, args, e⟩ <;> cases e; done)
    | (simp only [Option.map_eq_some_iff] at h; obtain ⟨q, _, rfl⟩ := h; rcases hc with ⟨f, args, e⟩ | ⟨x, args, e⟩ | ⟨tbl, x, args, e⟩ <;> cases e; done)
    | (rename_i heq; cases heq)

theorem cCall_F {c : Call} {f : FuncId} {args : List Opd} (h : cCall P c = some (.callF f args)) : c.callee = .value (.func f) ∧ cOpds c.args.toList = some args := by
  unfold cCall at h
  split at h
  · rename_i g as h1 h2; simp only [Option.some.injEq, AOp.callF.injEq] at h; obtain ⟨rfl, rfl⟩ := h; exact ⟨h1, h2⟩
  all_goals repeat' split at h
  all_goals first
    | (cases h; done)
    | (simp at h; done)

theorem cCall_V {c : Call} {x : Opd} {args : List Opd} (h : cCall P c = some (.callV x args)) : ∃ t, c.callee = .value (.tmp t) ∧ x = .t t ∧ cOpds c.args.toList = some args := by
  unfold cCall at h
  split at h
  · simp at h
  · rename_i t as h1 h2; simp only [Option.some.injEq, AOp.callV.injEq] at h; obtain ⟨rfl, rfl⟩ := h; exact ⟨t, h1, rfl, h2⟩
  all_goals repeat' split at h
  all_goals first
    | (cases h; done)
    | (simp at h; done)

theorem cCall_I {c : Call} {tbl : List (TypeId × FuncId)} {x : Opd} {args : List Opd} (h : cCall P c = some (.callI tbl x args)) : ∃ r name, c.callee = .invoke r name ∧ cOpd r = some x ∧ tbl = iTable P name ∧ cOpds c.args.toList = some args := by
  unfold cCall at h
  split at h
  · simp at h
  · simp at h
  · rename_i r name as h1 h2
    split at h <;> try (cases h; done)
    rename_i y hy
    simp only [Option.some.injEq, AOp.callI.injEq] at h
    obtain ⟨rfl, rfl, rfl⟩ := h
    exact ⟨r, name, h1, hy, rfl, h2⟩
  all_goals repeat' split at h
  all_goals first
    | (cases h; done)
    | (simp at h; done)

theorem tlook_mem : ∀ {tbl : List (TypeId × FuncId)} {t : TypeId} {f : FuncId}, tlook tbl t = some f → (t, f) ∈ tbl
  | [], t, f, h => by simp [tlook] at h
  | (u, g) :: r, t, f, h => by
    simp only [tlook] at h
    split at h
    · rename_i e; subst e; simp only [Option.some.injEq] at h; subst h; exact List.mem_cons_self ..
    · exact List.mem_cons_of_mem _ (tlook_mem h)
theorem iTable_iOf {name : String} {t : TypeId} {f : FuncId} (h : tlook (iTable P name) t = some f) : iOf P name t = some f := by
  have hm := tlook_mem h
  simp only [iTable, List.mem_filterMap, Option.map_eq_some_iff, Prod.mk.injEq] at hm
  obtain ⟨u, _, g, h1, rfl, rfl⟩ := hm
  exact h1
theorem method_run {name : String} {t : TypeId} {f : FuncId} (h : iOf P name t = some f) (d : Nat) (v : Value) (w : World) : (method (d + 1) t v name).run P w = .ok (f, v) w := by
  unfold iOf at h
  split at h <;> try (cases h; done)
  rename_i i ds hi hu
  split at h <;> try (cases h; done)
  rename_i hnp
  split at h <;> try (cases h; done)
  rename_i m hm
  split at h <;> try (cases h; done)
  rename_i hp
  split at h <;> try (cases h; done)
  rename_i g hg
  simp only [Option.some.injEq] at h; subst h
  have hpl : m.path.toList = [] := by
    have : m.path = #[] := by simpa using hp
    rw [this]
  simp [method, typeInfo, hi, hm, hpl, follow, hg, receiverAt, run_underlying hu, Place.get]

theorem enter_run {f : FuncId} {fn : Func} (hf : P.funcs[f]? = some fn) (hn : fn.name ≠ "runtime.NumGoroutine") (hb : fn.body.isSome = true) (args : Array Value) (w : World) : (callFunc f args).run P w = .ok (.enter f args) w := by
  cases hbb : fn.body with
  | none => simp [hbb] at hb
  | some c => simp [callFunc, hf, hn, hbb]

/-- one operation, a call or not -/
theorem aopC_sound {env : Env} {ex : Ex} (HF : FunsOK P env) (HK : KnownOK P env) (HE : ExOK P ex) {nt base bar : Nat} {pure : Bool} {Γ : Ctx} {fr : Frame} {a : Act} {H H' : Heap} (F : Fits nt Γ fr a) (s : Sim Γ H)
    (hbase : base ≤ H.length) (hbar : bar ≤ base) {o : Oper} {op : AOp} (hop : cOp P o.op = some op) {v : AV} {tc : List Nat} (h : aopC env ex pure base bar op fr H = some (v, H', tc)) {Q : Exit → Act → World → Prop} {K : Act → World → Prop}
    (hK : ∀ (Δ : Ctx) (v' : Value), VR Δ v v' → Good base bar tc Γ Δ H H' → K (a.put o.dst v') Δ.w) : o.wp P a Γ.w K Q := by
  have plain : aop base bar op fr H = some (v, H', tc) → o.wp P a Γ.w K Q := fun h => by
    obtain ⟨Δ, v', ⟨n, hr, hn⟩, hv, g⟩ := aop_sound F s hbase (by omega) hop h
    unfold Oper.wp
    rw [hr]
    rcases hn with rfl | ⟨rfl, rfl⟩
    · exact hK Δ v' hv g
    · exact hK Δ undef hv g
  cases op <;> simp only [aopC] at h <;> try exact plain h
  · -- a call of a function
    rename_i f args
    obtain ⟨c, hc, hcc⟩ := cOp_call hop (.inl ⟨f, args, rfl⟩)
    obtain ⟨h1, h2⟩ := cCall_F hcc
    split at h <;> try (cases h; done)
    rename_i vs hvs
    split at h <;> try (cases h; done)
    rename_i r H1 hcall
    simp only [Option.some.injEq, Prod.mk.injEq] at h
    obtain ⟨rfl, rfl, rfl⟩ := h
    obtain ⟨⟨fn, e1, e2, e3⟩, hct⟩ := callWith_sound HF HK HE hcall hbar hbase
    have hrel := opds_VR F h2 hvs
    have hrun : (execOp a.eval o).run P Γ.w = .ok (.enter f (c.args.map a.eval)) Γ.w := by
      unfold execOp
      rw [hc]
      simp only [resolve, h1, Act.eval, Deferred.ofValue, Sem.run_bind, Sem.run_pure, Result.andThen_ok, invoke, Array.append_empty, Array.empty_append]
      exact enter_run e1 e2 e3 _ _
    unfold Oper.wp
    rw [hrun]
    have := hct Γ _ s hrel
    have harr : (c.args.toList.map a.eval).toArray = c.args.map a.eval := by
      apply Array.ext'; simp
    rw [harr] at this
    refine this.mono fun e w' ⟨Δ, v', x1, x2, x3, x4⟩ => ?_
    subst x1 x2
    exact hK Δ v' x3 x4
  · -- a call of a function value
    rename_i x args
    obtain ⟨c, hc, hcc⟩ := cOp_call hop (.inr (.inl ⟨x, args, rfl⟩))
    obtain ⟨t, h1, rfl, h2⟩ := cCall_V hcc
    split at h <;> try (cases h; done)
    rename_i f first caps vs hxv hvs
    split at h <;> try (cases h; done)
    rename_i r H1 hcall
    simp only [Option.some.injEq, Prod.mk.injEq] at h
    obtain ⟨rfl, rfl, rfl⟩ := h
    obtain ⟨⟨fn, e1, e2, e3⟩, hct⟩ := callWith_sound HF HK HE hcall hbar hbase
    have hrel := opds_VR F h2 hvs
    have hfv := F.fr t _ hxv
    obtain ⟨us1, us2, hev, hr1, hr2⟩ : ∃ us1 us2 : Array Value, a.tmps.getD t undef = .func (.func f) us1 us2 ∧ VRs Γ first us1.toList ∧ VRs Γ caps us2.toList := by
      generalize a.tmps.getD t undef = q at hfv
      cases hfv with
      | fn _ _ _ us vs hl hl' h h' => exact ⟨us, vs, rfl, ⟨by simpa using hl, fun i c v hc hv => h i c v hc (by simpa using hv)⟩, ⟨by simpa using hl', fun i c v hc hv => h' i c v hc (by simpa using hv)⟩⟩
    have hrun : (execOp a.eval o).run P Γ.w = .ok (.enter f (us1 ++ c.args.map a.eval ++ us2)) Γ.w := by
      unfold execOp
      rw [hc]
      simp only [resolve, h1, Act.eval, hev, Deferred.ofValue, Sem.run_bind, Sem.run_pure, Result.andThen_ok, invoke]
      exact enter_run e1 e2 e3 _ _
    unfold Oper.wp
    rw [hrun]
    have := hct Γ _ s ((hr1.append hrel).append hr2)
    have harr : (us1.toList ++ c.args.toList.map a.eval ++ us2.toList).toArray = us1 ++ c.args.map a.eval ++ us2 := by
      apply Array.ext'; simp
    rw [harr] at this
    refine this.mono fun e w' ⟨Δ, v', x1, x2, x3, x4⟩ => ?_
    subst x1 x2
    exact hK Δ v' x3 x4

  · -- a call of an interface's method
    rename_i tbl x args
    obtain ⟨c, hc, hcc⟩ := cOp_call hop (.inr (.inr ⟨tbl, x, args, rfl⟩))
    obtain ⟨rv, name, h1, hx, rfl, h2⟩ := cCall_I hcc
    split at h <;> try (cases h; done)
    rename_i t u vs hxv hvs
    split at h <;> try (cases h; done)
    rename_i f htl
    split at h <;> try (cases h; done)
    rename_i r H1 hcall
    simp only [Option.some.injEq, Prod.mk.injEq] at h
    obtain ⟨rfl, rfl, rfl⟩ := h
    obtain ⟨⟨fn, e1, e2, e3⟩, hct⟩ := callWith_sound HF HK HE hcall hbar hbase
    have hrel := opds_VR F h2 hvs
    have hfv := opd_VR F hx hxv
    obtain ⟨uv, hev, hru⟩ : ∃ uv, a.eval rv = .iface t uv ∧ VR Γ u uv := by
      generalize a.eval rv = q at hfv
      cases hfv with
      | ifc _ _ v h => exact ⟨v, rfl, h⟩
    have hm := fun d w => method_run (iTable_iOf htl) d uv w
    have hrun : (execOp a.eval o).run P Γ.w = .ok (.enter f (#[uv] ++ c.args.map a.eval)) Γ.w := by
      have hm' : ∀ w, (method (P.types.size + Made.depth) t uv name).run P w = .ok (f, uv) w := fun w => hm (P.types.size + 99) w
      have h0 : ∀ (q : Value) (l : Array Value), (#[q] ++ l)[0]? = some q := fun q l => by
        rw [Array.getElem?_append_left (by simp)]; rfl
      have h3 : ∀ (q : Value) (l : Array Value), (#[q] ++ l).extract 1 (#[q] ++ l).size = l := fun q l => by
        apply Array.ext'
        simp [Array.toList_extract]
      have hcm : (callMethod (.iface t uv) name (c.args.map a.eval)).run P Γ.w = .ok (.enter f (#[uv] ++ c.args.map a.eval)) Γ.w := by
        simp only [callMethod, Sem.run_bind, run_program, Result.andThen_ok, hm']
        exact enter_run e1 e2 e3 _ _
      unfold execOp
      rw [hc]
      simp only [resolve, h1, hev, Sem.run_bind, Sem.run_pure, Result.andThen_ok, invoke, h0, h3]
      exact hcm
    unfold Oper.wp
    rw [hrun]
    have := hct Γ _ s (VRs.cons hru hrel)
    have harr : (uv :: c.args.toList.map a.eval).toArray = #[uv] ++ c.args.map a.eval := by
      apply Array.ext'; simp
    rw [harr] at this
    refine this.mono fun e w' ⟨Δ, v', x1, x2, x3, x4⟩ => ?_
    subst x1 x2
    exact hK Δ v' x3 x4

/-- a region in the order of its text -/
theorem runOps_sound {env : Env} {ex : Ex} (HF : FunsOK P env) (HK : KnownOK P env) (HE : ExOK P ex) {nt base bar : Nat} {ops : Array Oper} {Q : Exit → Act → World → Prop} : ∀ (l : List Oper) (k : Nat) (l' : List AOper) (st st' : St) (Γ : Ctx) (a : Act),
    (∀ j, l[j]? = ops[k + j]?) → cOpers P nt ops l = some l' → runOps env ex base bar l' st = some st' → Fits nt Γ st.fr a → Sim Γ st.H → base ≤ st.H.length → bar ≤ base →
    (∀ (Δ : Ctx) (a' : Act), Fits nt Δ st'.fr a' → Good base bar (List.range st.H.length) Γ Δ st.H st'.H → Q .normal a' Δ.w) → wpOps P ops Q (List.range' k l.length) a Γ.w
  | [], k, l', st, st', Γ, a, _, hc, hr, F, s, _, _, hQ => by
    simp [cOpers] at hc; subst hc
    simp [runOps] at hr; subst hr
    exact hQ Γ a F (Good.refl s)
  | o :: r, k, l', st, st', Γ, a, hl, hc, hr, F, s, hbase, hbar, hQ => by
    simp only [cOpers] at hc
    split at hc <;> try (cases hc; done)
    rename_i g r' hg hcr
    split at hc <;> try (cases hc; done)
    rename_i hd
    simp only [Option.some.injEq] at hc; subst hc
    have ho : ops[k]? = some o := by simpa using (hl 0).symm
    have hl' : ∀ j, r[j]? = ops[k + 1 + j]? := fun j => by
      have := hl (j + 1)
      rw [show k + (j + 1) = k + 1 + j from by omega] at this
      simpa using this
    simp only [runOps] at hr
    simp only [List.length_cons, List.range'_succ, wpOps, ho]
    split at hr
    · rename_i hw
      rw [if_pos (want_sound F hg hw)]
      split at hr <;> try (cases hr; done)
      rename_i v H1 tc hop
      left
      have hcop : cOp P o.op = some ((cOp P o.op).getD .bad) := by
        cases hco : cOp P o.op with
        | none => rw [hco] at hop; simp [aopC, aop] at hop
        | some x => rfl
      refine aopC_sound HF HK HE F s hbase hbar hcop hop fun Δ v' hv g => ?_
      refine runOps_sound HF HK HE r (k + 1) r' _ st' Δ _ hl' hcr hr ((F.mono g.evo).put hd hv) g.sim (Nat.le_trans hbase g.len) hbar fun Θ a' F' g' => hQ Θ a' F' ((g.trans g').all)
    · rename_i hw
      rw [if_neg (by rw [want_sound F hg hw]; simp)]
      exact runOps_sound HF HK HE r (k + 1) r' _ st' Γ _ hl' hcr hr (F.put hd undef_VR) s hbase hbar hQ
    · cases hr

end Go.Ab
