/-
  Part of the proved evaluator, or answers that it computed.
-/
import Derived.Test.YtihdlpeghlhnoaaGreatDoorAbLeave
set_option linter.all false
namespace Go.Ab
variable {P : Program}

/-- the compiled functions are those of the program -/
def FunsOK (P : Program) (env : Env) : Prop :=
  ∀ (f : FuncId) (af : AFun), env.funs f = some af → ∃ (fn : Func) (A : Ann), P.funcs[f]? = some fn ∧ fn.name ≠ "runtime.NumGoroutine" ∧ cfun P A af.mode af.raw fn = some af

/-- the contracts that are used hold -/
def KnownOK (P : Program) (env : Env) : Prop :=
  ∀ (f : FuncId) (args : List AV) (H : Heap) (k : KRes), env.known f args H = some k → CallsTo P f H.length 0 (List.range H.length) args H k.v (applyUps k.ups H ++ k.news)

theorem applyUps_length : ∀ (ups : List (Nat × Blk)) (H : Heap), (applyUps ups H).length = H.length
  | [], _ => rfl
  | (i, b) :: r, H => by simp [applyUps, applyUps_length r]

theorem applyUps_get {bar : Nat} : ∀ (ups : List (Nat × Blk)) (H : Heap), ups.all (fun u => bar ≤ u.1) = true → ∀ i, i < bar → (applyUps ups H)[i]? = H[i]?
  | [], _, _, _, _ => rfl
  | (j, b) :: r, H, h, i, hi => by
    simp only [List.all_cons, Bool.and_eq_true, decide_eq_true_eq] at h
    rw [applyUps, applyUps_get r _ h.2 i hi, List.getElem?_set_ne (by omega)]

/-- what a body does at a given fuel: as a whole, from inside a loop, from inside a scope -/
def Post (e : AExit) (nt base bar : Nat) (Γ : Ctx) (st st' : St) : Exit → Act → World → Prop := fun e' a' w' =>
  e' = (match e with | .normal => .normal | .exit i => .exit i | .goto l => .goto l | .ret => .ret) ∧ ∃ Δ, Δ.w = w' ∧ Fits nt Δ st'.fr a' ∧ Good base bar (List.range st.H.length) Γ Δ st.H st'.H

structure ExOK (P : Program) (ex : Ex) : Prop where
  code : ∀ {A : Ann} {nt base bar : Nat} {c : Code} {c' : ACode} {st st' : St} {e : AExit}, ccode P A nt c = some c' → ex base bar c' st = some (e, st') → ∀ {Γ : Ctx} {a : Act}, Fits nt Γ st.fr a → Sim Γ st.H → base ≤ st.H.length → bar ≤ base →
    c.wp P (Post e nt base bar Γ st st') a Γ.w
  loop : ∀ {A : Ann} {nt base bar : Nat} {c : Code} {c' : ACode} {st st' : St} {e : AExit}, ccode P A nt c = some c' → ex base bar (.loop c') st = some (e, st') → ∀ {Γ : Ctx} {a : Act}, Fits nt Γ st.fr a → Sim Γ st.H → base ≤ st.H.length → bar ≤ base →
    ∀ (b : Go.Frame) (k : List Item) (cs : List Go.Frame), ∃ e' a' w', Post e nt base bar Γ st st' e' a' w' ∧ Arrives P (lone (b.at a (.code c :: .inLoop c :: k)) cs Γ.w) b k cs e' a' w'
  scope : ∀ {A : Ann} {nt base bar : Nat} {c d : Code} {c' d' : ACode} {st st' : St} {e : AExit}, ccode P A nt c = some c' → ccode P A nt d = some d' → ex base bar (.scope c' d') st = some (e, st') → ∀ {Γ : Ctx} {a : Act}, Fits nt Γ st.fr a → Sim Γ st.H →
    base ≤ st.H.length → bar ≤ base →
    ∀ (b : Go.Frame) (k : List Item) (cs : List Go.Frame), ∃ e' a' w', Post e nt base bar Γ st st' e' a' w' ∧ Arrives P (lone (b.at a (.code d :: .inScope c :: k)) cs Γ.w) b k cs e' a' w'

theorem frame0_get : ∀ {xs : List AV} {i t : Nat} {v : AV}, fget t (frame0 i xs) = some v → i ≤ t ∧ xs[t - i]? = some v
  | [], i, t, v, h => by simp [frame0, fgetN, fgetC] at h
  | x :: r, i, t, v, h => by
    simp only [frame0, fgetN, fgetC] at h
    split at h
    · rename_i ht; subst ht
      simp only [Option.some.injEq] at h; subst h
      simp
    · obtain ⟨h1, h2⟩ := frame0_get h
      refine ⟨by omega, ?_⟩
      rw [show t - i = (t - (i + 1)) + 1 from by omega, List.getElem?_cons_succ]
      exact h2

theorem callWith_sound0 {env : Env} {ex : Ex} (HF : FunsOK P env) (HK : KnownOK P env) (HE : ExOK P ex) {pure : Bool} {base bar : Nat} {f : FuncId} {args : List AV} {H H' : Heap} {v : AV}
    (h : callWith env ex pure base bar f args H = some (v, H')) (hbar : bar ≤ base) (hbase : base ≤ H.length) :
    (∃ fn, P.funcs[f]? = some fn ∧ fn.name ≠ "runtime.NumGoroutine" ∧ fn.body.isSome = true) ∧ CallsTo P f base bar (touchC pure H args) args H v H' := by
  unfold callWith at h
  split at h
  · cases h
  rename_i af haf
  obtain ⟨fn, A, hfn, hname, hcf⟩ := HF f af haf
  have hcf' := hcf
  unfold cfun at hcf
  split at hcf <;> try (cases hcf; done)
  rename_i c0 hbody
  split at hcf <;> try (cases hcf; done)
  rename_i c1 rs hcc hrs
  simp only [Option.some.injEq] at hcf
  refine ⟨⟨fn, hfn, hname, by rw [hbody]; rfl⟩, ?_⟩
  split at h
  · cases h
  rename_i args1 H1 hargs
  intro Γ us s hv
  -- the arguments, frozen
  obtain ⟨Δ, g, gw, hv1, hlen, hpure⟩ : ∃ Δ, Good base bar (List.range H.length) Γ Δ H H1 ∧ Δ.w = Γ.w ∧ VRs Δ args1 us ∧ H1.length = H.length ∧ (∀ i, i ∉ touchA H args → H1[i]? = H[i]?) := by
    split at hargs
    · simp only [Option.some.injEq, Prod.mk.injEq] at hargs
      obtain ⟨rfl, rfl⟩ := hargs
      exact ⟨Γ, Good.refl s, rfl, hv, rfl, fun _ _ => rfl⟩
    · obtain ⟨Δ, g, gw, _, _, _, hv1, _, _, hlen⟩ := (frz_sound base bar 8).2 _ _ _ _ _ _ hargs s hv
      refine ⟨Δ, g, gw, hv1, hlen, fun i hi => ?_⟩
      unfold touchA at hi
      split at hi
      · rename_i hn
        rw [((frz_noVec 8 bar).2 _ _ _ _ hn hargs).2]
      · split at hi
        · rename_i hf
          exact frz_touch hf hargs i hi
        · have hl : H.length ≤ i := by simpa using hi
          rw [List.getElem?_eq_none hl, List.getElem?_eq_none (by omega)]
  -- the touched blocks
  have touch : ∀ {Θ : Ctx}, Good base (barOf pure H1.length bar) (List.range H1.length) Δ Θ H1 H' → Good base bar (touchC pure H args) Γ Θ H H' := fun {Θ} g2 => by
    have hb' : bar ≤ barOf pure H1.length bar := by unfold barOf; split <;> omega
    have g3 := g.trans (g2.weaken (Nat.le_refl _) hb')
    unfold touchC
    by_cases hp : pure = true
    · rw [if_pos hp]
      refine ⟨g3.sim, g3.evo, g3.wf, g3.bar, fun i hi ht => ?_, g3.len⟩
      rw [g2.bar i (by subst hp; simp only [barOf, if_true]; omega)]
      exact hpure i ht
    · rw [if_neg hp]
      exact g3.any (fun i _ hi => by simpa using hi)
  have hgoal : Calls P f us.toArray Δ.w (fun e w' => ∃ Θ v', e = .returned v' ∧ Θ.w = w' ∧ VR Θ v v' ∧ Good base (barOf pure H1.length bar) (List.range H1.length) Δ Θ H1 H') →
      Calls P f us.toArray Γ.w (fun e w' => ∃ Θ v', e = .returned v' ∧ Θ.w = w' ∧ VR Θ v v' ∧ Good base bar (touchC pure H args) Γ Θ H H') := fun hc => by
    rw [← gw]
    exact hc.mono fun e w' ⟨Θ, v', h1, h2, h3, h4⟩ => ⟨Θ, v', h1, h2, h3, touch h4⟩
  apply hgoal
  split at h
  · -- by its contract
    rename_i k hk
    split at h
    · rename_i hc
      simp only [Option.some.injEq, Prod.mk.injEq] at h
      obtain ⟨rfl, rfl⟩ := h
      simp only [Bool.and_eq_true] at hc
      refine (HK f args1 H1 k hk Δ us g.sim hv1).mono fun e w' ⟨Θ, v', h1, h2, h3, h4⟩ => ⟨Θ, v', h1, h2, h3, ⟨h4.sim, h4.evo, fun m hm => h4.wf m (by omega), fun i hi => ?_, h4.tc, h4.len⟩⟩
      have hi' : i < H1.length := by
        unfold barOf at hi
        split at hi
        · exact hi
        · omega
      rw [List.getElem?_append_left (by rw [applyUps_length]; exact hi')]
      exact applyUps_get k.ups H1 hc.1 i hi
    · cases h
  · -- by its body
    split at h
    · cases h
    rename_i hnt
    split at h
    · cases h
    rename_i hpm
    have hnt' : af.nt = fn.ntmps := by rw [← hcf]
    have hbd : af.body = c1 := by rw [← hcf]
    have hres : af.res = rs := by rw [← hcf]
    have hargl : args1.length ≤ fn.ntmps := by omega
    have F0 : Fits fn.ntmps Δ (frame0 0 args1) { tmps := us.toArray ++ Array.replicate (fn.ntmps - us.toArray.size) undef, defers := [] } := by
      have hul : us.length = args1.length := hv1.1.symm
      refine ⟨fun t x ht => ?_, by simp; omega, rfl, g.sim.glob⟩
      obtain ⟨_, h2⟩ := frame0_get ht
      simp only [Nat.sub_zero] at h2
      obtain ⟨u, hu, hr⟩ := hv1.get h2
      have hlt : t < us.length := (List.getElem?_eq_some_iff.1 hu).1
      have : (us.toArray ++ Array.replicate (fn.ntmps - us.toArray.size) undef).getD t undef = u := by
        rw [Array.getD_eq_getD_getElem?, Array.getElem?_append_left (by simpa using hlt)]
        simp [hu]
      rw [this]; exact hr
    have hmode : (pure = true → af.mode = 0 ∨ af.mode = 4) := fun hp => by
      subst hp
      simp only [Bool.true_and, Bool.and_eq_true, bne_iff_ne, ne_eq, not_and, Classical.not_not] at hpm
      exact Classical.byCases (fun h : af.mode = 0 => .inl h) (fun h => .inr (hpm h))
    have hb1 : (baseOf af.mode base H1.length) ≤ H1.length := by unfold baseOf; split <;> omega
    have hb2 : (barOf pure H1.length bar) ≤ (baseOf af.mode base H1.length) := by
      cases pure with
      | true =>
        rcases hmode rfl with h | h <;> simp [h, barOf, baseOf]
      | false =>
        simp only [barOf, Bool.false_eq_true, if_false]
        unfold baseOf
        split <;> omega
    have hbb : base ≤ (baseOf af.mode base H1.length) := by unfold baseOf; split <;> omega
    have hm2 : (af.mode = 2 ∨ af.mode = 3) ∨ baseOf af.mode base H1.length = H1.length := by
      unfold baseOf
      split
      · rename_i hx; exact .inl hx
      · exact .inr rfl
    -- the end
    have fin : ∀ (e : AExit) (st : St) (vs : List AV), (e = .normal ∨ e = .ret) → ex (baseOf af.mode base H1.length) (barOf pure H1.length bar) af.body ⟨frame0 0 args1, H1⟩ = some (e, st) → resOf st.fr st.H af.res = some vs →
        leave af.mode (baseOf af.mode base H1.length) (barOf pure H1.length bar) vs st.H = some (v, H') →
        Calls P f us.toArray Δ.w (fun e w' => ∃ Θ v', e = .returned v' ∧ Θ.w = w' ∧ VR Θ v v' ∧ Good base (barOf pure H1.length bar) (List.range H1.length) Δ Θ H1 H') := fun e st vs he hex hvs hlv => by
      rw [hbd] at hex
      have hwp := HE.code hcc hex F0 g.sim hb1 hb2
      refine calls_of_wp hfn hbody (wp_mono hwp fun e' a' w' hpost => ?_)
      obtain ⟨he', Θ, rfl, F1, g1⟩ := hpost
      rw [hres] at hvs
      obtain ⟨us', r1, r2⟩ := results_sound (P := P) F1 g1.sim hrs hvs
      obtain ⟨Ξ, x1, x2, x3⟩ := leave_sound (H0 := H1) g.sim g1 r2 hm2 hb2 hb1 hlv
      rcases he with rfl | rfl
      · subst he'
        exact ⟨F1.defers, _, r1, Ξ, _, rfl, x1, x2, x3.weaken hbb (Nat.le_refl _)⟩
      · subst he'
        exact ⟨F1.defers, _, r1, Ξ, _, rfl, x1, x2, x3.weaken hbb (Nat.le_refl _)⟩
    split at h <;> try (cases h; done)
    · rename_i st hex
      split at h <;> try (cases h; done)
      rename_i vs hvs
      exact fin _ st vs (.inl rfl) hex hvs h
    · rename_i st hex
      split at h <;> try (cases h; done)
      rename_i vs hvs
      exact fin _ st vs (.inr rfl) hex hvs h

/-- a call that neither freezes what it is given nor changes a block -/
theorem callWith_quiet {env : Env} {ex : Ex} (HF : FunsOK P env) (HK : KnownOK P env) (HE : ExOK P ex) {base bar : Nat} {f : FuncId} {af : AFun} {args : List AV} {H H' : Heap} {v : AV}
    (haf : env.funs f = some af) (hraw : af.raw = true) (h : callWith env ex true base bar f args H = some (v, H')) (hbar : bar ≤ base) (hbase : base ≤ H.length) :
    (∃ fn, P.funcs[f]? = some fn ∧ fn.name ≠ "runtime.NumGoroutine" ∧ fn.body.isSome = true) ∧ CallsTo P f base bar [] args H v H' := by
  have h2 : callWith env ex false H.length H.length f args H = some (v, H') := by
    unfold callWith at h ⊢
    rw [haf] at h ⊢
    simp only [hraw, if_true] at h ⊢
    split at h
    · rename_i k hk
      split at h
      · rename_i hc
        simp only [barOf, if_true, Bool.and_eq_true] at hc
        simp only [barOf, Bool.not_false, Bool.true_or, Bool.and_true]
        rw [if_pos (by simpa using hc.1)]
        exact h
      · cases h
    · split at h
      · cases h
      · rename_i hnt
        rw [if_neg hnt]
        split at h
        · cases h
        · rename_i hm
          have hb : baseOf af.mode base H.length = H.length := by
            unfold baseOf
            rw [if_neg]
            rintro (e | e) <;> simp [e] at hm
          have hb' : baseOf af.mode H.length H.length = H.length := by unfold baseOf; split <;> rfl
          simp only [Bool.false_and, Bool.false_eq_true, if_false, barOf] at h ⊢
          rw [hb] at h
          rw [hb']
          exact h
  obtain ⟨h3, h4⟩ := callWith_sound0 HF HK HE h2 (Nat.le_refl _) (Nat.le_refl _)
  refine ⟨h3, fun Γ us s hv => (h4 Γ us s hv).mono fun e w' ⟨Θ, v', g1, g2, g3, g⟩ => ⟨Θ, v', g1, g2, g3, ?_⟩⟩
  exact ⟨g.sim, g.evo, fun k hk => g.wf k (by omega), fun i hi => g.bar i (by omega), fun i hi _ => g.bar i hi, g.len⟩

theorem callWith_sound {env : Env} {ex : Ex} (HF : FunsOK P env) (HK : KnownOK P env) (HE : ExOK P ex) {pure : Bool} {base bar : Nat} {f : FuncId} {args : List AV} {H H' : Heap} {v : AV}
    (h : callWith env ex pure base bar f args H = some (v, H')) (hbar : bar ≤ base) (hbase : base ≤ H.length) :
    (∃ fn, P.funcs[f]? = some fn ∧ fn.name ≠ "runtime.NumGoroutine" ∧ fn.body.isSome = true) ∧ CallsTo P f base bar (touchQ env pure f H args) args H v H' := by
  by_cases hp : pure = true ∧ rawOf env f = true
  · obtain ⟨rfl, hr⟩ := hp
    have e : touchQ env true f H args = [] := by unfold touchQ; rw [if_pos rfl, if_pos hr]
    rw [e]
    unfold rawOf at hr
    split at hr
    · rename_i af haf; exact callWith_quiet HF HK HE haf hr h hbar hbase
    · cases hr
  · have e : touchQ env pure f H args = touchC pure H args := by
      unfold touchQ touchC
      split
      · rename_i hq
        rw [if_neg fun hr => hp ⟨hq, hr⟩]
      · rfl
    rw [e]
    exact callWith_sound0 HF HK HE h hbar hbase

end Go.Ab
