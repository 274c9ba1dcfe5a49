/-
  Part of the proved evaluator, or answers that it computed.
-/
import Derived.Test.YtihdlpeghlhnoaaGreatDoorAbExe
import Derived.Test.YtihdlpeghlhnoaaGreatDoorAbTwin
import Derived.Test.YtihdlpeghlhnoaaGreatDoorAbFast
set_option linter.all false
namespace Go.Ab
variable {P : Program}

def toExit : AExit → Exit
  | .normal => .normal
  | .exit i => .exit i
  | .goto l => .goto l
  | .ret => .ret

theorem Post.exit {e : AExit} {nt base bar : Nat} {Γ : Ctx} {st st' : St} {e' : Exit} {a' : Act} {w' : World} (h : Post e nt base bar Γ st st' e' a' w') : e' = toExit e := by
  obtain ⟨h1, _⟩ := h
  cases e <;> exact h1

theorem execC_sound {env : Env} {ex : Ex} (HF : FunsOK P env) (HK : KnownOK P env) (HE : ExOK P ex) (hmix : P.follows .mixedOrders = true) {A : Ann} {nt : Nat} : ∀ (c : Code) {c' : ACode} {base bar : Nat} {st st' : St} {e : AExit}, ccode P A nt c = some c' →
    execC env ex c' base bar st = some (e, st') → ∀ {Γ : Ctx} {a : Act}, Fits nt Γ st.fr a → Sim Γ st.H → base ≤ st.H.length → bar ≤ base → c.wp P (Post e nt base bar Γ st st') a Γ.w
  | .skip, c', base, bar, st, st', e, hc, h, Γ, a, F, s, hbase, hbar => by
    simp only [ccode, Option.some.injEq] at hc; subst hc
    simp only [execC, Option.some.injEq, Prod.mk.injEq] at h
    obtain ⟨rfl, rfl⟩ := h
    exact wp_skip ⟨rfl, Γ, rfl, F, Good.refl s⟩
  | .region id ops draw, c', base, bar, st, st', e, hc, h, Γ, a, F, s, hbase, hbar => by
    simp only [ccode] at hc
    split at hc <;> try (cases hc; done)
    rename_i l hl
    have plain : ∀ {st : St} {Γ : Ctx}, Fits nt Γ st.fr a → Sim Γ st.H → base ≤ st.H.length → draw = false → execC env ex (.reg l (A.keep id)) base bar st = some (e, st') → (Code.region id ops draw).wp P (Post e nt base bar Γ st st') a Γ.w := fun {st Γ} F s hbase hd h => by
      subst hd
      simp only [execC] at h
      split at h <;> try (cases h; done)
      rename_i st1 hr
      simp only [Option.some.injEq, Prod.mk.injEq] at h
      obtain ⟨rfl, rfl⟩ := h
      refine wp_region ?_
      have := runOps_sound (P := P) (Q := Post .normal nt base bar Γ st ⟨fkeep (A.keep id) st1.fr, st1.H⟩) HF HK HE ops.toList 0 l st st1 Γ a (fun j => by simp) hl hr F s hbase hbar (fun Δ a' F' g => ⟨rfl, Δ, rfl, F'.keep _, g⟩)
      rwa [Array.length_toList, ← List.range_eq_range'] at this
    have drawn : ∀ {st : St} {Γ : Ctx} {l' : List AOper}, Fits nt Γ st.fr a → Sim Γ st.H → base ≤ st.H.length → draw = true → cDraw A id ops l = some l' → execC env ex (.dreg l' (A.keep id)) base bar st = some (e, st') →
        (Code.region id ops draw).wp P (Post e nt base bar Γ st st') a Γ.w := fun {st Γ l'} F s hbase hd hcd h => by
      subst hd
      simp only [execC] at h
      split at h <;> try (cases h; done)
      rename_i st1 hr
      simp only [Option.some.injEq, Prod.mk.injEq] at h
      obtain ⟨rfl, rfl⟩ := h
      exact runDraw_sound HF HK HE hmix hl hcd hr F s hbase hbar fun Δ a' F' g => ⟨rfl, Δ, rfl, F'.keep _, g⟩
    have twinned : ∀ {st : St} {Γ : Ctx} {l' : List (Nat × AOper)}, Fits nt Γ st.fr a → Sim Γ st.H → base ≤ st.H.length → draw = true → cTwin ops l = some l' → execC env ex (.twin l' (A.keep id)) base bar st = some (e, st') →
        (Code.region id ops draw).wp P (Post e nt base bar Γ st st') a Γ.w := fun {st Γ l'} F s hbase hd hct h => by
      subst hd
      simp only [execC] at h
      split at h <;> try (cases h; done)
      rename_i st1 hr
      simp only [Option.some.injEq, Prod.mk.injEq] at h
      obtain ⟨rfl, rfl⟩ := h
      exact runTwin_sound HF HK HE hmix hl hct hr F s hbase hbar fun Δ a' F' g => ⟨rfl, Δ, rfl, F'.keep _, g⟩
    have unfrz : ∀ {c1 : ACode}, execC env ex (if (A.frz id).isEmpty then c1 else .frz (A.frz id) c1) base bar st = some (e, st') →
        ∃ st1 Δ, Δ.w = Γ.w ∧ Fits nt Δ st1.fr a ∧ Good base bar (List.range st.H.length) Γ Δ st.H st1.H ∧ execC env ex c1 base bar st1 = some (e, st') := fun {c1} h => by
      split at h
      · exact ⟨st, Γ, rfl, F, Good.refl s, h⟩
      · simp only [execC] at h
        split at h <;> try (cases h; done)
        rename_i st1 hz
        obtain ⟨Δ, gw, F1, g⟩ := frzSlots_sound (base := base) _ hz F s
        exact ⟨st1, Δ, gw, F1, g, h⟩
    split at hc
    · rename_i hd
      split at hc
      · rename_i l' hcd
        simp only [Option.some.injEq] at hc; subst hc
        have hcd := cDrawF_sound hcd
        obtain ⟨st1, Δ, gw, F1, g, h1⟩ := unfrz h
        rw [← gw]
        exact wp_mono (drawn F1 g.sim (Nat.le_trans hbase g.len) hd hcd h1) fun _ _ _ hp => hp.after g
      · simp only [Option.map_eq_some_iff] at hc
        obtain ⟨l', hct, rfl⟩ := hc
        obtain ⟨st1, Δ, gw, F1, g, h1⟩ := unfrz h
        rw [← gw]
        exact wp_mono (twinned F1 g.sim (Nat.le_trans hbase g.len) hd hct h1) fun _ _ _ hp => hp.after g
    · rename_i hd
      simp only [Option.some.injEq] at hc; subst hc
      obtain ⟨st1, Δ, gw, F1, g, h1⟩ := unfrz h
      rw [← gw]
      exact wp_mono (plain F1 g.sim (Nat.le_trans hbase g.len) (by simpa using hd) h1) fun _ _ _ hp => hp.after g
  | .seq x y, c', base, bar, st, st', e, hc, h, Γ, a, F, s, hbase, hbar => by
    simp only [ccode] at hc
    split at hc <;> try (cases hc; done)
    rename_i x' y' hx hy
    simp only [Option.some.injEq] at hc; subst hc
    simp only [execC] at h
    split at h
    · rename_i st1 h1
      refine wp_seq (wp_mono (execC_sound HF HK HE hmix x hx h1 F s hbase hbar) fun e' a' w' hp => ?_)
      obtain ⟨rfl, Δ, rfl, F1, g⟩ := hp
      exact wp_mono (execC_sound HF HK HE hmix y hy h F1 g.sim (Nat.le_trans hbase g.len) hbar) fun _ _ _ hp => hp.after g
    · rename_i hne
      refine wp_seq (wp_mono (execC_sound HF HK HE hmix x hx h F s hbase hbar) fun e' a' w' hp => ?_)
      have := hp.exit
      cases e with
      | normal => exact absurd h (hne _)
      | exit i => subst this; exact hp
      | goto l => subst this; exact hp
      | ret => subst this; exact hp
  | .cond x p q, c', base, bar, st, st', e, hc, h, Γ, a, F, s, hbase, hbar => by
    simp only [ccode] at hc
    split at hc <;> try (cases hc; done)
    rename_i x' p' q' hx hp hq
    simp only [Option.some.injEq] at hc; subst hc
    simp only [execC] at h
    split at h <;> try (cases h; done)
    · rename_i hv
      have hr := opd_VR F hx hv
      have hev : a.eval x = .bool true := by
        generalize a.eval x = u at hr
        cases hr; rfl
      exact wp_cond_true hev (execC_sound HF HK HE hmix p hp h F s hbase hbar)
    · rename_i hv
      have hr := opd_VR F hx hv
      have hev : a.eval x = .bool false := by
        generalize a.eval x = u at hr
        cases hr; rfl
      exact wp_cond_false hev (execC_sound HF HK HE hmix q hq h F s hbase hbar)
  | .block id x, c', base, bar, st, st', e, hc, h, Γ, a, F, s, hbase, hbar => by
    simp only [ccode] at hc
    split at hc <;> try (cases hc; done)
    rename_i x' hx
    simp only [Option.some.injEq] at hc; subst hc
    simp only [execC] at h
    have inner : ∀ {e1 : AExit} {st1 : St}, execC env ex (match A.fresh id with | some ks => .fresh ks x' | none => x') base bar st = some (e1, st1) → x.wp P (Post e1 nt base bar Γ st st1) a Γ.w := fun {e1 st1} h1 => by
      split at h1
      · exact fresh_sound (fun {_ _ _ _ _} h2 {_ _} F2 s2 b2 r2 => execC_sound HF HK HE hmix x hx h2 F2 s2 b2 r2) hx h1 F s hbase hbar
      · exact execC_sound HF HK HE hmix x hx h1 F s hbase hbar
    split at h
    · rename_i i st1 h1
      refine wp_block (wp_mono (inner h1) fun e' a' w' hp => ?_)
      obtain ⟨rfl, Δ, rfl, F1, g⟩ := hp
      simp only [Exit.inBlock]
      split at h
      · rename_i hi
        simp only [Option.some.injEq, Prod.mk.injEq] at h
        obtain ⟨rfl, rfl⟩ := h
        rw [if_pos hi]
        exact ⟨rfl, Δ, rfl, F1, g⟩
      · rename_i hi
        simp only [Option.some.injEq, Prod.mk.injEq] at h
        obtain ⟨rfl, rfl⟩ := h
        rw [if_neg hi]
        exact ⟨rfl, Δ, rfl, F1, g⟩
    · rename_i hne
      refine wp_block (wp_mono (inner h) fun e' a' w' hp => ?_)
      have := hp.exit
      cases e with
      | normal => subst this; exact hp
      | exit i => exact absurd h (hne _ _)
      | goto l => subst this; exact hp
      | ret => subst this; exact hp
  | .loop x, c', base, bar, st, st', e, hc, h, Γ, a, F, s, hbase, hbar => by
    simp only [ccode, Option.map_eq_some_iff] at hc
    obtain ⟨x', hx, rfl⟩ := hc
    intro b k cs
    simp only [execC] at h
    split at h
    · rename_i st1 h1
      obtain ⟨e1, a1, w1, hp, harr⟩ := execC_sound HF HK HE hmix x hx h1 F s hbase hbar b (.inLoop x :: k) cs
      obtain ⟨rfl, Δ, rfl, F1, g⟩ := hp
      obtain ⟨e2, a2, w2, hp2, harr2⟩ := HE.loop hx h F1 g.sim (Nat.le_trans hbase g.len) hbar b k cs
      exact ⟨e2, a2, w2, hp2.after g, .of_steps (.head step_loop (Steps.trans harr (.one step_inLoop))) harr2⟩
    · rename_i hne
      obtain ⟨e1, a1, w1, hp, harr⟩ := execC_sound HF HK HE hmix x hx h F s hbase hbar b (.inLoop x :: k) cs
      have := hp.exit
      cases e with
      | normal => exact absurd h (hne _)
      | exit i => subst this; exact ⟨_, a1, w1, hp, .of_steps (.one step_loop) (.pass (x := .inLoop x) rfl (fun _ _ => .inl (by simp [toExit])) harr)⟩
      | goto l => subst this; exact ⟨_, a1, w1, hp, .of_steps (.one step_loop) (.pass (x := .inLoop x) rfl (fun _ _ => .inl (by simp [toExit])) harr)⟩
      | ret => subst this; exact ⟨_, a1, w1, hp, .of_steps (.one step_loop) (.pass (x := .inLoop x) rfl (fun _ _ => .inl (by simp [toExit])) harr)⟩
  | .exit id, c', base, bar, st, st', e, hc, h, Γ, a, F, s, hbase, hbar => by
    simp only [ccode, Option.some.injEq] at hc; subst hc
    simp only [execC, Option.some.injEq, Prod.mk.injEq] at h
    obtain ⟨rfl, rfl⟩ := h
    exact wp_exit ⟨rfl, Γ, rfl, F, Good.refl s⟩
  | .scope x, c', base, bar, st, st', e, hc, h, Γ, a, F, s, hbase, hbar => by
    simp only [ccode, Option.map_eq_some_iff] at hc
    obtain ⟨x', hx, rfl⟩ := hc
    intro b k cs
    obtain ⟨e1, a1, w1, hp, harr⟩ := scopeAt HE (fun {_ _ _ _ _} h2 {_ _} F2 s2 b2 r2 => execC_sound HF HK HE hmix x hx h2 F2 s2 b2 r2) hx hx h F s hbase hbar b k cs
    exact ⟨e1, a1, w1, hp, .of_steps (.one step_scope) harr⟩
  | .label l, c', base, bar, st, st', e, hc, h, Γ, a, F, s, hbase, hbar => by
    simp only [ccode, Option.some.injEq] at hc; subst hc
    simp only [execC, Option.some.injEq, Prod.mk.injEq] at h
    obtain ⟨rfl, rfl⟩ := h
    exact wp_label ⟨rfl, Γ, rfl, F, Good.refl s⟩
  | .goto l, c', base, bar, st, st', e, hc, h, Γ, a, F, s, hbase, hbar => by
    simp only [ccode, Option.some.injEq] at hc; subst hc
    simp only [execC, Option.some.injEq, Prod.mk.injEq] at h
    obtain ⟨rfl, rfl⟩ := h
    exact wp_goto ⟨rfl, Γ, rfl, F, Good.refl s⟩
  | .ret, c', base, bar, st, st', e, hc, h, Γ, a, F, s, hbase, hbar => by
    simp only [ccode, Option.some.injEq] at hc; subst hc
    simp only [execC, Option.some.injEq, Prod.mk.injEq] at h
    obtain ⟨rfl, rfl⟩ := h
    exact wp_ret ⟨rfl, Γ, rfl, F, Good.refl s⟩
  | .rangeFunc _ _ _ _, c', base, bar, st, st', e, hc, h, Γ, a, F, s, hbase, hbar => by
    simp only [ccode, Option.some.injEq] at hc; subst hc
    simp [badCode, execC, runOps, wantA, aopC, aop] at h
  | .refuse _, c', base, bar, st, st', e, hc, h, Γ, a, F, s, hbase, hbar => by simp [ccode] at hc

/-- from one fuel to the next -/
theorem ExOK.next {env : Env} {ex : Ex} (HF : FunsOK P env) (HK : KnownOK P env) (hmix : P.follows .mixedOrders = true) (HE : ExOK P ex) : ExOK P (fun base bar c st => execC env ex c base bar st) where
  code hc h _ _ F s hbase hbar := execC_sound HF HK HE hmix _ hc h F s hbase hbar
  loop {A nt base bar c c' st st' e} hc h {Γ a} F s hbase hbar := by
    intro b k cs
    simp only [execC] at h
    split at h
    · rename_i st1 h1
      obtain ⟨e1, a1, w1, hp, harr⟩ := execC_sound HF HK HE hmix c hc h1 F s hbase hbar b (.inLoop c :: k) cs
      obtain ⟨rfl, Δ, rfl, F1, g⟩ := hp
      obtain ⟨e2, a2, w2, hp2, harr2⟩ := HE.loop hc h F1 g.sim (Nat.le_trans hbase g.len) hbar b k cs
      exact ⟨e2, a2, w2, hp2.after g, .of_steps (Steps.trans harr (.one step_inLoop)) harr2⟩
    · rename_i hne
      obtain ⟨e1, a1, w1, hp, harr⟩ := execC_sound HF HK HE hmix c hc h F s hbase hbar b (.inLoop c :: k) cs
      have := hp.exit
      cases e with
      | normal => exact absurd h (hne _)
      | exit i => subst this; exact ⟨_, a1, w1, hp, .pass (x := .inLoop c) rfl (fun _ _ => .inl (by simp [toExit])) harr⟩
      | goto l => subst this; exact ⟨_, a1, w1, hp, .pass (x := .inLoop c) rfl (fun _ _ => .inl (by simp [toExit])) harr⟩
      | ret => subst this; exact ⟨_, a1, w1, hp, .pass (x := .inLoop c) rfl (fun _ _ => .inl (by simp [toExit])) harr⟩
  scope {A nt base bar c d c' d' st st' e} hc hd h {Γ a} F s hbase hbar :=
    scopeAt HE (fun {_ _ _ _ _} h2 {_ _} F2 s2 b2 r2 => execC_sound HF HK HE hmix d hd h2 F2 s2 b2 r2) hc hd h F s hbase hbar

theorem exec_ok {env : Env} (HF : FunsOK P env) (HK : KnownOK P env) (hmix : P.follows .mixedOrders = true) : ∀ n, ExOK P (exec env n)
  | 0 => ⟨fun _ h => by simp [exec] at h, fun _ h => by simp [exec] at h, fun _ _ h => by simp [exec] at h⟩
  | n + 1 => ExOK.next HF HK hmix (exec_ok HF HK hmix n)

/-- THE EVALUATOR IS SOUND: what it computes, the call returns, whatever is left open -/
theorem acall_sound {env : Env} (HF : FunsOK P env) (HK : KnownOK P env) (hmix : P.follows .mixedOrders = true) {n : Nat} {f : FuncId} {args : List AV} {H H' : Heap} {v : AV} (h : acall env n f args H = some (v, H')) :
    CallsTo P f H.length 0 (List.range H.length) args H v H' := by
  have := (callWith_sound HF HK (exec_ok HF HK hmix n) h (Nat.zero_le _) (Nat.le_refl _)).2
  simpa [touchQ] using this

end Go.Ab
