/-
  Part of the proved evaluator, or answers that it computed.
-/
import Derived.Test.YtihdlpeghlhnoaaGreatDoorAbDraw
set_option linter.all false
namespace Go.Ab
variable {P : Program}

theorem ftop_get : ∀ {fr : Frame} {k t : Nat} {v : AV}, ftop fr ≤ k → fget t fr = some v → v.top ≤ k
  | [], _, _, _, _, h => by simp [fgetN, fgetC] at h
  | (u, x) :: r, k, t, v, hk, h => by
    simp only [ftop] at hk
    simp only [fgetN, fgetC] at h
    split at h
    · simp only [Option.some.injEq] at h; subst h; omega
    · exact ftop_get (by omega) h

theorem Fits.cut {nt k : Nat} {Γ : Ctx} {fr : Frame} {a : Act} (F : Fits nt Γ fr a) (h : ftop fr ≤ k) : Fits nt (Γ.cut k) fr a := ⟨fun t v hv => (F.fr t v hv).cut (ftop_get h hv), F.size, F.defers, F.glob.cut⟩

theorem frzSlots_sound {nt base bar : Nat} : ∀ (ts : List Nat) {st st' : St} {Γ : Ctx} {a : Act}, frzSlots bar ts st = some st' → Fits nt Γ st.fr a → Sim Γ st.H →
    ∃ Δ, Δ.w = Γ.w ∧ Fits nt Δ st'.fr a ∧ Good base bar (List.range st.H.length) Γ Δ st.H st'.H
  | [], st, st', Γ, a, h, F, s => by
    simp [frzSlots] at h; subst h
    exact ⟨Γ, rfl, F, Good.refl s⟩
  | t :: r, st, st', Γ, a, h, F, s => by
    simp only [frzSlots] at h
    split at h <;> try (cases h; done)
    rename_i v hv
    split at h <;> try (cases h; done)
    rename_i v' H' hf
    obtain ⟨Δ, g, gw, _, _, _, hv', _, _, hlen⟩ := (frz_sound base bar 8).1 _ _ _ _ _ _ hf s (F.fr t v hv)
    have F' : Fits nt Δ (fset t v' st.fr) a := ⟨fun u x hx => by
      rw [fget_fset] at hx
      split at hx
      · rename_i hu; subst hu
        simp only [Option.some.injEq] at hx; subst hx
        exact hv'
      · exact (F.fr u x hx).mono g.evo, F.size, F.defers, F.glob.mono g.evo⟩
    obtain ⟨Θ, gw2, F2, g2⟩ := frzSlots_sound (base := base) r h F' g.sim
    exact ⟨Θ, gw2.trans gw, F2, (g.trans g2).all⟩

theorem Post.after {e : AExit} {nt base bar : Nat} {Γ Δ : Ctx} {st st1 st' : St} (g : Good base bar (List.range st.H.length) Γ Δ st.H st1.H) {e' : Exit} {a' : Act} {w' : World} (h : Post e nt base bar Δ st1 st' e' a' w') : Post e nt base bar Γ st st' e' a' w' := by
  obtain ⟨h1, Θ, h2, h3, h4⟩ := h
  exact ⟨h1, Θ, h2, h3, (g.trans h4).all⟩

/-- blocks of a round are dropped at its end -/
theorem fresh_sound {A : Ann} {env : Env} {ex : Ex} {c : Code} {c' : ACode} {nt : Nat}
    (ih : ∀ {base bar : Nat} {st st' : St} {e : AExit}, execC env ex c' base bar st = some (e, st') → ∀ {Γ : Ctx} {a : Act}, Fits nt Γ st.fr a → Sim Γ st.H → base ≤ st.H.length → bar ≤ base → c.wp P (Post e nt base bar Γ st st') a Γ.w)
    (_hc : ccode P A nt c = some c') {ks : List Nat} {base bar : Nat} {st st' : St} {e : AExit} (h : execC env ex (.fresh ks c') base bar st = some (e, st')) {Γ : Ctx} {a : Act} (F : Fits nt Γ st.fr a) (s : Sim Γ st.H) (hbase : base ≤ st.H.length) (hbar : bar ≤ base) :
    c.wp P (Post e nt base bar Γ st st') a Γ.w := by
  simp only [execC] at h
  split at h <;> try (cases h; done)
  · rename_i st1 hb
    simp only [Option.some.injEq, Prod.mk.injEq] at h
    obtain ⟨rfl, rfl⟩ := h
    refine wp_mono (ih hb F s (Nat.le_refl _) (by omega)) fun e' a' w' ⟨h1, Δ, h2, h3, h4⟩ => ⟨h1, Δ, h2, h3, h4.weaken hbase (Nat.le_refl _)⟩
  · rename_i e1 st1 hne hb
    split at h
    · rename_i ht
      simp only [Option.some.injEq, Prod.mk.injEq] at h
      obtain ⟨rfl, rfl⟩ := h
      refine wp_mono (ih hb F s (Nat.le_refl _) (by omega)) fun e' a' w' ⟨h1, Δ, h2, h3, h4⟩ => ?_
      refine ⟨h1, Δ.cut st.H.length, h2, (h3.keep ks).cut ht, ?_⟩
      exact (h4.cut s.n _ (Nat.le_refl _) (h4.wf _ (Nat.le_refl _) s.wf) h4.len (by omega)).weaken hbase (Nat.le_refl _)
    · cases h

theorem findL_sound {A : Ann} {nt : Nat} (l : Nat) : ∀ {c : Code} {c' rest' : ACode}, ccode P A nt c = some c' → findL c' l = some rest' → ∃ rest, findLabel c l = some rest ∧ ccode P A nt rest = some rest'
  | .seq a b, c', rest', hc, hf => by
    simp only [ccode] at hc
    split at hc <;> try (cases hc; done)
    rename_i a' b' ha hb
    simp only [Option.some.injEq] at hc; subst hc
    simp only [findL] at hf
    split at hf
    · rename_i r hr
      simp only [Option.some.injEq] at hf; subst hf
      obtain ⟨rest, h1, h2⟩ := findL_sound l ha hr
      exact ⟨.seq rest b, by simp [findLabel, h1], by simp [ccode, h2, hb]⟩
    · rename_i hn
      obtain ⟨rest, h1, h2⟩ := findL_sound l hb hf
      refine ⟨rest, ?_, h2⟩
      simp only [findLabel]
      rw [findL_none hn ha]
      exact h1
  | .label l', c', rest', hc, hf => by
    simp only [ccode, Option.some.injEq] at hc; subst hc
    simp only [findL] at hf
    split at hf
    · rename_i hl
      simp only [Option.some.injEq] at hf; subst hf
      exact ⟨.skip, by simp [findLabel, hl], rfl⟩
    · cases hf
  | .skip, c', rest', hc, hf => by simp only [ccode, Option.some.injEq] at hc; subst hc; simp [findL] at hf
  | .region id ops draw, c', rest', hc, hf => by
    simp only [ccode] at hc
    repeat' split at hc
    all_goals try (cases hc; done)
    all_goals first
      | (simp only [Option.some.injEq] at hc; subst hc; simp [findL] at hf; done)
      | (simp only [Option.map_eq_some_iff] at hc; obtain ⟨q, _, rfl⟩ := hc; simp [findL] at hf; done)
      | (simp only [Option.map_eq_some_iff] at hc; obtain ⟨q, _, rfl⟩ := hc; split at hf <;> simp [findL] at hf; done)
      | (simp only [Option.some.injEq] at hc; subst hc; split at hf <;> simp [findL] at hf; done)
  | .cond x a b, c', rest', hc, hf => by
    simp only [ccode] at hc
    split at hc <;> try (cases hc; done)
    simp only [Option.some.injEq] at hc; subst hc; simp [findL] at hf
  | .block id a, c', rest', hc, hf => by
    simp only [ccode] at hc
    split at hc <;> try (cases hc; done)
    simp only [Option.some.injEq] at hc; subst hc; simp [findL] at hf
  | .loop a, c', rest', hc, hf => by
    simp only [ccode, Option.map_eq_some_iff] at hc
    obtain ⟨q, _, rfl⟩ := hc; simp [findL] at hf
  | .exit id, c', rest', hc, hf => by simp only [ccode, Option.some.injEq] at hc; subst hc; simp [findL] at hf
  | .scope a, c', rest', hc, hf => by
    simp only [ccode, Option.map_eq_some_iff] at hc
    obtain ⟨q, _, rfl⟩ := hc; simp [findL] at hf
  | .goto l', c', rest', hc, hf => by simp only [ccode, Option.some.injEq] at hc; subst hc; simp [findL] at hf
  | .ret, c', rest', hc, hf => by simp only [ccode, Option.some.injEq] at hc; subst hc; simp [findL] at hf
  | .rangeFunc _ _ _ _, c', rest', hc, hf => by simp only [ccode, Option.some.injEq] at hc; subst hc; simp [badCode, findL] at hf
  | .refuse _, c', rest', hc, hf => by simp [ccode] at hc
where
  findL_none {A : Ann} {nt : Nat} {l : Nat} : ∀ {c : Code} {c' : ACode}, findL c' l = none → ccode P A nt c = some c' → findLabel c l = none
  | .seq a b, c', hf, hc => by
    simp only [ccode] at hc
    split at hc <;> try (cases hc; done)
    rename_i a' b' ha hb
    simp only [Option.some.injEq] at hc; subst hc
    simp only [findL] at hf
    split at hf
    · cases hf
    · rename_i hn
      simp only [findLabel]
      rw [findL_none hn ha]
      exact findL_none hf hb
  | .label l', c', hf, hc => by
    simp only [ccode, Option.some.injEq] at hc; subst hc
    simp only [findL] at hf
    split at hf
    · cases hf
    · rename_i hl
      simp [findLabel, hl]
  | .skip, _, _, _ => rfl
  | .region _ _ _, _, _, _ => rfl
  | .cond _ _ _, _, _, _ => rfl
  | .block _ _, _, _, _ => rfl
  | .loop _, _, _, _ => rfl
  | .exit _, _, _, _ => rfl
  | .scope _, _, _, _ => rfl
  | .goto _, _, _, _ => rfl
  | .ret, _, _, _ => rfl
  | .rangeFunc _ _ _ _, _, _, _ => rfl
  | .refuse _, _, _, _ => rfl

/-- inside a scope: a jump to one of its labels goes on behind the label -/
theorem scopeAt {A : Ann} {env : Env} {ex : Ex} (HE : ExOK P ex) {nt : Nat} {c d : Code} {c' d' : ACode}
    (ih : ∀ {base bar : Nat} {st st' : St} {e : AExit}, execC env ex d' base bar st = some (e, st') → ∀ {Γ : Ctx} {a : Act}, Fits nt Γ st.fr a → Sim Γ st.H → base ≤ st.H.length → bar ≤ base → d.wp P (Post e nt base bar Γ st st') a Γ.w)
    (hc : ccode P A nt c = some c') (_hd : ccode P A nt d = some d') {base bar : Nat} {st st' : St} {e : AExit} (h : execC env ex (.scope c' d') base bar st = some (e, st')) {Γ : Ctx} {a : Act} (F : Fits nt Γ st.fr a) (s : Sim Γ st.H)
    (hbase : base ≤ st.H.length) (hbar : bar ≤ base) (b : Go.Frame) (k : List Item) (cs : List Go.Frame) :
    ∃ e' a' w', Post e nt base bar Γ st st' e' a' w' ∧ Arrives P (lone (b.at a (.code d :: .inScope c :: k)) cs Γ.w) b k cs e' a' w' := by
  simp only [execC] at h
  split at h
  · rename_i l st1 h1
    obtain ⟨e1, a1, w1, hp, harr⟩ := ih h1 F s hbase hbar b (.inScope c :: k) cs
    obtain ⟨rfl, Δ, rfl, F1, g⟩ := hp
    split at h
    · rename_i rest hr
      obtain ⟨rest0, hf, hrc⟩ := findL_sound l hc hr
      obtain ⟨e2, a2, w2, hp2, harr2⟩ := HE.scope hc hrc h F1 g.sim (Nat.le_trans hbase g.len) hbar b k cs
      have hst := harr (.code rest0 :: .inScope c :: k) (by simp [gotoIn, hf])
      exact ⟨e2, a2, w2, hp2.after g, .of_steps hst harr2⟩
    · rename_i hn
      simp only [Option.some.injEq, Prod.mk.injEq] at h
      obtain ⟨rfl, rfl⟩ := h
      have hf := findL_sound.findL_none hn hc
      exact ⟨.goto l, a1, _, ⟨rfl, Δ, rfl, F1, g⟩, fun k' hk => harr k' (by simp [gotoIn, hf, hk])⟩
  · rename_i hne
    obtain ⟨e1, a1, w1, hp, harr⟩ := ih h F s hbase hbar b (.inScope c :: k) cs
    obtain ⟨he, Δ, rfl, F1, g⟩ := hp
    cases e with
    | normal =>
      subst he
      exact ⟨.normal, a1, _, ⟨rfl, Δ, rfl, F1, g⟩, Steps.trans harr (.one step_inScope)⟩
    | exit i =>
      subst he
      exact ⟨.exit i, a1, _, ⟨rfl, Δ, rfl, F1, g⟩, fun k' hk => harr k' (by simp [exitTo, hk])⟩
    | goto l => exact absurd h (hne _ _)
    | ret =>
      subst he
      exact ⟨.ret, a1, _, ⟨rfl, Δ, rfl, F1, g⟩, harr⟩

end Go.Ab
