/-
  The evaluator without fuel: what some fuel computes. Rules for each construct.
-/
import Derived.Test.YtihdlpeghlhnoaaGreatDoorAbTop
set_option linter.all false
namespace Go.Ab

def ExLe (ex ex' : Ex) : Prop := ∀ base bar c st r, ex base bar c st = some r → ex' base bar c st = some r

theorem callWith_mono {env : Env} {ex ex' : Ex} (h : ExLe ex ex') {pure : Bool} {base bar : Nat} {f : FuncId} {args : List AV} {H : Heap} {r : AV × Heap}
    (hr : callWith env ex pure base bar f args H = some r) : callWith env ex' pure base bar f args H = some r := by
  unfold callWith at hr ⊢
  cases haf : env.funs f with
  | none => simp [haf] at hr
  | some af =>
    simp only [haf] at hr ⊢
    split at hr <;> try (cases hr; done)
    rename_i args1 H1 hargs
    split at hr
    · exact hr
    · split at hr <;> try (cases hr; done)
      rename_i hnt
      rw [if_neg hnt]
      split at hr <;> try (cases hr; done)
      rename_i hp
      rw [if_neg hp]
      split at hr
      · rename_i st he; rw [h _ _ _ _ _ he]; exact hr
      · rename_i st he; rw [h _ _ _ _ _ he]; exact hr
      · cases hr

theorem aopC_mono {env : Env} {ex ex' : Ex} (h : ExLe ex ex') {pure : Bool} {base bar : Nat} {op : AOp} {fr : Frame} {H : Heap} {r : AV × Heap × List Nat}
    (hr : aopC env ex pure base bar op fr H = some r) : aopC env ex' pure base bar op fr H = some r := by
  unfold aopC at hr ⊢
  cases op with
  | callF f args =>
    simp only at hr ⊢
    split at hr <;> try (cases hr; done)
    split at hr <;> try (cases hr; done)
    rename_i hc
    rw [callWith_mono h hc]; exact hr
  | callV x args =>
    simp only at hr ⊢
    split at hr <;> try (cases hr; done)
    split at hr <;> try (cases hr; done)
    rename_i hc
    rw [callWith_mono h hc]; exact hr
  | callI tbl x args =>
    simp only at hr ⊢
    split at hr <;> try (cases hr; done)
    split at hr <;> try (cases hr; done)
    split at hr <;> try (cases hr; done)
    rename_i hc
    rw [callWith_mono h hc]; exact hr
  | _ => exact hr

theorem runOps_mono {env : Env} {ex ex' : Ex} (h : ExLe ex ex') {base bar : Nat} : ∀ {ops : List AOper} {st st' : St}, runOps env ex base bar ops st = some st' → runOps env ex' base bar ops st = some st'
  | [], st, st', hr => hr
  | o :: r, st, st', hr => by
    unfold runOps at hr ⊢
    split at hr
    · split at hr <;> try (cases hr; done)
      rename_i hc
      rw [aopC_mono h hc]; exact runOps_mono h hr
    · exact runOps_mono h hr
    · cases hr

theorem runDraw_mono {env : Env} {ex ex' : Ex} (h : ExLe ex ex') {base bar : Nat} : ∀ {ops : List AOper} {fr : Frame} {hs : List Heap} {tcs : List (List Nat)} {pend : List (Nat × Nat × Nat)} {st' : St},
    runDraw env ex base bar ops fr hs tcs pend = some st' → runDraw env ex' base bar ops fr hs tcs pend = some st'
  | [], fr, hs, tcs, pend, st', hr => hr
  | o :: r, fr, hs, tcs, pend, st', hr => by
    unfold runDraw at hr ⊢
    split at hr
    · cases hr
    · split at hr <;> try (cases hr; done)
      split at hr
      · rename_i he; simp only [he, if_true]; exact runDraw_mono h hr
      · rename_i he; simp only [he]; exact runDraw_mono h hr
    · split at hr
      · rename_i he
        split at hr <;> try (cases hr; done)
        split at hr <;> try (cases hr; done)
        rename_i hl _ _ _ _ hc
        simp only [he, if_true]
        rw [aopC_mono h hc]; exact runDraw_mono h hr
      · rename_i he
        split at hr <;> try (cases hr; done)
        split at hr <;> try (cases hr; done)
        rename_i hl _ _ _ _ hc
        simp only [he]
        rw [aopC_mono h hc]
        split at hr <;> try (cases hr; done)
        rename_i ht
        simp only [ht, and_self, if_true]
        split at hr
        · rename_i hlo; simp only [hlo, if_true]; exact runDraw_mono h hr
        · rename_i hlo
          simp only [hlo, if_false]
          split at hr
          · exact runDraw_mono h hr
          · exact runDraw_mono h hr
          · cases hr

theorem runTwin_mono {env : Env} {ex ex' : Ex} (h : ExLe ex ex') {base bar : Nat} {H0 : Heap} : ∀ {l : List (Nat × AOper)} {fr : Frame} {H : Heap} {st' : St}, runTwin env ex base bar H0 l fr H = some st' → runTwin env ex' base bar H0 l fr H = some st'
  | [], _, _, _, hr => hr
  | (k, o) :: r, fr, H, st', hr => by
    simp only [runTwin] at hr ⊢
    split at hr <;> try (cases hr; done)
    rename_i hc
    rw [aopC_mono h hc]
    split at hr <;> try (cases hr; done)
    rename_i hn
    simp only
    rw [if_neg hn]
    exact runTwin_mono h hr

theorem execC_mono {env : Env} {ex ex' : Ex} (h : ExLe ex ex') : ∀ (c : ACode) {base bar : Nat} {st : St} {r : AExit × St}, execC env ex c base bar st = some r → execC env ex' c base bar st = some r
  | .skip, _, _, _, _, hr => hr
  | .reg ops keep, _, _, _, _, hr => by
    unfold execC at hr ⊢
    split at hr <;> try (cases hr; done)
    rename_i hc
    rw [runOps_mono h hc]; exact hr
  | .dreg ops keep, _, _, _, _, hr => by
    unfold execC at hr ⊢
    split at hr <;> try (cases hr; done)
    rename_i hc
    rw [runDraw_mono h hc]; exact hr
  | .twin ops keep, _, _, _, _, hr => by
    unfold execC at hr ⊢
    split at hr <;> try (cases hr; done)
    rename_i hc
    rw [runTwin_mono h hc]; exact hr
  | .seq a b, _, _, _, _, hr => by
    unfold execC at hr ⊢
    split at hr
    · rename_i hc; rw [execC_mono h a hc]; exact execC_mono h b hr
    · rename_i hne
      have := execC_mono h a hr
      rw [this]
      split
      · rename_i heq; simp only [Option.some.injEq] at heq; subst heq; exact absurd hr (hne _)
      · rfl
  | .cond c a b, _, _, _, _, hr => by
    unfold execC at hr ⊢
    split at hr
    · exact execC_mono h a hr
    · exact execC_mono h b hr
    · cases hr
  | .block id c, _, _, _, _, hr => by
    unfold execC at hr ⊢
    split at hr
    · rename_i hc; rw [execC_mono h c hc]; exact hr
    · rename_i hne
      have := execC_mono h c hr
      rw [this]
      split
      · rename_i heq; simp only [Option.some.injEq] at heq; subst heq; exact absurd hr (hne _ _)
      · rfl
  | .loop c, _, _, _, _, hr => by
    unfold execC at hr ⊢
    split at hr
    · rename_i hc; rw [execC_mono h c hc]; exact h _ _ _ _ _ hr
    · rename_i hne
      have := execC_mono h c hr
      rw [this]
      split
      · rename_i heq; simp only [Option.some.injEq] at heq; subst heq; exact absurd hr (hne _)
      · rfl
  | .fresh keep c, _, _, _, _, hr => by
    unfold execC at hr ⊢
    split at hr
    · rename_i hc; rw [execC_mono h c hc]; exact hr
    · rename_i hne hc
      rw [execC_mono h c hc]
      split
      · rename_i heq; simp only [Option.some.injEq, Prod.mk.injEq] at heq; obtain ⟨rfl, rfl⟩ := heq; exact (hne rfl).elim
      · rename_i heq; simp only [Option.some.injEq, Prod.mk.injEq] at heq; obtain ⟨rfl, rfl⟩ := heq; exact hr
      · rename_i heq; cases heq
    · cases hr
  | .frz ts c, _, _, _, _, hr => by
    unfold execC at hr ⊢
    split at hr <;> try (cases hr; done)
    exact execC_mono h c hr
  | .exit id, _, _, _, _, hr => hr
  | .scope body cur, _, _, _, _, hr => by
    unfold execC at hr ⊢
    split at hr
    · rename_i hc
      rw [execC_mono h cur hc]
      simp only
      split at hr
      · exact h _ _ _ _ _ hr
      · exact hr
    · rename_i hne
      have := execC_mono h cur hr
      rw [this]
      split
      · rename_i heq; simp only [Option.some.injEq] at heq; subst heq; exact absurd hr (hne _ _)
      · rfl
  | .label _, _, _, _, _, hr => hr
  | .goto _, _, _, _, _, hr => hr
  | .ret, _, _, _, _, hr => hr

theorem exec_succ {env : Env} : ∀ n, ExLe (exec env n) (exec env (n + 1))
  | 0 => fun _ _ _ _ _ h => by simp [exec] at h
  | n + 1 => fun base bar c st r h => by
    simp only [exec] at h ⊢
    exact execC_mono (exec_succ n) c h

theorem exec_le {env : Env} {n m : Nat} (h : n ≤ m) : ExLe (exec env n) (exec env m) := by
  induction h with
  | refl => exact fun _ _ _ _ _ h => h
  | step _ ih => exact fun _ _ _ _ _ h => exec_succ _ _ _ _ _ _ (ih _ _ _ _ _ h)


abbrev PQ := AExit → Frame → Heap → Prop

/-- some fuel brings the code to an end, of which Q holds -/
def Wp (env : Env) (base bar : Nat) (c : ACode) (fr : Frame) (H : Heap) (Q : PQ) : Prop :=
  ∃ n e st, exec env n base bar c ⟨fr, H⟩ = some (e, st) ∧ Q e st.fr st.H

def WpOps (env : Env) (base bar : Nat) (ops : List AOper) (fr : Frame) (H : Heap) (Q : Frame → Heap → Prop) : Prop :=
  ∃ n st, runOps env (exec env n) base bar ops ⟨fr, H⟩ = some st ∧ Q st.fr st.H

def WpDraw (env : Env) (base bar : Nat) (ops : List AOper) (fr : Frame) (hs : List Heap) (tcs : List (List Nat)) (pend : List (Nat × Nat × Nat)) (Q : Frame → Heap → Prop) : Prop :=
  ∃ n st, runDraw env (exec env n) base bar ops fr hs tcs pend = some st ∧ Q st.fr st.H

def WpCall (env : Env) (pure : Bool) (base bar : Nat) (f : FuncId) (args : List AV) (H : Heap) (Q : AV → Heap → Prop) : Prop :=
  ∃ n v H', callWith env (exec env n) pure base bar f args H = some (v, H') ∧ Q v H'

def WpOp (env : Env) (pure : Bool) (base bar : Nat) (op : AOp) (fr : Frame) (H : Heap) (Q : AV → Heap → List Nat → Prop) : Prop :=
  ∃ n v H' tc, aopC env (exec env n) pure base bar op fr H = some (v, H', tc) ∧ Q v H' tc

variable {env : Env} {base bar : Nat} {fr : Frame} {H : Heap} {Q : PQ}

theorem Wp.mono {c : ACode} {Q' : PQ} (h : Wp env base bar c fr H Q) (hq : ∀ e fr H, Q e fr H → Q' e fr H) : Wp env base bar c fr H Q' := by
  obtain ⟨n, e, st, h1, h2⟩ := h
  exact ⟨n, e, st, h1, hq _ _ _ h2⟩

theorem wp_unfold {c : ACode} : Wp env base bar c fr H Q ↔ ∃ n e st, execC env (exec env n) c base bar ⟨fr, H⟩ = some (e, st) ∧ Q e st.fr st.H := by
  constructor
  · rintro ⟨n, e, st, h1, h2⟩
    cases n with
    | zero => simp [exec] at h1
    | succ n => exact ⟨n, e, st, h1, h2⟩
  · rintro ⟨n, e, st, h1, h2⟩
    exact ⟨n + 1, e, st, h1, h2⟩

theorem wp_skip : Wp env base bar .skip fr H Q ↔ Q .normal fr H := by
  rw [wp_unfold]
  constructor
  · rintro ⟨n, e, st, h1, h2⟩
    simp only [execC, Option.some.injEq, Prod.mk.injEq] at h1
    obtain ⟨rfl, rfl⟩ := h1; exact h2
  · intro h; exact ⟨0, _, _, rfl, h⟩

theorem wp_exit {id : Nat} : Wp env base bar (.exit id) fr H Q ↔ Q (.exit id) fr H := by
  rw [wp_unfold]
  constructor
  · rintro ⟨n, e, st, h1, h2⟩
    simp only [execC, Option.some.injEq, Prod.mk.injEq] at h1
    obtain ⟨rfl, rfl⟩ := h1; exact h2
  · intro h; exact ⟨0, _, _, rfl, h⟩

theorem wp_label {id : Nat} : Wp env base bar (.label id) fr H Q ↔ Q .normal fr H := by
  rw [wp_unfold]
  constructor
  · rintro ⟨n, e, st, h1, h2⟩
    simp only [execC, Option.some.injEq, Prod.mk.injEq] at h1
    obtain ⟨rfl, rfl⟩ := h1; exact h2
  · intro h; exact ⟨0, _, _, rfl, h⟩

theorem wp_goto {id : Nat} : Wp env base bar (.goto id) fr H Q ↔ Q (.goto id) fr H := by
  rw [wp_unfold]
  constructor
  · rintro ⟨n, e, st, h1, h2⟩
    simp only [execC, Option.some.injEq, Prod.mk.injEq] at h1
    obtain ⟨rfl, rfl⟩ := h1; exact h2
  · intro h; exact ⟨0, _, _, rfl, h⟩

theorem wp_ret : Wp env base bar .ret fr H Q ↔ Q .ret fr H := by
  rw [wp_unfold]
  constructor
  · rintro ⟨n, e, st, h1, h2⟩
    simp only [execC, Option.some.injEq, Prod.mk.injEq] at h1
    obtain ⟨rfl, rfl⟩ := h1; exact h2
  · intro h; exact ⟨0, _, _, rfl, h⟩

/-- behind a normal end -/
def thenWp (env : Env) (base bar : Nat) (b : ACode) (Q : PQ) : PQ
  | .normal, fr, H => Wp env base bar b fr H Q
  | e, fr, H => Q e fr H

theorem execC_lift {n m : Nat} (h : n ≤ m) {c : ACode} {st : St} {r : AExit × St} (hr : execC env (exec env n) c base bar st = some r) : execC env (exec env m) c base bar st = some r :=
  execC_mono (exec_le h) c hr

theorem wp_seq {a b : ACode} : Wp env base bar (.seq a b) fr H Q ↔ Wp env base bar a fr H (thenWp env base bar b Q) := by
  rw [wp_unfold, wp_unfold]
  constructor
  · rintro ⟨n, e, st, h1, h2⟩
    simp only [execC] at h1
    split at h1
    · rename_i st1 hc; exact ⟨n, _, _, hc, n + 1, e, st, h1, h2⟩
    · rename_i hne
      refine ⟨n, e, st, h1, ?_⟩
      cases e with
      | normal => exact absurd h1 (hne _)
      | _ => exact h2
  · rintro ⟨n, e, st, h1, h2⟩
    cases e with
    | normal =>
      obtain ⟨m, e', st', h3, h4⟩ := wp_unfold.1 (show Wp env base bar b st.fr st.H Q from h2)
      refine ⟨max n m, e', st', ?_, h4⟩
      simp only [execC]
      rw [execC_lift (Nat.le_max_left n m) h1]
      exact execC_lift (Nat.le_max_right n m) h3
    | _ => exact ⟨n, _, st, by simp only [execC]; rw [h1], h2⟩

theorem wp_cond {c : Opd} {a b : ACode} : Wp env base bar (.cond c a b) fr H Q ↔ match c.ev fr with
    | some (.bool x) => if x = true then Wp env base bar a fr H Q else Wp env base bar b fr H Q
    | _ => False := by
  rw [wp_unfold]
  simp only [execC]
  cases hx : c.ev fr with
  | none => simp
  | some v =>
    cases v with
    | bool x => cases x <;> simp only [if_true, Bool.false_eq_true, if_false] <;> exact wp_unfold.symm
    | _ => simp

def exitWp (id : Nat) (Q : PQ) : PQ
  | .exit i, fr, H => if i = id then Q .normal fr H else Q (.exit i) fr H
  | e, fr, H => Q e fr H

theorem wp_block {id : Nat} {c : ACode} : Wp env base bar (.block id c) fr H Q ↔ Wp env base bar c fr H (exitWp id Q) := by
  rw [wp_unfold, wp_unfold]
  constructor
  · rintro ⟨n, e, st, h1, h2⟩
    simp only [execC] at h1
    split at h1
    · rename_i i st1 hc
      refine ⟨n, _, _, hc, ?_⟩
      simp only [exitWp]
      split at h1 <;> rename_i hi <;> simp only [Option.some.injEq, Prod.mk.injEq] at h1 <;> obtain ⟨rfl, rfl⟩ := h1
      · rw [if_pos hi]; exact h2
      · rw [if_neg hi]; exact h2
    · rename_i hne
      refine ⟨n, e, st, h1, ?_⟩
      cases e with
      | exit => exact absurd h1 (hne _ _)
      | _ => exact h2
  · rintro ⟨n, e, st, h1, h2⟩
    cases e with
    | exit i =>
      simp only [exitWp] at h2
      split at h2
      · rename_i hi; exact ⟨n, _, st, by simp only [execC]; rw [h1]; simp only [hi, if_true], h2⟩
      · rename_i hi; exact ⟨n, _, st, by simp only [execC]; rw [h1]; simp only [hi, if_false], h2⟩
    | _ => exact ⟨n, _, st, by simp only [execC]; rw [h1], h2⟩

theorem wp_loop {c : ACode} : Wp env base bar (.loop c) fr H Q ↔ Wp env base bar c fr H (thenWp env base bar (.loop c) Q) := by
  rw [wp_unfold, wp_unfold]
  constructor
  · rintro ⟨n, e, st, h1, h2⟩
    simp only [execC] at h1
    split at h1
    · rename_i st1 hc; exact ⟨n, _, _, hc, n, e, st, h1, h2⟩
    · rename_i hne
      refine ⟨n, e, st, h1, ?_⟩
      cases e with
      | normal => exact absurd h1 (hne _)
      | _ => exact h2
  · rintro ⟨n, e, st, h1, h2⟩
    cases e with
    | normal =>
      obtain ⟨m, e', st', h3, h4⟩ := h2
      refine ⟨max n m, e', st', ?_, h4⟩
      simp only [execC]
      rw [execC_lift (Nat.le_max_left n m) h1]
      exact exec_le (Nat.le_max_right n m) _ _ _ _ _ h3
    | _ => exact ⟨n, _, st, by simp only [execC]; rw [h1], h2⟩

def freshWp (keep : List Nat) (k : Nat) (Q : PQ) : PQ
  | .ret, fr, H => Q .ret fr H
  | e, fr, H => ftop (fkeep keep fr) ≤ k ∧ Q e (fkeep keep fr) (H.take k)

theorem wp_fresh {keep : List Nat} {c : ACode} : Wp env base bar (.fresh keep c) fr H Q ↔ Wp env H.length bar c fr H (freshWp keep H.length Q) := by
  rw [wp_unfold, wp_unfold]
  simp only [execC]
  constructor
  · rintro ⟨n, e, st, h1, h2⟩
    split at h1
    · rename_i st1 hc
      simp only [Option.some.injEq, Prod.mk.injEq] at h1
      obtain ⟨rfl, rfl⟩ := h1
      exact ⟨n, _, _, hc, h2⟩
    · rename_i e1 st1 hne hc
      split at h1 <;> try (cases h1; done)
      rename_i ht
      simp only [Option.some.injEq, Prod.mk.injEq] at h1
      obtain ⟨rfl, rfl⟩ := h1
      refine ⟨n, _, _, hc, ?_⟩
      cases e1 with
      | ret => exact (hne rfl).elim
      | _ => exact ⟨ht, h2⟩
    · cases h1
  · rintro ⟨n, e, st, h1, h2⟩
    cases e with
    | ret => exact ⟨n, _, st, by rw [h1], h2⟩
    | _ => exact ⟨n, _, _, by rw [h1]; simp only; rw [if_pos h2.1], h2.2⟩

theorem wp_frz {ts : List Nat} {c : ACode} : Wp env base bar (.frz ts c) fr H Q ↔ match frzSlots bar ts ⟨fr, H⟩ with
    | some st => Wp env base bar c st.fr st.H Q
    | none => False := by
  rw [wp_unfold]
  simp only [execC]
  cases hx : frzSlots bar ts ⟨fr, H⟩ with
  | none => simp
  | some st => exact wp_unfold.symm

def gotoWp (env : Env) (base bar : Nat) (body : ACode) (Q : PQ) : PQ
  | .goto l, fr, H => match findL body l with
    | some rest => Wp env base bar (.scope body rest) fr H Q
    | none => Q (.goto l) fr H
  | e, fr, H => Q e fr H

theorem wp_scope {body cur : ACode} : Wp env base bar (.scope body cur) fr H Q ↔ Wp env base bar cur fr H (gotoWp env base bar body Q) := by
  rw [wp_unfold, wp_unfold]
  constructor
  · rintro ⟨n, e, st, h1, h2⟩
    simp only [execC] at h1
    split at h1
    · rename_i l st1 hc
      refine ⟨n, _, _, hc, ?_⟩
      simp only [gotoWp]
      cases hf : findL body l with
      | some rest => simp only [hf] at h1; exact ⟨n, e, st, h1, h2⟩
      | none =>
        simp only [hf, Option.some.injEq, Prod.mk.injEq] at h1
        obtain ⟨rfl, rfl⟩ := h1; exact h2
    · rename_i hne
      refine ⟨n, e, st, h1, ?_⟩
      cases e with
      | goto => exact absurd h1 (hne _ _)
      | _ => exact h2
  · rintro ⟨n, e, st, h1, h2⟩
    cases e with
    | goto l =>
      simp only [gotoWp] at h2
      split at h2
      · rename_i rest hf
        obtain ⟨m, e', st', h3, h4⟩ := h2
        refine ⟨max n m, e', st', ?_, h4⟩
        simp only [execC]
        rw [execC_lift (Nat.le_max_left n m) h1]
        simp only [hf]
        exact exec_le (Nat.le_max_right n m) _ _ _ _ _ h3
      · rename_i hf
        exact ⟨n, _, st, by simp only [execC]; rw [h1]; simp only [hf], h2⟩
    | _ => exact ⟨n, _, st, by simp only [execC]; rw [h1], h2⟩

theorem wp_reg {ops : List AOper} {keep : List Nat} : Wp env base bar (.reg ops keep) fr H Q ↔ WpOps env base bar ops fr H (fun fr H => Q .normal (fkeep keep fr) H) := by
  rw [wp_unfold]
  simp only [execC]
  constructor
  · rintro ⟨n, e, st, h1, h2⟩
    split at h1 <;> try (cases h1; done)
    rename_i st1 hc
    simp only [Option.some.injEq, Prod.mk.injEq] at h1
    obtain ⟨rfl, rfl⟩ := h1
    exact ⟨n, st1, hc, h2⟩
  · rintro ⟨n, st, h1, h2⟩
    exact ⟨n, _, _, by rw [h1], h2⟩

/-- a region in which two like blocks are made -/
def WpTwin (env : Env) (base bar : Nat) (H0 : Heap) (l : List (Nat × AOper)) (fr : Frame) (H : Heap) (Q : Frame → Heap → Prop) : Prop := ∃ n st, runTwin env (exec env n) base bar H0 l fr H = some st ∧ Q st.fr st.H
theorem wp_twin {ops : List (Nat × AOper)} {keep : List Nat} : Wp env base bar (.twin ops keep) fr H Q ↔ WpTwin env base bar H ops fr H (fun fr H => Q .normal (fkeep keep fr) H) := by
  rw [wp_unfold]
  simp only [execC]
  constructor
  · rintro ⟨n, e, st, h1, h2⟩
    split at h1 <;> try (cases h1; done)
    rename_i st1 hr
    simp only [Option.some.injEq, Prod.mk.injEq] at h1
    obtain ⟨rfl, rfl⟩ := h1
    exact ⟨n, st1, hr, h2⟩
  · rintro ⟨n, st, h1, h2⟩
    exact ⟨n, _, _, by rw [h1], h2⟩
theorem wptwin_nil {H0 : Heap} {K : Frame → Heap → Prop} : WpTwin env base bar H0 [] fr H K ↔ K fr H :=
  ⟨fun ⟨_, _, h1, h2⟩ => by simp only [runTwin, Option.some.injEq] at h1; subst h1; exact h2, fun h => ⟨0, _, rfl, h⟩⟩
def twinNext (env : Env) (base bar : Nat) (H0 : Heap) (k : Nat) (d : Option Nat) (r : List (Nat × AOper)) (fr : Frame) (H : Heap) (K : Frame → Heap → Prop) (v : AV) (H' : Heap) (tc : List Nat) : Prop :=
  (k = 0 → v.top ≤ H0.length ∧ tc.isEmpty = true ∧ H'.length = H0.length) ∧ (k = 3 → tc.all (fun i => Nat.ble H0.length i) = true) ∧ WpTwin env base bar H0 r (fput d v fr) (if k = 0 then H else H') K
theorem wptwin_cons {H0 : Heap} {k : Nat} {o : AOper} {r : List (Nat × AOper)} {K : Frame → Heap → Prop} : WpTwin env base bar H0 ((k, o) :: r) fr H K ↔
    WpOp env true base bar o.op (fkeep o.looks fr) (if k = 0 then H0 else H) (twinNext env base bar H0 k o.dst r fr H K) := by
  constructor
  · rintro ⟨n, st, h1, h2⟩
    simp only [runTwin] at h1
    split at h1 <;> try (cases h1; done)
    rename_i v H' tc hr
    split at h1 <;> try (cases h1; done)
    rename_i hc
    exact ⟨n, v, H', tc, hr, fun hk => Decidable.byContradiction fun h => hc (.inl ⟨hk, h⟩), fun hk => Decidable.byContradiction fun h => hc (.inr ⟨hk, h⟩), n, st, h1, h2⟩
  · rintro ⟨n, v, H', tc, hr, g1, g2, m, st, h1, h2⟩
    refine ⟨max n m, st, ?_, h2⟩
    simp only [runTwin]
    rw [aopC_mono (exec_le (Nat.le_max_left n m)) hr]
    simp only
    rw [if_neg ?_]
    · exact runTwin_mono (exec_le (Nat.le_max_right n m)) h1
    · rintro (⟨hk, h⟩ | ⟨hk, h⟩)
      · exact h (g1 hk)
      · exact h (g2 hk)

theorem wp_dreg {ops : List AOper} {keep : List Nat} : Wp env base bar (.dreg ops keep) fr H Q ↔ WpDraw env base bar ops fr [H] [] [] (fun fr H => Q .normal (fkeep keep fr) H) := by
  rw [wp_unfold]
  simp only [execC]
  constructor
  · rintro ⟨n, e, st, h1, h2⟩
    split at h1 <;> try (cases h1; done)
    rename_i st1 hc
    simp only [Option.some.injEq, Prod.mk.injEq] at h1
    obtain ⟨rfl, rfl⟩ := h1
    exact ⟨n, st1, hc, h2⟩
  · rintro ⟨n, st, h1, h2⟩
    exact ⟨n, _, _, by rw [h1], h2⟩

theorem wpops_nil {Q : Frame → Heap → Prop} : WpOps env base bar [] fr H Q ↔ Q fr H := by
  constructor
  · rintro ⟨n, st, h1, h2⟩
    simp only [runOps, Option.some.injEq] at h1
    subst h1; exact h2
  · intro h; exact ⟨0, _, rfl, h⟩

theorem aopC_lift {n m : Nat} (h : n ≤ m) {pure : Bool} {op : AOp} {r : AV × Heap × List Nat} (hr : aopC env (exec env n) pure base bar op fr H = some r) : aopC env (exec env m) pure base bar op fr H = some r :=
  aopC_mono (exec_le h) hr

theorem wpops_cons {d : Option Nat} {op : AOp} {g : Option (Nat × Bool)} {e p : Bool} {l : List Nat} {lo hi : Nat} {r : List AOper} {Q : Frame → Heap → Prop} :
    WpOps env base bar (⟨d, op, g, e, p, l, lo, hi⟩ :: r) fr H Q ↔ match wantA g fr with
    | some true => WpOp env false base bar op fr H (fun v H _ => WpOps env base bar r (fput d v fr) H Q)
    | some false => WpOps env base bar r (fput d (.tup []) fr) H Q
    | none => False := by
  constructor
  · rintro ⟨n, st, h1, h2⟩
    simp only [runOps] at h1
    split at h1
    · rename_i hw
      split at h1 <;> try (cases h1; done)
      rename_i v H1 tc hc
      simp only [hw]
      exact ⟨n, v, H1, tc, hc, n, st, h1, h2⟩
    · rename_i hw
      simp only [hw]
      exact ⟨n, st, h1, h2⟩
    · cases h1
  · intro h
    split at h
    · rename_i hw
      obtain ⟨n, v, H1, tc, hc, m, st, h1, h2⟩ := h
      refine ⟨max n m, st, ?_, h2⟩
      simp only [runOps, hw]
      rw [aopC_lift (Nat.le_max_left n m) hc]
      exact runOps_mono (exec_le (Nat.le_max_right n m)) h1
    · rename_i hw
      obtain ⟨n, st, h1, h2⟩ := h
      refine ⟨n, st, ?_, h2⟩
      simp only [runOps, hw]
      exact h1
    · exact h.elim

theorem wpop_callF {pure : Bool} {f : FuncId} {args : List Opd} {Q : AV → Heap → List Nat → Prop} : WpOp env pure base bar (.callF f args) fr H Q ↔ match evs fr args with
    | some vs => WpCall env pure base bar f vs H (fun v H' => Q v H' (touchQ env pure f H vs))
    | none => False := by
  constructor
  · rintro ⟨n, v, H', tc, h1, h2⟩
    simp only [aopC] at h1
    split at h1 <;> try (cases h1; done)
    rename_i vs hvs
    split at h1 <;> try (cases h1; done)
    rename_i v1 H1 hc
    simp only [Option.some.injEq, Prod.mk.injEq] at h1
    obtain ⟨rfl, rfl, rfl⟩ := h1
    simp only [hvs]
    exact ⟨n, _, _, hc, h2⟩
  · intro h
    split at h
    · rename_i vs hvs
      obtain ⟨n, v, H', hc, h2⟩ := h
      exact ⟨n, v, H', _, by simp only [aopC, hvs, hc], h2⟩
    · exact h.elim

theorem wpop_callV {pure : Bool} {x : Opd} {args : List Opd} {Q : AV → Heap → List Nat → Prop} : WpOp env pure base bar (.callV x args) fr H Q ↔ match x.ev fr, evs fr args with
    | some (.fn f first caps), some vs => WpCall env pure base bar f (first ++ vs ++ caps) H (fun v H' => Q v H' (touchQ env pure f H (first ++ vs ++ caps)))
    | _, _ => False := by
  constructor
  · rintro ⟨n, v, H', tc, h1, h2⟩
    simp only [aopC] at h1
    split at h1 <;> try (cases h1; done)
    rename_i f first caps vs hx hvs
    split at h1 <;> try (cases h1; done)
    rename_i v1 H1 hc
    simp only [Option.some.injEq, Prod.mk.injEq] at h1
    obtain ⟨rfl, rfl, rfl⟩ := h1
    simp only [hx, hvs]
    exact ⟨n, _, _, hc, h2⟩
  · intro h
    split at h
    · rename_i f first caps vs hx hvs
      obtain ⟨n, v, H', hc, h2⟩ := h
      exact ⟨n, v, H', _, by simp only [aopC, hx, hvs, hc], h2⟩
    · exact h.elim

theorem wpop_callI {pure : Bool} {tbl : List (TypeId × FuncId)} {x : Opd} {args : List Opd} {Q : AV → Heap → List Nat → Prop} : WpOp env pure base bar (.callI tbl x args) fr H Q ↔ match x.ev fr, evs fr args with
    | some (.ifc t u), some vs => match tlook tbl t with
      | some f => WpCall env pure base bar f (u :: vs) H (fun v H' => Q v H' (touchQ env pure f H (u :: vs)))
      | none => False
    | _, _ => False := by
  constructor
  · rintro ⟨n, v, H', tc, h1, h2⟩
    simp only [aopC] at h1
    split at h1 <;> try (cases h1; done)
    rename_i t u vs hx hvs
    split at h1 <;> try (cases h1; done)
    rename_i f htl
    split at h1 <;> try (cases h1; done)
    rename_i v1 H1 hc
    simp only [Option.some.injEq, Prod.mk.injEq] at h1
    obtain ⟨rfl, rfl, rfl⟩ := h1
    simp only [hx, hvs, htl]
    exact ⟨n, _, _, hc, h2⟩
  · intro h
    split at h
    · rename_i t u vs hx hvs
      split at h
      · rename_i f htl
        obtain ⟨n, v, H', hc, h2⟩ := h
        exact ⟨n, v, H', _, by simp only [aopC, hx, hvs, htl, hc], h2⟩
      · exact h.elim
    · exact h.elim

/-- an operation that calls nothing -/
def AOp.still : AOp → Bool
  | .callF _ _ | .callV _ _ | .callI _ _ _ => false
  | _ => true

theorem wpop_still {pure : Bool} {op : AOp} (hs : op.still = true) {Q : AV → Heap → List Nat → Prop} : WpOp env pure base bar op fr H Q ↔ match aop base bar op fr H with
    | some (v, H', tc) => Q v H' tc
    | none => False := by
  have he : ∀ n, aopC env (exec env n) pure base bar op fr H = aop base bar op fr H := fun n => by
    cases op <;> first | rfl | cases hs
  constructor
  · rintro ⟨n, v, H', tc, h1, h2⟩
    rw [he] at h1
    simp only [h1]; exact h2
  · intro h
    split at h
    · rename_i v H' tc h1
      exact ⟨0, v, H', tc, by rw [he]; exact h1, h⟩
    · exact h.elim

theorem wpdraw_nil {hs : List Heap} {tcs : List (List Nat)} {pend : List (Nat × Nat × Nat)} {Q : Frame → Heap → Prop} :
    WpDraw env base bar [] fr hs tcs pend Q ↔ pend.all (fun p => clearOf p.1 ((tcs.take p.2.2).drop p.2.1)) = true ∧ match hs.getLast? with
      | some H => Q fr H
      | none => False := by
  constructor
  · rintro ⟨n, st, h1, h2⟩
    simp only [runDraw] at h1
    split at h1 <;> try (cases h1; done)
    rename_i hp
    cases hl : hs.getLast? with
    | none => simp [hl] at h1
    | some H => simp only [hl, Option.some.injEq] at h1; subst h1; exact ⟨hp, h2⟩
  · rintro ⟨hp, h⟩
    cases hl : hs.getLast? with
    | none => simp [hl] at h
    | some H => simp only [hl] at h; exact ⟨0, ⟨fr, H⟩, by simp only [runDraw, hp, if_true, hl], h⟩

/-- a read in a region that draws -/
def readWp (env : Env) (base bar : Nat) (op : AOp) (lo hi : Nat) (fr0 : Frame) (r : List AOper) (fr : Frame) (hs : List Heap) (tcs : List (List Nat)) (pend : List (Nat × Nat × Nat)) (Q : Frame → Heap → Prop) : Prop :=
  if lo = hi then WpDraw env base bar r fr hs tcs pend Q
  else match readOf op fr0 with
    | some none => WpDraw env base bar r fr hs tcs pend Q
    | some (some id) => WpDraw env base bar r fr hs tcs ((id, lo, hi) :: pend) Q
    | none => False

theorem wpdraw_cons {d : Option Nat} {op : AOp} {g : Option (Nat × Bool)} {e p : Bool} {l : List Nat} {lo hi : Nat} {r : List AOper} {hs : List Heap} {tcs : List (List Nat)} {pend : List (Nat × Nat × Nat)}
    {Q : Frame → Heap → Prop} :
    WpDraw env base bar (⟨d, op, g, e, p, l, lo, hi⟩ :: r) fr hs tcs pend Q ↔ match wantA g (fkeep l fr), e with
    | none, _ => False
    | some false, true => (match hs.getLast? with
      | some H => WpDraw env base bar r (fput d (.tup []) fr) (hs ++ [H]) (tcs ++ [[]]) pend Q
      | none => False)
    | some false, false => (match hs.getLast? with
      | some _ => WpDraw env base bar r (fput d (.tup []) fr) hs tcs pend Q
      | none => False)
    | some true, true => (match hs.getLast? with
      | some H => WpOp env p base bar op (fkeep l fr) H (fun v H' tc => WpDraw env base bar r (fput d v fr) (hs ++ [H']) (tcs ++ [tc]) pend Q)
      | none => False)
    | some true, false => (match hs[lo]? with
      | some H => WpOp env true base bar op (fkeep l fr) H (fun v H' tc => (tc.isEmpty = true ∧ H'.length = H.length) ∧ readWp env base bar op lo hi (fkeep l fr) r (fput d v fr) hs tcs pend Q)
      | none => False) := by
  constructor
  · rintro ⟨n, st, h1, h2⟩
    simp only [runDraw] at h1
    cases hw : wantA g (fkeep l fr) with
    | none => simp [hw] at h1
    | some b =>
      cases b <;> cases e <;> simp only [hw, if_true, Bool.false_eq_true, if_false] at h1 ⊢
      · cases hl : hs.getLast? with
        | none => simp [hl] at h1
        | some H => simp only [hl] at h1; exact ⟨n, st, h1, h2⟩
      · cases hl : hs.getLast? with
        | none => simp [hl] at h1
        | some H => simp only [hl] at h1; exact ⟨n, st, h1, h2⟩
      · cases hl : hs[lo]? with
        | none => simp [hl] at h1
        | some H =>
          simp only [hl] at h1
          split at h1 <;> try (cases h1; done)
          rename_i v H' tc hc
          split at h1 <;> try (cases h1; done)
          rename_i ht
          refine ⟨n, v, H', tc, hc, ht, ?_⟩
          unfold readWp
          split at h1
          · rename_i hlo; rw [if_pos hlo]; exact ⟨n, st, h1, h2⟩
          · rename_i hlo
            rw [if_neg hlo]
            split at h1
            · rename_i hr; simp only [hr]; exact ⟨n, st, h1, h2⟩
            · rename_i hr; simp only [hr]; exact ⟨n, st, h1, h2⟩
            · cases h1
      · cases hl : hs.getLast? with
        | none => simp [hl] at h1
        | some H =>
          simp only [hl] at h1
          split at h1 <;> try (cases h1; done)
          rename_i v H' tc hc
          exact ⟨n, v, H', tc, hc, n, st, h1, h2⟩
  · intro h
    cases hw : wantA g (fkeep l fr) with
    | none => simp [hw] at h
    | some b =>
      cases b <;> cases e <;> simp only [hw] at h
      · cases hl : hs.getLast? with
        | none => simp [hl] at h
        | some H => simp only [hl] at h; obtain ⟨n, st, h1, h2⟩ := h; exact ⟨n, st, by simpa only [runDraw, hw, hl, Bool.false_eq_true, if_false] using h1, h2⟩
      · cases hl : hs.getLast? with
        | none => simp [hl] at h
        | some H => simp only [hl] at h; obtain ⟨n, st, h1, h2⟩ := h; exact ⟨n, st, by simpa only [runDraw, hw, hl, if_true] using h1, h2⟩
      · cases hl : hs[lo]? with
        | none => simp [hl] at h
        | some H =>
          simp only [hl] at h
          obtain ⟨n, v, H', tc, hc, ht, h⟩ := h
          unfold readWp at h
          split at h
          · rename_i hlo
            obtain ⟨m, st, h1, h2⟩ := h
            refine ⟨max n m, st, ?_, h2⟩
            simp only [runDraw, hw, hl, Bool.false_eq_true, if_false]
            rw [aopC_lift (Nat.le_max_left n m) hc]
            simp only [ht, and_self, if_true, hlo]
            exact runDraw_mono (exec_le (Nat.le_max_right n m)) h1
          · rename_i hlo
            split at h
            · rename_i hr
              obtain ⟨m, st, h1, h2⟩ := h
              refine ⟨max n m, st, ?_, h2⟩
              simp only [runDraw, hw, hl, Bool.false_eq_true, if_false]
              rw [aopC_lift (Nat.le_max_left n m) hc]
              simp only [ht, and_self, if_true, hlo, if_false, hr]
              exact runDraw_mono (exec_le (Nat.le_max_right n m)) h1
            · rename_i hr
              obtain ⟨m, st, h1, h2⟩ := h
              refine ⟨max n m, st, ?_, h2⟩
              simp only [runDraw, hw, hl, Bool.false_eq_true, if_false]
              rw [aopC_lift (Nat.le_max_left n m) hc]
              simp only [ht, and_self, if_true, hlo, if_false, hr]
              exact runDraw_mono (exec_le (Nat.le_max_right n m)) h1
            · exact h.elim
      · cases hl : hs.getLast? with
        | none => simp [hl] at h
        | some H =>
          simp only [hl] at h
          obtain ⟨n, v, H', tc, hc, m, st, h1, h2⟩ := h
          refine ⟨max n m, st, ?_, h2⟩
          simp only [runDraw, hw, hl, if_true]
          rw [aopC_lift (Nat.le_max_left n m) hc]
          exact runDraw_mono (exec_le (Nat.le_max_right n m)) h1

/-- what a function hands back -/
def endWp (mode base bar : Nat) (res : List ARes) (Q : AV → Heap → Prop) (fr : Frame) (H : Heap) : Prop :=
  match resOf fr H res with
  | some vs => match leave mode base bar vs H with
    | some (v, H') => Q v H'
    | none => False
  | none => False

def retWp (mode base bar : Nat) (res : List ARes) (Q : AV → Heap → Prop) : PQ
  | .normal, fr, H => endWp mode base bar res Q fr H
  | .ret, fr, H => endWp mode base bar res Q fr H
  | _, _, _ => False

/-- the body of a function, at its arguments -/
def WpFun (env : Env) (pure : Bool) (base bar : Nat) (af : AFun) (args : List AV) (H : Heap) (Q : AV → Heap → Prop) : Prop :=
  args.length ≤ af.nt ∧ (pure && (af.mode != 0 && af.mode != 4)) = false ∧
    Wp env (baseOf af.mode base H.length) (barOf pure H.length bar) af.body (frame0 0 args) H (retWp af.mode (baseOf af.mode base H.length) (barOf pure H.length bar) af.res Q)

theorem wpcall' {pure : Bool} {f : FuncId} {args : List AV} {Q : AV → Heap → Prop} (hk : ∀ args H, env.known f args H = none) : WpCall env pure base bar f args H Q ↔ match env.funs f with
    | none => False
    | some af => match (if af.raw then some (args, H) else frzAll bar H args) with
      | none => False
      | some (args, H) => WpFun env pure base bar af args H Q := by
  unfold WpCall callWith
  cases hf : env.funs f with
  | none => simp
  | some af =>
    simp only [hk]
    cases hz : (if af.raw then some (args, H) else frzAll bar H args) with
    | none => simp
    | some p =>
      obtain ⟨args1, H1⟩ := p
      simp only [WpFun]
      constructor
      · rintro ⟨n, v, H', h1, h2⟩
        split at h1 <;> try (cases h1; done)
        rename_i hnt
        split at h1 <;> try (cases h1; done)
        rename_i hp
        refine ⟨by omega, by simpa using hp, ?_⟩
        split at h1
        · rename_i st he
          split at h1 <;> try (cases h1; done)
          rename_i vs hvs
          exact ⟨n, _, st, he, by simp only [retWp, endWp, hvs, h1]; exact h2⟩
        · rename_i st he
          split at h1 <;> try (cases h1; done)
          rename_i vs hvs
          exact ⟨n, _, st, he, by simp only [retWp, endWp, hvs, h1]; exact h2⟩
        · cases h1
      · rintro ⟨hnt, hp, n, e, st, he, h2⟩
        simp only [if_neg (show ¬ af.nt < args1.length by omega), if_neg (show ¬ (pure && (af.mode != 0 && af.mode != 4)) = true by rw [hp]; exact Bool.false_ne_true)]
        have fin : endWp af.mode (baseOf af.mode base H1.length) (barOf pure H1.length bar) af.res Q st.fr st.H → ∃ v H', (match resOf st.fr st.H af.res with
            | some vs => leave af.mode (baseOf af.mode base H1.length) (barOf pure H1.length bar) vs st.H
            | none => none) = some (v, H') ∧ Q v H' := fun h => by
          unfold endWp at h
          split at h
          · rename_i vs hvs
            split at h
            · rename_i v H' hl
              exact ⟨v, H', hl, h⟩
            · exact h.elim
          · exact h.elim
        cases e with
        | normal =>
          obtain ⟨v, H', h3, h4⟩ := fin h2
          exact ⟨n, v, H', by rw [he]; exact h3, h4⟩
        | ret =>
          obtain ⟨v, H', h3, h4⟩ := fin h2
          exact ⟨n, v, H', by rw [he]; exact h3, h4⟩
        | exit => exact h2.elim
        | goto => exact h2.elim

/-- what a call is known to give, it gives -/
theorem WpCall.det {pure : Bool} {f : FuncId} {args : List AV} {v0 : AV} {H0 : Heap} {Q : AV → Heap → Prop} (h : WpCall env pure base bar f args H (fun v H' => v = v0 ∧ H' = H0)) : WpCall env pure base bar f args H Q ↔ Q v0 H0 := by
  obtain ⟨n, v, H', h1, rfl, rfl⟩ := h
  constructor
  · rintro ⟨m, v, H', h2, h3⟩
    have a := callWith_mono (exec_le (Nat.le_max_left n m)) h1
    have b := callWith_mono (exec_le (Nat.le_max_right n m)) h2
    rw [a] at b
    simp only [Option.some.injEq, Prod.mk.injEq] at b
    obtain ⟨rfl, rfl⟩ := b
    exact h3
  · exact fun h => ⟨n, _, _, h1, h⟩

theorem WpCall.acall {f : FuncId} {args : List AV} {H : Heap} {v : AV} {H' : Heap} (h : WpCall env false H.length 0 f args H (fun v1 H1 => v1 = v ∧ H1 = H')) : ∃ n, acall env n f args H = some (v, H') := by
  obtain ⟨n, v, H', h1, rfl, rfl⟩ := h
  exact ⟨n, h1⟩
end Go.Ab
