/-
  Rounds of a loop, run by the evaluator, as a rule.
-/
import Derived.Test.YtbkhffakhggdaaaDoorAbWs
set_option linter.all false
namespace Go.Ab
/-- rounds of a loop, run: frames as they stand after so many -/
def rounds (env : Env) (f : Nat) (body : ACode) : Nat → Frame → Heap → Option (Frame × Heap)
  | 0, fr, H => some (fr, H)
  | k + 1, fr, H => match exec env f 0 0 body ⟨fr, H⟩ with
    | some (.normal, st) => rounds env f body k st.fr st.H
    | _ => none
theorem rounds_wp {env : Env} {f : Nat} {body : ACode} {R : PQ} : ∀ {k : Nat} {fr fr' : Frame} {H H' : Heap}, rounds env f body k fr H = some (fr', H') →
    Wp env 0 0 (.loop body) fr' H' R → Wp env 0 0 (.loop body) fr H R
  | 0, fr, fr', H, H', h, w => by
    simp only [rounds, Option.some.injEq, Prod.mk.injEq] at h
    obtain ⟨rfl, rfl⟩ := h
    exact w
  | k + 1, fr, fr', H, H', h, w => by
    simp only [rounds] at h
    split at h
    · rename_i st he
      rw [wp_loop]
      exact ⟨f, _, _, he, rounds_wp h w⟩
    · cases h
/-- a call of which no answer is kept at these arguments -/
theorem wpcall_at {env : Env} {base bar : Nat} {H : Heap} {pure : Bool} {f : FuncId} {af : AFun} {args : List AV} {Q : AV → Heap → Prop} (hf : env.funs f = some af) (hz : (if af.raw then some (args, H) else frzAll bar H args) = some (args, H))
    (hk : env.known f args H = none) : WpCall env pure base bar f args H Q ↔ frzWp env pure base bar af Q (some (args, H)) := by
  unfold WpCall callWith frzWp
  simp only [hf, hz, hk]
  simp only [WpFun]
  constructor
  · rintro ⟨n, v, H', h1, h2⟩
    split at h1 <;> try (cases h1; done)
    rename_i hnt
    split at h1 <;> try (cases h1; done)
    rename_i hp
    refine ⟨by omega, by simpa using hp, ?_⟩
    split at h1
    · rename_i st he
      split at h1 <;> try (cases h1; done)
      rename_i vs hvs
      exact ⟨n, _, st, he, by simp only [retWp, endWp, hvs, h1]; exact h2⟩
    · rename_i st he
      split at h1 <;> try (cases h1; done)
      rename_i vs hvs
      exact ⟨n, _, st, he, by simp only [retWp, endWp, hvs, h1]; exact h2⟩
    · cases h1
  · rintro ⟨hnt, hp, n, e, st, he, h2⟩
    simp only [if_neg (show ¬ af.nt < args.length by omega), if_neg (show ¬ (pure && (af.mode != 0 && af.mode != 4)) = true by rw [hp]; exact Bool.false_ne_true)]
    have fin : endWp af.mode (baseOf af.mode base H.length) (barOf pure H.length bar) af.res Q st.fr st.H → ∃ v H', (match resOf st.fr st.H af.res with
        | some vs => leave af.mode (baseOf af.mode base H.length) (barOf pure H.length bar) vs st.H
        | none => none) = some (v, H') ∧ Q v H' := fun h => by
      unfold endWp at h
      split at h
      · rename_i vs hvs
        split at h
        · rename_i v H' hl
          exact ⟨v, H', by simp only [hvs]; exact hl, h⟩
        · exact h.elim
      · exact h.elim
    cases e with
    | normal =>
      obtain ⟨v, H', h3, h4⟩ := fin h2
      exact ⟨n, v, H', by rw [he]; exact h3, h4⟩
    | ret =>
      obtain ⟨v, H', h3, h4⟩ := fin h2
      exact ⟨n, v, H', by rw [he]; exact h3, h4⟩
    | exit => exact h2.elim
    | goto => exact h2.elim
end Go.Ab
