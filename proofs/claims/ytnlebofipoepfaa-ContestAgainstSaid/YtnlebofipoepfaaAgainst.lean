/-
  Proofs against scores are returned, and accepted, as the reference states; a contest is made just where it is stated, and has the scores (lists of at most 40).
-/
import Derived.Test.YtnlebofipoepfaaRows
import Derived.WalkKit
import Derived.ProofKit
import Derived.OpenShut
import Derived.Test.YtnlebofipoepfaaPost
import Derived.Test.YtnlebofipoepfaaAbArg
import Derived.Test.YtnlebofipoepfaaKA
set_option linter.all false
namespace Go.Proofs.Ytnlebofipoepfaa.contestAgainst
open Go.ChangeShapes Go.WideShapes Go.ChangeAt Go.RowKit

theorem own : ownKnob Try.prog.godebug = none := by kernel_rfl

theorem walk {q0 : Ab.AV} {l0 : List Int} {u0 : Value} {q1 : Ab.AV} {l1 : List Int} {u1 : Value} (w : World) (hz0 : Code.isZ q0 l0) (hu0 : Ab.VR (Ab.ctx0 w) q0 u0) (hz1 : Code.isZ q1 l1) (hu1 : Ab.VR (Ab.ctx0 w) q1 u1) :
    Calls Try.prog 6 #[u0, u1] w fun e w' => e = .returned (.bool true) ∧ Below w.heap.size w w' := by
  obtain ⟨f, H', h⟩ := Code.against_true  hz0 hz1
  exact Ab.law_true (env := Code.E) (us := [u0, u1]) (Ab.funsOK rfl Code.tableOK) (Ab.knownT_ok rfl (fun p hp => by
    simp only [List.mem_singleton] at hp; subst hp; exact Works.kept)) Code.mixed (.cons hu0 (.cons hu1 .nil)) h

set_option maxRecDepth 100000 in
theorem lifted (os : Os) (started : os.Started) (H : Type) (enc : TypeId × Value → H) :
    ReturnsInHanded {} Try.checked os 6 .any (Rows.contestAgainstSpec.pre6 enc Try.prog Try.f6 Rows.contestAgainstRow.domain false) (Rows.contestAgainstSpec.post enc Try.prog Try.f6 false true false false) := by
  refine returnsInHanded_of_change (C := Try.checked) own started (by kernel_rfl) Try.func6
    (ChangeSpec.witness6 (enc := enc) (C := Try.checked) false ⟨#[], #[.slice none 0 0, .slice none 0 0], []⟩ 8 (by kernel_rfl) (by kernel_rfl) (by kernel_rfl) (by kernel_rfl)) ?_
  intro W base args ds gs before hval0 hW hcnd _
  have hval : ∀ (j : Nat) t v, Try.f6.params[j]? = some t → args[j]? = some v → Value.okWide Try.prog W .any base t v := hval0
  have hW' := hW
  obtain ⟨p, q, hA0, hV, rfl, hfz, hnd⟩ := hW
  have hA : DataW.TrodAll enc Try.prog W 0 (fun _ => true) true Try.f6.params.toList args.toList ds p := hA0
  rw [Try.params6] at hA hval
  obtain ⟨v0, vs0, d0, ds0, pl0, ql0, hargs, rfl, rfl, h0, r0⟩ := trodAll_cons hA
  obtain ⟨v1, vs1, d1, ds1, pl1, ql1, rfl, rfl, rfl, h1, r1⟩ := trodAll_cons r0
  obtain ⟨rfl, rfl, rfl⟩ := trodAll_nil r1
  obtain rfl : args = #[v0, v1] := by cases args; simp_all
  obtain ⟨rfl, rfl⟩ := trodVars_none hV
  obtain ⟨q0, l0, hu0, hz0⟩ := Code.ints_vr (t := 31) (e := 3) Try.underlying31 Try.underlying3 (by kernel_rfl) (hval 0 31 v0 rfl rfl) h0
  obtain ⟨q1, l1, hu1, hz1⟩ := Code.ints_vr (t := 31) (e := 3) Try.underlying31 Try.underlying3 (by kernel_rfl) (hval 1 31 v1 rfl rfl) h1
  refine (walk W hz0 hu0 hz1 hu1).mono fun e W' ⟨he, hg⟩ => ?_
  subst he
  have whole := hW'
  refine ⟨_, rfl, law_post (ds := [d0, d1]) (at0 := pl0 ++ (pl1 ++ [])) (by simpa only [List.append_nil] using hW') hg (fun _ _ _ => (trodAll_cons_mk (shut_bool Try.underlying4 _) trodAll_mk0)) (fun sp hsp => ?_) (fun _ => rfl)
    (ok_one (by kernel_rfl) rfl (okWide_bool_mk Try.underlying4 _))⟩
  refine Ab.trodAll_stays (by kernel_rfl) hg (fun t ht => ?_) (show DataW.TrodAll enc Try.prog W 0 (fun _ => true) true Try.f6.params.toList #[v0, v1].toList [d0, d1] (pl0 ++ (pl1 ++ [])) from hA0) (fun x hx => ?_) hsp
  · have : t ∈ [31, 31] := by have := Try.params6 ▸ ht; simpa using this
    obtain rfl : t = 31 := by simpa using this
    exact ⟨by kernel_rfl, of_decide_eq_true (by kernel_rfl)⟩
  · exact DataW.Whole.lt whole x (by simpa using hx)

theorem over : Rows.contestAgainstRow.holds Try.pinned (OpenSpec.ofChange Rows.contestAgainstSpec) :=
  OpenClaim.holds_of_wide 6 Try.f6 rfl rfl rfl rfl rfl rfl rfl ⟨rfl, rfl, rfl, rfl, rfl⟩ rfl rfl rfl rfl rfl (by kernel_rfl) Try.func6 (by kernel_rfl)
    (of_decide_eq_true (by kernel_rfl)) (by unfold Func.isWrapper; first | (rw [if_pos (by decide +kernel)]; kernel_rfl) | (rw [if_neg (by decide +kernel)]; exact ⟨rfl, rfl⟩))
    (fun os started H enc _ => lifted os started H enc)

/-- ████ THE STATEMENT ████ -/
theorem proved : Rows.ContestAgainstSaid :=
  over
#print axioms proved
end Go.Proofs.Ytnlebofipoepfaa.contestAgainst
