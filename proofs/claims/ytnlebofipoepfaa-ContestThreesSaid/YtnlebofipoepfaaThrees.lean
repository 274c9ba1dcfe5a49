/-
  Rings of three are counted, set by set; the scores have the number of meetings as sum; the contest that is made from the scores has as many rings of three (games by numbers).
-/
import Derived.Test.YtnlebofipoepfaaRows
import Derived.WalkKit
import Derived.ProofKit
import Derived.OpenShut
import Derived.Test.YtnlebofipoepfaaPost
import Derived.Test.YtnlebofipoepfaaAbArg
import Derived.Test.YtnlebofipoepfaaKS
set_option linter.all false
namespace Go.Proofs.Ytnlebofipoepfaa.contestThrees
open Go.ChangeShapes Go.WideShapes Go.ChangeAt Go.RowKit

theorem own : ownKnob Try.prog.godebug = none := by kernel_rfl

theorem walk {p0 bits0 : Nat} {u0 : Value} (w : World) (hp0 : p0 < 256) (hb0 : bits0 < 4294967296) (hu0 : Ab.VR (Ab.ctx0 w) (.agg [.int .u8 (p0 : Nat), .int .u32 (bits0 : Nat)]) u0) :
    Calls Try.prog 10 #[u0] w fun e w' => e = .returned (.bool true) ∧ Below w.heap.size w w' := by
  obtain ⟨f, H', h⟩ := Code.threes_true  hp0 hb0
  exact Ab.law_true (env := Code.E) (us := [u0]) (Ab.funsOK rfl Code.tableOK) (Ab.knownT_ok rfl (fun p hp => by
    simp only [List.mem_singleton] at hp; subst hp; exact Works.kept)) Code.mixed (.cons hu0 .nil) h

set_option maxRecDepth 100000 in
theorem lifted (os : Os) (started : os.Started) (H : Type) (enc : TypeId × Value → H) :
    ReturnsInHanded {} Try.checked os 10 .any (Rows.contestThreesSpec.pre6 enc Try.prog Try.f10 Rows.contestThreesRow.domain false) (Rows.contestThreesSpec.post enc Try.prog Try.f10 false true false false) := by
  refine returnsInHanded_of_change (C := Try.checked) own started (by kernel_rfl) Try.func10
    (ChangeSpec.witness6 (enc := enc) (C := Try.checked) false ⟨#[], #[.agg #[.int .u8 0, .int .u32 0]], []⟩ 8 (by kernel_rfl) (by kernel_rfl) (by kernel_rfl) (by kernel_rfl)) ?_
  intro W base args ds gs before hval0 hW hcnd _
  have hval : ∀ (j : Nat) t v, Try.f10.params[j]? = some t → args[j]? = some v → Value.okWide Try.prog W .any base t v := hval0
  have hW' := hW
  obtain ⟨p, q, hA0, hV, rfl, hfz, hnd⟩ := hW
  have hA : DataW.TrodAll enc Try.prog W 0 (fun _ => true) true Try.f10.params.toList args.toList ds p := hA0
  rw [Try.params10] at hA hval
  obtain ⟨v0, vs0, d0, ds0, pl0, ql0, hargs, rfl, rfl, h0, r0⟩ := trodAll_cons hA
  obtain ⟨rfl, rfl, rfl⟩ := trodAll_nil r0
  obtain rfl : args = #[v0] := by cases args; simp_all
  obtain ⟨rfl, rfl⟩ := trodVars_none hV
  obtain ⟨p0, bits0, hp0, hb0, hu0⟩ := Ab.row_vr (t := 57) Try.underlying57 rfl rfl (by kernel_rfl) (by kernel_rfl) (by kernel_rfl) Try.underlying5 Try.underlying55 (hval 0 57 v0 rfl rfl) h0
  refine (walk W hp0 hb0 hu0).mono fun e W' ⟨he, hg⟩ => ?_
  subst he
  have whole := hW'
  refine ⟨_, rfl, law_post (ds := [d0]) (at0 := pl0 ++ []) (by simpa only [List.append_nil] using hW') hg (fun _ _ _ => (trodAll_cons_mk (shut_bool Try.underlying4 _) trodAll_mk0)) (fun sp hsp => ?_) (fun _ => rfl)
    (ok_one (by kernel_rfl) rfl (okWide_bool_mk Try.underlying4 _))⟩
  refine Ab.trodAll_stays (by kernel_rfl) hg (fun t ht => ?_) (show DataW.TrodAll enc Try.prog W 0 (fun _ => true) true Try.f10.params.toList #[v0].toList [d0] (pl0 ++ []) from hA0) (fun x hx => ?_) hsp
  · have : t ∈ [57] := by have := Try.params10 ▸ ht; simpa using this
    obtain rfl : t = 57 := by simpa using this
    exact ⟨by kernel_rfl, of_decide_eq_true (by kernel_rfl)⟩
  · exact DataW.Whole.lt whole x (by simpa using hx)

theorem over : Rows.contestThreesRow.holds Try.pinned (OpenSpec.ofChange Rows.contestThreesSpec) :=
  OpenClaim.holds_of_wide 10 Try.f10 rfl rfl rfl rfl rfl rfl rfl ⟨rfl, rfl, rfl, rfl, rfl⟩ rfl rfl rfl rfl rfl (by kernel_rfl) Try.func10 (by kernel_rfl)
    (of_decide_eq_true (by kernel_rfl)) (by unfold Func.isWrapper; first | (rw [if_pos (by decide +kernel)]; kernel_rfl) | (rw [if_neg (by decide +kernel)]; exact ⟨rfl, rfl⟩))
    (fun os started H enc _ => lifted os started H enc)

/-- ████ THE STATEMENT ████ -/
theorem proved : Rows.ContestThreesSaid :=
  over
#print axioms proved
end Go.Proofs.Ytnlebofipoepfaa.contestThrees
