/-
  There is a contest for scores just if no curlers have fewer wins together than meetings between them (all contests of at most 5 curlers are tried); the first proof with as few curlers as possible is returned (scores by numbers).
-/
import Derived.Test.YtnlebofipoepfaaRows
import Derived.WalkKit
import Derived.ProofKit
import Derived.OpenShut
import Derived.Test.YtnlebofipoepfaaPost
import Derived.Test.YtnlebofipoepfaaAbArg
import Derived.Test.YtnlebofipoepfaaKL
set_option linter.all false
namespace Go.Proofs.Ytnlebofipoepfaa.contestLandau
open Go.ChangeShapes Go.WideShapes Go.ChangeAt Go.RowKit

theorem own : ownKnob Try.prog.godebug = none := by kernel_rfl

theorem walk {f0 : Nat → Nat} {u0 : Value} {a1 : Nat} {u1 : Value} (w : World) (hf0 : ∀ i, f0 i < 256) (hu0 : Ab.VR (Ab.ctx0 w) (.agg ((List.range 5).map fun i => .int .u8 ((f0 i : Nat) : Int))) u0) (ha1 : a1 < 256) (hu1 : u1 = .int .u8 (a1 : Nat)) :
    Calls Try.prog 9 #[u0, u1] w fun e w' => e = .returned (.bool true) ∧ Below w.heap.size w w' := by
  subst hu1
  obtain ⟨f, H', h⟩ := Code.landau_true  hf0 ha1
  exact Ab.law_true (env := Code.E) (us := [u0, .int .u8 (a1 : Nat)]) (Ab.funsOK rfl Code.tableOK) (Ab.knownT_ok rfl (fun p hp => by
    simp only [List.mem_singleton] at hp; subst hp; exact Works.kept)) Code.mixed (.cons hu0 (.cons (.int _ _) .nil)) h

set_option maxRecDepth 100000 in
theorem lifted (os : Os) (started : os.Started) (H : Type) (enc : TypeId × Value → H) :
    ReturnsInHanded {} Try.checked os 9 .any (Rows.contestLandauSpec.pre6 enc Try.prog Try.f9 Rows.contestLandauRow.domain false) (Rows.contestLandauSpec.post enc Try.prog Try.f9 false true false false) := by
  refine returnsInHanded_of_change (C := Try.checked) own started (by kernel_rfl) Try.func9
    (ChangeSpec.witness6 (enc := enc) (C := Try.checked) false ⟨#[], #[.agg #[.int .u8 0, .int .u8 0, .int .u8 0, .int .u8 0, .int .u8 0], .int .u8 0], []⟩ 8 (by kernel_rfl) (by kernel_rfl) (by kernel_rfl) (by kernel_rfl)) ?_
  intro W base args ds gs before hval0 hW hcnd _
  have hval : ∀ (j : Nat) t v, Try.f9.params[j]? = some t → args[j]? = some v → Value.okWide Try.prog W .any base t v := hval0
  have hW' := hW
  obtain ⟨p, q, hA0, hV, rfl, hfz, hnd⟩ := hW
  have hA : DataW.TrodAll enc Try.prog W 0 (fun _ => true) true Try.f9.params.toList args.toList ds p := hA0
  rw [Try.params9] at hA hval
  obtain ⟨v0, vs0, d0, ds0, pl0, ql0, hargs, rfl, rfl, h0, r0⟩ := trodAll_cons hA
  obtain ⟨v1, vs1, d1, ds1, pl1, ql1, rfl, rfl, rfl, h1, r1⟩ := trodAll_cons r0
  obtain ⟨rfl, rfl, rfl⟩ := trodAll_nil r1
  obtain rfl : args = #[v0, v1] := by cases args; simp_all
  obtain ⟨rfl, rfl⟩ := trodVars_none hV
  obtain ⟨f0, hf0, hu0⟩ := Ab.bytes_vr (t := 66) (e := 5) (m := 5) Try.underlying66 Try.underlying5 (by kernel_rfl) (by kernel_rfl) (hval 0 66 v0 rfl rfl) h0
  obtain ⟨z1, hu1, _, _, w1⟩ := open_int Try.underlying5 (hval 1 5 v1 rfl rfl) h1
  obtain ⟨a1, hz1, ha1⟩ := Ab.u8_wf w1
  rw [hz1] at hu1
  refine (walk W hf0 hu0 ha1 hu1).mono fun e W' ⟨he, hg⟩ => ?_
  subst he
  have whole := hW'
  refine ⟨_, rfl, law_post (ds := [d0, d1]) (at0 := pl0 ++ (pl1 ++ [])) (by simpa only [List.append_nil] using hW') hg (fun _ _ _ => (trodAll_cons_mk (shut_bool Try.underlying4 _) trodAll_mk0)) (fun sp hsp => ?_) (fun _ => rfl)
    (ok_one (by kernel_rfl) rfl (okWide_bool_mk Try.underlying4 _))⟩
  refine Ab.trodAll_stays (by kernel_rfl) hg (fun t ht => ?_) (show DataW.TrodAll enc Try.prog W 0 (fun _ => true) true Try.f9.params.toList #[v0, v1].toList [d0, d1] (pl0 ++ (pl1 ++ [])) from hA0) (fun x hx => ?_) hsp
  · have : t ∈ [66, 5] := by have := Try.params9 ▸ ht; simpa using this
    rcases (by simpa using this : t = 66 ∨ t = 5) with rfl | rfl
    · exact ⟨by kernel_rfl, of_decide_eq_true (by kernel_rfl)⟩
    · exact ⟨by kernel_rfl, of_decide_eq_true (by kernel_rfl)⟩
  · exact DataW.Whole.lt whole x (by simpa using hx)

theorem over : Rows.contestLandauRow.holds Try.pinned (OpenSpec.ofChange Rows.contestLandauSpec) :=
  OpenClaim.holds_of_wide 9 Try.f9 rfl rfl rfl rfl rfl rfl rfl ⟨rfl, rfl, rfl, rfl, rfl⟩ rfl rfl rfl rfl rfl (by kernel_rfl) Try.func9 (by kernel_rfl)
    (of_decide_eq_true (by kernel_rfl)) (by unfold Func.isWrapper; first | (rw [if_pos (by decide +kernel)]; kernel_rfl) | (rw [if_neg (by decide +kernel)]; exact ⟨rfl, rfl⟩))
    (fun os started H enc _ => lifted os started H enc)

/-- ████ THE STATEMENT ████ -/
theorem proved : Rows.ContestLandauSaid :=
  over
#print axioms proved
end Go.Proofs.Ytnlebofipoepfaa.contestLandau
