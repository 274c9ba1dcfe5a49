/-
  A knot occurs in the list as often as its degree, less 1, says; as many trees have some degrees as are counted: all lists are tried.
-/
import Derived.Test.YtoipleipokpnaaaRows
import Derived.WalkKit
import Derived.ProofKit
import Derived.OpenShut
import Derived.Test.YtoipleipokpnaaaKit
import Derived.Test.YtoipleipokpnaaaWa
set_option linter.all false
namespace Go.Proofs.Ytoipleipokpnaaa.branchWith
open Go.ChangeShapes Go.WideShapes Go.ChangeAt Go.RowKit

theorem u8_wf {z : Int} (h : (Lit.int .u8 z).wf = true) : ∃ a : Nat, z = a ∧ a < 256 := by
  simp only [Lit.wf, Bool.and_eq_true, decide_eq_true_eq] at h
  have m0 : IntKind.u8.min = 0 := by decide
  have m1 : IntKind.u8.max = 255 := by decide
  exact ⟨z.toNat, by omega, by omega⟩

theorem own : ownKnob Try.prog.godebug = none := by kernel_rfl

theorem walk {a0 : Nat} {u0 : Value} {f1 : Nat → Nat} {u1 : Value} {f2 : Nat → Nat} {u2 : Value} (w : World) (ha0 : a0 < 256) (hu0 : u0 = .int .u8 (a0 : Nat)) (hf1 : ∀ i, f1 i < 256) (hu1 : Ab.VR (Ab.ctx0 w) (.agg (Code.by6 f1)) u1) (hf2 : ∀ i, f2 i < 256) (hu2 : Ab.VR (Ab.ctx0 w) (.agg (Code.tw f2)) u2) :
    Calls Try.prog 5 #[u0, u1, u2] w fun e w' => e = .returned (.bool true) ∧ Below w.heap.size w w' := by
  subst hu0
  obtain ⟨f, H', h⟩ := Code.with_true  ha0 hf1 hf2
  exact Ab.law_true (env := Code.E) (us := [.int .u8 (a0 : Nat), u1, u2]) (Ab.funsOK rfl Code.tableOK) Code.knowOK Code.mixed (Ab.glob0 fun _ => rfl) (.cons (.int _ _) (.cons hu1 (.cons hu2 .nil))) h

set_option maxRecDepth 100000 in
theorem lifted (os : Os) (started : os.Started) (H : Type) (enc : TypeId × Value → H) :
    ReturnsInHanded {} Try.checked os 5 .any (Rows.branchWithSpec.pre6 enc Try.prog Try.f5 Rows.branchWithRow.domain false) (Rows.branchWithSpec.post enc Try.prog Try.f5 false true false false) := by
  refine returnsInHanded_of_change (C := Try.checked) own started (by kernel_rfl) Try.func5
    (ChangeSpec.witness6 (enc := enc) (C := Try.checked) false ⟨#[], #[.int .u8 0, .agg #[.int .u8 0, .int .u8 0, .int .u8 0, .int .u8 0, .int .u8 0, .int .u8 0], .agg #[.int .u8 0, .int .u8 0, .int .u8 0, .int .u8 0, .int .u8 0, .int .u8 0, .int .u8 0, .int .u8 0, .int .u8 0, .int .u8 0, .int .u8 0, .int .u8 0, .int .u8 0, .int .u8 0, .int .u8 0, .int .u8 0, .int .u8 0, .int .u8 0]], []⟩ 8 (by kernel_rfl) (by kernel_rfl) (by kernel_rfl) (by kernel_rfl)) ?_
  intro W base args ds gs before hval0 hW hcnd _
  have hval : ∀ (j : Nat) t v, Try.f5.params[j]? = some t → args[j]? = some v → Value.okWide Try.prog W .any base t v := hval0
  have hW' := hW
  obtain ⟨p, q, hA0, hV, rfl, hfz, hnd⟩ := hW
  have hA : DataW.TrodAll enc Try.prog W 0 (fun _ => true) true Try.f5.params.toList args.toList ds p := hA0
  rw [Try.params5] at hA hval
  obtain ⟨v0, vs0, d0, ds0, pl0, ql0, hargs, rfl, rfl, h0, r0⟩ := trodAll_cons hA
  obtain ⟨v1, vs1, d1, ds1, pl1, ql1, rfl, rfl, rfl, h1, r1⟩ := trodAll_cons r0
  obtain ⟨v2, vs2, d2, ds2, pl2, ql2, rfl, rfl, rfl, h2, r2⟩ := trodAll_cons r1
  obtain ⟨rfl, rfl, rfl⟩ := trodAll_nil r2
  obtain rfl : args = #[v0, v1, v2] := by cases args; simp_all
  obtain ⟨rfl, rfl⟩ := trodVars_none hV
  obtain ⟨z0, hu0, _, _, w0⟩ := open_int Try.underlying5 (hval 0 5 v0 rfl rfl) h0
  obtain ⟨a0, hz0, ha0⟩ := u8_wf w0
  rw [hz0] at hu0
  obtain ⟨f1, hf1, hu1⟩ := Code.bytes_vr (t := 55) (e := 5) (m := 6) Try.underlying55 Try.underlying5 (by kernel_rfl) (by kernel_rfl) (hval 1 55 v1 rfl rfl) h1
  obtain ⟨f2, hf2, hu2⟩ := Code.twig_vr (t := 59) (e := 5) Try.underlying59 rfl rfl rfl (by kernel_rfl) (by kernel_rfl) (by kernel_rfl) (by kernel_rfl) Try.underlying5 Try.underlying56 Try.underlying57 Try.underlying5 (by kernel_rfl) (hval 2 59 v2 rfl rfl) h2
  refine (walk W ha0 hu0 hf1 hu1 hf2 hu2).mono fun e W' ⟨he, hg⟩ => ?_
  subst he
  have whole := hW'
  refine ⟨_, rfl, law_post (ds := [d0, d1, d2]) (at0 := pl0 ++ (pl1 ++ (pl2 ++ []))) (by simpa only [List.append_nil] using hW') hg (fun _ _ _ => (trodAll_cons_mk (shut_bool Try.underlying4 _) trodAll_mk0)) (fun sp hsp => ?_) (fun _ => rfl)
    (ok_one (by kernel_rfl) rfl (okWide_bool_mk Try.underlying4 _))⟩
  refine Ab.trodAll_stays (by kernel_rfl) hg (fun t ht => ?_) (show DataW.TrodAll enc Try.prog W 0 (fun _ => true) true Try.f5.params.toList #[v0, v1, v2].toList [d0, d1, d2] (pl0 ++ (pl1 ++ (pl2 ++ []))) from hA0) (fun x hx => ?_) hsp
  · have : t ∈ [5, 55, 59] := by have := Try.params5 ▸ ht; simpa using this
    rcases (by simpa using this : t = 5 ∨ t = 55 ∨ t = 59) with rfl | rfl | rfl
    · exact ⟨by kernel_rfl, of_decide_eq_true (by kernel_rfl)⟩
    · exact ⟨by kernel_rfl, of_decide_eq_true (by kernel_rfl)⟩
    · exact ⟨by kernel_rfl, of_decide_eq_true (by kernel_rfl)⟩
  · exact DataW.Whole.lt whole x (by simpa using hx)

theorem over : Rows.branchWithRow.holds Try.pinned (OpenSpec.ofChange Rows.branchWithSpec) :=
  OpenClaim.holds_of_wide 5 Try.f5 rfl rfl rfl rfl rfl rfl rfl ⟨rfl, rfl, rfl, rfl, rfl⟩ rfl rfl rfl rfl rfl (by kernel_rfl) Try.func5 (by kernel_rfl)
    (of_decide_eq_true (by kernel_rfl)) (by unfold Func.isWrapper; first | (rw [if_pos (by decide +kernel)]; kernel_rfl) | (rw [if_neg (by decide +kernel)]; exact ⟨rfl, rfl⟩))
    (fun os started H enc _ => lifted os started H enc)

/-- ████ THE STATEMENT ████ -/
theorem proved : Rows.BranchWithSaid :=
  over
#print axioms proved
end Go.Proofs.Ytoipleipokpnaaa.branchWith
