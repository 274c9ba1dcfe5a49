/-
  Each tree has a list, and each list is that of one tidy tree; so there are as many trees as lists: all sets of ties, and a larger tree.
-/
import Derived.Test.YtoipleipokpnaaaGreatRows
import Derived.WalkKit
import Derived.ProofKit
import Derived.OpenShut
import Derived.Test.YtoipleipokpnaaaGreatKit
import Derived.Test.YtoipleipokpnaaaGreatWc
set_option linter.all false
namespace Go.Proofs.YtoipleipokpnaaaGreat.branchCayley
open Go.ChangeShapes Go.WideShapes Go.ChangeAt Go.RowKit

theorem u8_wf {z : Int} (h : (Lit.int .u8 z).wf = true) : ∃ a : Nat, z = a ∧ a < 256 := by
  simp only [Lit.wf, Bool.and_eq_true, decide_eq_true_eq] at h
  have m0 : IntKind.u8.min = 0 := by decide
  have m1 : IntKind.u8.max = 255 := by decide
  exact ⟨z.toNat, by omega, by omega⟩

theorem own : ownKnob Tryz.prog.godebug = none := by kernel_rfl

theorem walk {a0 : Nat} {u0 : Value} {f1 : Nat → Nat} {u1 : Value} (w : World) (ha0 : a0 < 256) (hu0 : u0 = .int .u8 (a0 : Nat)) (hf1 : ∀ i, f1 i < 256) (hu1 : Ab.VR (Ab.ctx0 w) (.agg (Code.tw f1)) u1) :
    Calls Tryz.prog 6 #[u0, u1] w fun e w' => e = .returned (.bool true) ∧ Below w.heap.size w w' := by
  subst hu0
  obtain ⟨f, H', h⟩ := Code.cayley_true  ha0 hf1
  exact Ab.law_true (env := Code.E) (us := [.int .u8 (a0 : Nat), u1]) (Ab.funsOK rfl Code.tableOK) Code.knowOK Code.mixed (Ab.glob0 fun _ => rfl) (.cons (.int _ _) (.cons hu1 .nil)) h

set_option maxRecDepth 100000 in
theorem lifted (os : Os) (started : os.Started) (H : Type) (enc : TypeId × Value → H) :
    ReturnsInHanded {} Tryz.checked os 6 .any (Rows.branchCayleySpec.pre6 enc Tryz.prog Tryz.f6 Rows.branchCayleyRow.domain false) (Rows.branchCayleySpec.post enc Tryz.prog Tryz.f6 false true false false) := by
  refine returnsInHanded_of_change (C := Tryz.checked) own started (by kernel_rfl) Tryz.func6
    (ChangeSpec.witness6 (enc := enc) (C := Tryz.checked) false ⟨#[], #[.int .u8 0, .agg #[.int .u8 0, .int .u8 0, .int .u8 0, .int .u8 0, .int .u8 0, .int .u8 0, .int .u8 0, .int .u8 0, .int .u8 0, .int .u8 0, .int .u8 0, .int .u8 0, .int .u8 0, .int .u8 0, .int .u8 0, .int .u8 0, .int .u8 0, .int .u8 0]], []⟩ 8 (by kernel_rfl) (by kernel_rfl) (by kernel_rfl) (by kernel_rfl)) ?_
  intro W base args ds gs before hval0 hW hcnd _
  have hval : ∀ (j : Nat) t v, Tryz.f6.params[j]? = some t → args[j]? = some v → Value.okWide Tryz.prog W .any base t v := hval0
  have hW' := hW
  obtain ⟨p, q, hA0, hV, rfl, hfz, hnd⟩ := hW
  have hA : DataW.TrodAll enc Tryz.prog W 0 (fun _ => true) true Tryz.f6.params.toList args.toList ds p := hA0
  rw [Tryz.params6] at hA hval
  obtain ⟨v0, vs0, d0, ds0, pl0, ql0, hargs, rfl, rfl, h0, r0⟩ := trodAll_cons hA
  obtain ⟨v1, vs1, d1, ds1, pl1, ql1, rfl, rfl, rfl, h1, r1⟩ := trodAll_cons r0
  obtain ⟨rfl, rfl, rfl⟩ := trodAll_nil r1
  obtain rfl : args = #[v0, v1] := by cases args; simp_all
  obtain ⟨rfl, rfl⟩ := trodVars_none hV
  obtain ⟨z0, hu0, _, _, w0⟩ := open_int Tryz.underlying5 (hval 0 5 v0 rfl rfl) h0
  obtain ⟨a0, hz0, ha0⟩ := u8_wf w0
  rw [hz0] at hu0
  obtain ⟨f1, hf1, hu1⟩ := Code.twig_vr (t := 55) (e := 5) Tryz.underlying55 rfl rfl rfl (by kernel_rfl) (by kernel_rfl) (by kernel_rfl) (by kernel_rfl) Tryz.underlying5 Tryz.underlying52 Tryz.underlying53 Tryz.underlying5 (by kernel_rfl) (hval 1 55 v1 rfl rfl) h1
  refine (walk W ha0 hu0 hf1 hu1).mono fun e W' ⟨he, hg⟩ => ?_
  subst he
  have whole := hW'
  refine ⟨_, rfl, law_post (ds := [d0, d1]) (at0 := pl0 ++ (pl1 ++ [])) (by simpa only [List.append_nil] using hW') hg (fun _ _ _ => (trodAll_cons_mk (shut_bool Tryz.underlying4 _) trodAll_mk0)) (fun sp hsp => ?_) (fun _ => rfl)
    (ok_one (by kernel_rfl) rfl (okWide_bool_mk Tryz.underlying4 _))⟩
  refine Ab.trodAll_stays (by kernel_rfl) hg (fun t ht => ?_) (show DataW.TrodAll enc Tryz.prog W 0 (fun _ => true) true Tryz.f6.params.toList #[v0, v1].toList [d0, d1] (pl0 ++ (pl1 ++ [])) from hA0) (fun x hx => ?_) hsp
  · have : t ∈ [5, 55] := by have := Tryz.params6 ▸ ht; simpa using this
    rcases (by simpa using this : t = 5 ∨ t = 55) with rfl | rfl
    · exact ⟨by kernel_rfl, of_decide_eq_true (by kernel_rfl)⟩
    · exact ⟨by kernel_rfl, of_decide_eq_true (by kernel_rfl)⟩
  · exact DataW.Whole.lt whole x (by simpa using hx)

theorem over : Rows.branchCayleyRow.holds Tryz.pinned (OpenSpec.ofChange Rows.branchCayleySpec) :=
  OpenClaim.holds_of_wide 6 Tryz.f6 rfl rfl rfl rfl rfl rfl rfl ⟨rfl, rfl, rfl, rfl, rfl⟩ rfl rfl rfl rfl rfl (by kernel_rfl) Tryz.func6 (by kernel_rfl)
    (of_decide_eq_true (by kernel_rfl)) (by unfold Func.isWrapper; first | (rw [if_pos (by decide +kernel)]; kernel_rfl) | (rw [if_neg (by decide +kernel)]; exact ⟨rfl, rfl⟩))
    (fun os started H enc _ => lifted os started H enc)

/-- ████ THE STATEMENT ████ -/
theorem proved : Rows.BranchCayleySaid :=
  over
#print axioms proved
end Go.Proofs.YtoipleipokpnaaaGreat.branchCayley
