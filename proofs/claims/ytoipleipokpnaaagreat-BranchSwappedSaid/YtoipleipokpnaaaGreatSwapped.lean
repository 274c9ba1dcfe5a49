/-
  Another tie in place of one makes a tree just where the tie lies on the way between the two; swapping back gives the same tidy tree.
-/
import Derived.Test.YtoipleipokpnaaaGreatRows
import Derived.WalkKit
import Derived.ProofKit
import Derived.OpenShut
import Derived.Test.YtoipleipokpnaaaGreatKit
import Derived.Test.YtoipleipokpnaaaGreatWs
set_option linter.all false
namespace Go.Proofs.YtoipleipokpnaaaGreat.branchSwapped
open Go.ChangeShapes Go.WideShapes Go.ChangeAt Go.RowKit

theorem u8_wf {z : Int} (h : (Lit.int .u8 z).wf = true) : ∃ a : Nat, z = a ∧ a < 256 := by
  simp only [Lit.wf, Bool.and_eq_true, decide_eq_true_eq] at h
  have m0 : IntKind.u8.min = 0 := by decide
  have m1 : IntKind.u8.max = 255 := by decide
  exact ⟨z.toNat, by omega, by omega⟩

theorem own : ownKnob Tryz.prog.godebug = none := by kernel_rfl

theorem walk {f0 : Nat → Nat} {u0 : Value} {a1 : Nat} {u1 : Value} {a2 : Nat} {u2 : Value} {a3 : Nat} {u3 : Value} (w : World) (hf0 : ∀ i, f0 i < 256) (hu0 : Ab.VR (Ab.ctx0 w) (.agg (Code.tw f0)) u0) (ha1 : a1 < 256) (hu1 : u1 = .int .u8 (a1 : Nat)) (ha2 : a2 < 256) (hu2 : u2 = .int .u8 (a2 : Nat)) (ha3 : a3 < 256) (hu3 : u3 = .int .u8 (a3 : Nat)) :
    Calls Tryz.prog 5 #[u0, u1, u2, u3] w fun e w' => e = .returned (.bool true) ∧ Below w.heap.size w w' := by
  subst hu1 hu2 hu3
  obtain ⟨f, H', h⟩ := Code.swapped_true  hf0 ha1 ha2 ha3
  exact Ab.law_true (env := Code.E) (us := [u0, .int .u8 (a1 : Nat), .int .u8 (a2 : Nat), .int .u8 (a3 : Nat)]) (Ab.funsOK rfl Code.tableOK) Code.knowOK Code.mixed (Ab.glob0 fun _ => rfl) (.cons hu0 (.cons (.int _ _) (.cons (.int _ _) (.cons (.int _ _) .nil)))) h

set_option maxRecDepth 100000 in
theorem lifted (os : Os) (started : os.Started) (H : Type) (enc : TypeId × Value → H) :
    ReturnsInHanded {} Tryz.checked os 5 .any (Rows.branchSwappedSpec.pre6 enc Tryz.prog Tryz.f5 Rows.branchSwappedRow.domain false) (Rows.branchSwappedSpec.post enc Tryz.prog Tryz.f5 false true false false) := by
  refine returnsInHanded_of_change (C := Tryz.checked) own started (by kernel_rfl) Tryz.func5
    (ChangeSpec.witness6 (enc := enc) (C := Tryz.checked) false ⟨#[], #[.agg #[.int .u8 0, .int .u8 0, .int .u8 0, .int .u8 0, .int .u8 0, .int .u8 0, .int .u8 0, .int .u8 0, .int .u8 0, .int .u8 0, .int .u8 0, .int .u8 0, .int .u8 0, .int .u8 0, .int .u8 0, .int .u8 0, .int .u8 0, .int .u8 0], .int .u8 0, .int .u8 0, .int .u8 0], []⟩ 8 (by kernel_rfl) (by kernel_rfl) (by kernel_rfl) (by kernel_rfl)) ?_
  intro W base args ds gs before hval0 hW hcnd _
  have hval : ∀ (j : Nat) t v, Tryz.f5.params[j]? = some t → args[j]? = some v → Value.okWide Tryz.prog W .any base t v := hval0
  have hW' := hW
  obtain ⟨p, q, hA0, hV, rfl, hfz, hnd⟩ := hW
  have hA : DataW.TrodAll enc Tryz.prog W 0 (fun _ => true) true Tryz.f5.params.toList args.toList ds p := hA0
  rw [Tryz.params5] at hA hval
  obtain ⟨v0, vs0, d0, ds0, pl0, ql0, hargs, rfl, rfl, h0, r0⟩ := trodAll_cons hA
  obtain ⟨v1, vs1, d1, ds1, pl1, ql1, rfl, rfl, rfl, h1, r1⟩ := trodAll_cons r0
  obtain ⟨v2, vs2, d2, ds2, pl2, ql2, rfl, rfl, rfl, h2, r2⟩ := trodAll_cons r1
  obtain ⟨v3, vs3, d3, ds3, pl3, ql3, rfl, rfl, rfl, h3, r3⟩ := trodAll_cons r2
  obtain ⟨rfl, rfl, rfl⟩ := trodAll_nil r3
  obtain rfl : args = #[v0, v1, v2, v3] := by cases args; simp_all
  obtain ⟨rfl, rfl⟩ := trodVars_none hV
  obtain ⟨f0, hf0, hu0⟩ := Code.twig_vr (t := 55) (e := 5) Tryz.underlying55 rfl rfl rfl (by kernel_rfl) (by kernel_rfl) (by kernel_rfl) (by kernel_rfl) Tryz.underlying5 Tryz.underlying52 Tryz.underlying53 Tryz.underlying5 (by kernel_rfl) (hval 0 55 v0 rfl rfl) h0
  obtain ⟨z1, hu1, _, _, w1⟩ := open_int Tryz.underlying5 (hval 1 5 v1 rfl rfl) h1
  obtain ⟨a1, hz1, ha1⟩ := u8_wf w1
  rw [hz1] at hu1
  obtain ⟨z2, hu2, _, _, w2⟩ := open_int Tryz.underlying5 (hval 2 5 v2 rfl rfl) h2
  obtain ⟨a2, hz2, ha2⟩ := u8_wf w2
  rw [hz2] at hu2
  obtain ⟨z3, hu3, _, _, w3⟩ := open_int Tryz.underlying5 (hval 3 5 v3 rfl rfl) h3
  obtain ⟨a3, hz3, ha3⟩ := u8_wf w3
  rw [hz3] at hu3
  refine (walk W hf0 hu0 ha1 hu1 ha2 hu2 ha3 hu3).mono fun e W' ⟨he, hg⟩ => ?_
  subst he
  have whole := hW'
  refine ⟨_, rfl, law_post (ds := [d0, d1, d2, d3]) (at0 := pl0 ++ (pl1 ++ (pl2 ++ (pl3 ++ [])))) (by simpa only [List.append_nil] using hW') hg (fun _ _ _ => (trodAll_cons_mk (shut_bool Tryz.underlying4 _) trodAll_mk0)) (fun sp hsp => ?_) (fun _ => rfl)
    (ok_one (by kernel_rfl) rfl (okWide_bool_mk Tryz.underlying4 _))⟩
  refine Ab.trodAll_stays (by kernel_rfl) hg (fun t ht => ?_) (show DataW.TrodAll enc Tryz.prog W 0 (fun _ => true) true Tryz.f5.params.toList #[v0, v1, v2, v3].toList [d0, d1, d2, d3] (pl0 ++ (pl1 ++ (pl2 ++ (pl3 ++ [])))) from hA0) (fun x hx => ?_) hsp
  · have : t ∈ [55, 5, 5, 5] := by have := Tryz.params5 ▸ ht; simpa using this
    rcases (by simpa using this : t = 55 ∨ t = 5) with rfl | rfl
    · exact ⟨by kernel_rfl, of_decide_eq_true (by kernel_rfl)⟩
    · exact ⟨by kernel_rfl, of_decide_eq_true (by kernel_rfl)⟩
  · exact DataW.Whole.lt whole x (by simpa using hx)

theorem over : Rows.branchSwappedRow.holds Tryz.pinned (OpenSpec.ofChange Rows.branchSwappedSpec) :=
  OpenClaim.holds_of_wide 5 Tryz.f5 rfl rfl rfl rfl rfl rfl rfl ⟨rfl, rfl, rfl, rfl, rfl⟩ rfl rfl rfl rfl rfl (by kernel_rfl) Tryz.func5 (by kernel_rfl)
    (of_decide_eq_true (by kernel_rfl)) (by unfold Func.isWrapper; first | (rw [if_pos (by decide +kernel)]; kernel_rfl) | (rw [if_neg (by decide +kernel)]; exact ⟨rfl, rfl⟩))
    (fun os started H enc _ => lifted os started H enc)

/-- ████ THE STATEMENT ████ -/
theorem proved : Rows.BranchSwappedSaid :=
  over
#print axioms proved
end Go.Proofs.YtoipleipokpnaaaGreat.branchSwapped
