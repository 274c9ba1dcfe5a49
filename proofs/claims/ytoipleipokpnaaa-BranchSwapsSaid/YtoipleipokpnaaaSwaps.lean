/-
  Ties are swapped, and shapes are compared, as the reference says. Conditions: none.
-/
import Derived.Test.YtoipleipokpnaaaRows
import Derived.WalkKit
import Derived.ProofKit
import Derived.OpenShut
import Derived.Test.YtoipleipokpnaaaKit
import Derived.Test.YtoipleipokpnaaaWq
set_option linter.all false
namespace Go.Proofs.Ytoipleipokpnaaa.branchSwaps
open Go.ChangeShapes Go.WideShapes Go.ChangeAt Go.RowKit

theorem own : ownKnob Try.prog.godebug = none := by kernel_rfl

theorem walk {n0 : Int} {q0 : Ab.AV} {l0 : List Ab.ZZ} {u0 : Value} {a1 : Int} {u1 : Value} {a2 b2 : Int} {u2 : Value} {n3 : Int} {q3 : Ab.AV} {l3 : List Ab.ZZ} {u3 : Value} (w : World) (hq0 : Ab.isP q0 l0) (hu0 : Ab.VR (Ab.ctx0 w) (.agg [.int .i64 n0, q0]) u0) (hu1 : u1 = .int .i64 a1) (hu2 : Ab.VR (Ab.ctx0 w) (.agg [.int .i64 a2, .int .i64 b2]) u2) (hq3 : Ab.isP q3 l3) (hu3 : Ab.VR (Ab.ctx0 w) (.agg [.int .i64 n3, q3]) u3) :
    Calls Try.prog 4 #[u0, u1, u2, u3] w fun e w' => e = .returned (.bool true) ∧ Below w.heap.size w w' := by
  subst hu1
  obtain ⟨f, H', h⟩ := Code.swaps_true (n := n0) (i := a1) (p1 := a2) (p2 := b2) (n' := n3) hq0 hq3
  exact Ab.law_true (env := Code.E) (us := [u0, .int .i64 a1, u2, u3]) (Ab.funsOK rfl Code.tableOK) Code.knowOK Code.mixed (Ab.glob0 fun _ => rfl) (.cons hu0 (.cons (.int _ _) (.cons hu2 (.cons hu3 .nil)))) h

set_option maxRecDepth 100000 in
theorem lifted (os : Os) (started : os.Started) (H : Type) (enc : TypeId × Value → H) :
    ReturnsInHanded {} Try.checked os 4 .any (Rows.branchSwapsSpec.pre6 enc Try.prog Try.f4 Rows.branchSwapsRow.domain false) (Rows.branchSwapsSpec.post enc Try.prog Try.f4 false true false false) := by
  refine returnsInHanded_of_change (C := Try.checked) own started (by kernel_rfl) Try.func4
    (ChangeSpec.witness6 (enc := enc) (C := Try.checked) false ⟨#[], #[.agg #[.int .i64 0, .slice none 0 0], .int .i64 0, .agg #[.int .i64 0, .int .i64 0], .agg #[.int .i64 0, .slice none 0 0]], []⟩ 8 (by kernel_rfl) (by kernel_rfl) (by kernel_rfl) (by kernel_rfl)) ?_
  intro W base args ds gs before hval0 hW hcnd _
  have hval : ∀ (j : Nat) t v, Try.f4.params[j]? = some t → args[j]? = some v → Value.okWide Try.prog W .any base t v := hval0
  have hW' := hW
  obtain ⟨p, q, hA0, hV, rfl, hfz, hnd⟩ := hW
  have hA : DataW.TrodAll enc Try.prog W 0 (fun _ => true) true Try.f4.params.toList args.toList ds p := hA0
  rw [Try.params4] at hA hval
  obtain ⟨v0, vs0, d0, ds0, pl0, ql0, hargs, rfl, rfl, h0, r0⟩ := trodAll_cons hA
  obtain ⟨v1, vs1, d1, ds1, pl1, ql1, rfl, rfl, rfl, h1, r1⟩ := trodAll_cons r0
  obtain ⟨v2, vs2, d2, ds2, pl2, ql2, rfl, rfl, rfl, h2, r2⟩ := trodAll_cons r1
  obtain ⟨v3, vs3, d3, ds3, pl3, ql3, rfl, rfl, rfl, h3, r3⟩ := trodAll_cons r2
  obtain ⟨rfl, rfl, rfl⟩ := trodAll_nil r3
  obtain rfl : args = #[v0, v1, v2, v3] := by cases args; simp_all
  obtain ⟨rfl, rfl⟩ := trodVars_none hV
  obtain ⟨n0, q0, l0, hu0, hq0⟩ := Ab.house_vr (t := 24) (ei := 3) (e := 42) Try.underlying24 rfl rfl (by kernel_rfl) (by kernel_rfl) (by kernel_rfl) Try.underlying3 Try.underlying22 Try.underlying42 Try.underlying3 (by kernel_rfl) (by kernel_rfl)
    (by kernel_rfl) (hval 0 24 v0 rfl rfl) h0
  obtain ⟨a1, hu1, _, _, w1⟩ := open_int Try.underlying3 (hval 1 3 v1 rfl rfl) h1
  obtain ⟨a2, b2, hu2⟩ := Code.pair_vr (t := 42) (e := 3) Try.underlying42 Try.underlying3 (by kernel_rfl) (by kernel_rfl) (hval 2 42 v2 rfl rfl) h2
  obtain ⟨n3, q3, l3, hu3, hq3⟩ := Ab.house_vr (t := 24) (ei := 3) (e := 42) Try.underlying24 rfl rfl (by kernel_rfl) (by kernel_rfl) (by kernel_rfl) Try.underlying3 Try.underlying22 Try.underlying42 Try.underlying3 (by kernel_rfl) (by kernel_rfl)
    (by kernel_rfl) (hval 3 24 v3 rfl rfl) h3
  refine (walk W hq0 hu0 hu1 hu2 hq3 hu3).mono fun e W' ⟨he, hg⟩ => ?_
  subst he
  have whole := hW'
  refine ⟨_, rfl, law_post (ds := [d0, d1, d2, d3]) (at0 := pl0 ++ (pl1 ++ (pl2 ++ (pl3 ++ [])))) (by simpa only [List.append_nil] using hW') hg (fun _ _ _ => (trodAll_cons_mk (shut_bool Try.underlying4 _) trodAll_mk0)) (fun sp hsp => ?_) (fun _ => rfl)
    (ok_one (by kernel_rfl) rfl (okWide_bool_mk Try.underlying4 _))⟩
  refine Ab.trodAll_stays (by kernel_rfl) hg (fun t ht => ?_) (show DataW.TrodAll enc Try.prog W 0 (fun _ => true) true Try.f4.params.toList #[v0, v1, v2, v3].toList [d0, d1, d2, d3] (pl0 ++ (pl1 ++ (pl2 ++ (pl3 ++ [])))) from hA0) (fun x hx => ?_) hsp
  · have : t ∈ [24, 3, 42, 24] := by have := Try.params4 ▸ ht; simpa using this
    rcases (by simpa using this : t = 24 ∨ t = 3 ∨ t = 42 ∨ t = 24) with rfl | rfl | rfl | rfl
    · exact ⟨by kernel_rfl, of_decide_eq_true (by kernel_rfl)⟩
    · exact ⟨by kernel_rfl, of_decide_eq_true (by kernel_rfl)⟩
    · exact ⟨by kernel_rfl, of_decide_eq_true (by kernel_rfl)⟩
    · exact ⟨by kernel_rfl, of_decide_eq_true (by kernel_rfl)⟩
  · exact DataW.Whole.lt whole x (by simpa using hx)

theorem over : Rows.branchSwapsRow.holds Try.pinned (OpenSpec.ofChange Rows.branchSwapsSpec) :=
  OpenClaim.holds_of_wide 4 Try.f4 rfl rfl rfl rfl rfl rfl rfl ⟨rfl, rfl, rfl, rfl, rfl⟩ rfl rfl rfl rfl rfl (by kernel_rfl) Try.func4 (by kernel_rfl)
    (of_decide_eq_true (by kernel_rfl)) (by unfold Func.isWrapper; first | (rw [if_pos (by decide +kernel)]; kernel_rfl) | (rw [if_neg (by decide +kernel)]; exact ⟨rfl, rfl⟩))
    (fun os started H enc _ => lifted os started H enc)

/-- ████ THE STATEMENT ████ -/
theorem proved : Rows.BranchSwapsSaid :=
  over
#print axioms proved
end Go.Proofs.Ytoipleipokpnaaa.branchSwaps
