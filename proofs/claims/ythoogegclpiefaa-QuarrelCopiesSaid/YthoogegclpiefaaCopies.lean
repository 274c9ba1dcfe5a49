/-
  'Rows.QuarrelCopiesSaid': for every house, two numbers and every list of copies the law's answer is true. The house is read as a number and a list of pairs, the copies as a list of pairs; the walk is by contracts of the functions; program and reference agree by plain laws.
-/
import Derived.Test.YthoogegclpiefaaRows
import Derived.WalkKit
import Derived.ProofKit
import Derived.OpenShut
import Derived.Test.YthoogegclpiefaaPost
import Derived.Test.YthoogegclpiefaaQ4
import Derived.Test.YthoogegclpiefaaAbArg
set_option linter.all false
namespace Go.Proofs.Ythoogegclpiefaa.quarrelCopies
open Go.ChangeShapes Go.WideShapes Go.ChangeAt Go.RowKit

theorem own : ownKnob Try.prog.godebug = none := by kernel_rfl

theorem walk {n a b : Int} {q cv : Ab.AV} {l cs : List Ab.ZZ} {u v1 v2 v3 : Value} (w : World) (hq : Ab.isP q l) (hc : Ab.isP cv cs) (hu : Ab.VR (Ab.ctx0 w) (.agg [.int .i64 n, q]) u) (h1 : v1 = .int .i64 a) (h2 : v2 = .int .i64 b) (h3 : Ab.VR (Ab.ctx0 w) cv v3) :
    Calls Try.prog 4 #[u, v1, v2, v3] w fun e w' => e = .returned (.bool true) ∧ Below w.heap.size w w' := by
  subst h1 h2
  obtain ⟨f, H', h⟩ := Code.copies_true (n := n) (a := a) (b := b) hq hc
  exact Ab.law_true (env := Code.E) (us := [u, .int .i64 a, .int .i64 b, v3]) (Ab.funsOK rfl Code.tableOK) (Ab.knownT_ok rfl (fun p hp => by
    simp only [List.mem_singleton] at hp; subst hp; exact Works.kept)) Code.mixed (.cons hu (.cons (.int _ _) (.cons (.int _ _) (.cons h3 .nil)))) h

set_option maxRecDepth 100000 in
theorem lifted (os : Os) (started : os.Started) (H : Type) (enc : TypeId × Value → H) :
    ReturnsInHanded {} Try.checked os 4 .any (Rows.quarrelCopiesSpec.pre6 enc Try.prog Try.f4 Rows.quarrelCopiesRow.domain false) (Rows.quarrelCopiesSpec.post enc Try.prog Try.f4 false true false false) := by
  refine returnsInHanded_of_change (C := Try.checked) own started (by kernel_rfl) Try.func4
    (ChangeSpec.witness6 (enc := enc) (C := Try.checked) false ⟨#[], #[.agg #[.int .i64 0, .slice none 0 0], .int .i64 0, .int .i64 0, .slice none 0 0], []⟩ 8 (by kernel_rfl) (by kernel_rfl) (by kernel_rfl) (by kernel_rfl)) ?_
  intro W base args ds gs before hval0 hW hcnd _
  have hval : ∀ (j : Nat) t v, Try.f4.params[j]? = some t → args[j]? = some v → Value.okWide Try.prog W .any base t v := hval0
  have hW' := hW
  obtain ⟨p, q, hA0, hV, rfl, hfz, hnd⟩ := hW
  have hA : DataW.TrodAll enc Try.prog W 0 (fun _ => true) true Try.f4.params.toList args.toList ds p := hA0
  rw [Try.params4] at hA hval
  obtain ⟨v0, vs0, d0, ds0, p0, q0, hargs, rfl, rfl, h0, r0⟩ := trodAll_cons hA
  obtain ⟨v1, vs1, d1, ds1, p1, q1, rfl, rfl, rfl, h1, r1⟩ := trodAll_cons r0
  obtain ⟨v2, vs2, d2, ds2, p2, q2, rfl, rfl, rfl, h2, r2⟩ := trodAll_cons r1
  obtain ⟨v3, vs3, d3, ds3, p3, q3, rfl, rfl, rfl, h3, r3⟩ := trodAll_cons r2
  obtain ⟨rfl, rfl, rfl⟩ := trodAll_nil r3
  obtain rfl : args = #[v0, v1, v2, v3] := by cases args; simp_all
  obtain ⟨rfl, rfl⟩ := trodVars_none hV
  obtain ⟨n, q, l, hu, hq⟩ := Ab.house_vr (t := 24) (ei := 3) (e := 69) Try.underlying24 rfl rfl (by kernel_rfl) (by kernel_rfl) (by kernel_rfl) Try.underlying3 Try.underlying22 Try.underlying69 Try.underlying3 (by kernel_rfl) (by kernel_rfl)
    (by kernel_rfl) (hval 0 24 v0 rfl rfl) h0
  obtain ⟨a1, hv1, _, _, w1⟩ := open_int Try.underlying3 (hval 1 3 v1 rfl rfl) h1
  obtain ⟨a2, hv2, _, _, w2⟩ := open_int Try.underlying3 (hval 2 3 v2 rfl rfl) h2
  obtain ⟨cv, cs, hu3, hc⟩ := Ab.pairs_vr (t := 22) (e := 69) (ei := 3) Try.underlying22 Try.underlying69 Try.underlying3 (by kernel_rfl) (by kernel_rfl) (hval 3 22 v3 rfl rfl) h3
  refine (walk W hq hc hu hv1 hv2 hu3).mono fun e W' ⟨he, hg⟩ => ?_
  subst he
  have whole := hW'
  refine ⟨_, rfl, law_post (ds := [d0, d1, d2, d3]) (at0 := p0 ++ (p1 ++ (p2 ++ (p3 ++ [])))) (by simpa only [List.append_nil] using hW') hg (fun _ _ _ => (trodAll_cons_mk (shut_bool Try.underlying4 _) trodAll_mk0)) (fun sp hsp => ?_) (fun _ => rfl)
    (ok_one (by kernel_rfl) rfl (okWide_bool_mk Try.underlying4 _))⟩
  refine Ab.trodAll_stays (by kernel_rfl) hg (fun t ht => ?_) (show DataW.TrodAll enc Try.prog W 0 (fun _ => true) true Try.f4.params.toList #[v0, v1, v2, v3].toList [d0, d1, d2, d3] (p0 ++ (p1 ++ (p2 ++ (p3 ++ [])))) from hA0) (fun x hx => ?_) hsp
  · have : t ∈ [24, 3, 3, 22] := by have := Try.params4 ▸ ht; simpa using this
    rcases (by simpa using this : t = 24 ∨ t = 3 ∨ t = 22) with rfl | rfl | rfl
    · exact ⟨by kernel_rfl, of_decide_eq_true (by kernel_rfl)⟩
    · exact ⟨by kernel_rfl, of_decide_eq_true (by kernel_rfl)⟩
    · exact ⟨by kernel_rfl, of_decide_eq_true (by kernel_rfl)⟩
  · exact DataW.Whole.lt whole x (by simpa using hx)

theorem over : Rows.quarrelCopiesRow.holds Try.pinned (OpenSpec.ofChange Rows.quarrelCopiesSpec) :=
  OpenClaim.holds_of_wide 4 Try.f4 rfl rfl rfl rfl rfl rfl rfl ⟨rfl, rfl, rfl, rfl, rfl⟩ rfl rfl rfl rfl rfl (by kernel_rfl) Try.func4 (by kernel_rfl)
    (of_decide_eq_true (by kernel_rfl)) (by unfold Func.isWrapper; first | (rw [if_pos (by decide +kernel)]; kernel_rfl) | (rw [if_neg (by decide +kernel)]; exact ⟨rfl, rfl⟩))
    (fun os started H enc _ => lifted os started H enc)

/-- ████ THE STATEMENT ████ -/
theorem proved : Rows.QuarrelCopiesSaid :=
  over
#print axioms proved
end Go.Proofs.Ythoogegclpiefaa.quarrelCopies
