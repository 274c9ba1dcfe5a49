/-
  'Rows.QuarrelPartedSaid': for every row, every division and either value the law's answer is true. The row is read as two numbers, the division as eight bytes; the walk is by contracts of the functions; groups, rooms and brawls of a parted house are compared by plain laws.
-/
import Derived.Test.YthoogegclpiefaaRows
import Derived.WalkKit
import Derived.ProofKit
import Derived.OpenShut
import Derived.Test.YthoogegclpiefaaPost
import Derived.Test.YthoogegclpiefaaQ6
import Derived.Test.YthoogegclpiefaaQ8
import Derived.Test.YthoogegclpiefaaAbArg
set_option linter.all false
namespace Go.Proofs.Ythoogegclpiefaa.quarrelParted
open Go.ChangeShapes Go.WideShapes Go.ChangeAt Go.RowKit

theorem own : ownKnob Try.prog.godebug = none := by kernel_rfl

theorem walk {p0 bits0 : Nat} {u0 : Value} {f1 : Nat → Nat} {u1 : Value} {b2 : Bool} {u2 : Value} (w : World) (hp0 : p0 < 256) (hb0 : bits0 < 4294967296) (hu0 : Ab.VR (Ab.ctx0 w) (.agg [.int .u8 (p0 : Nat), .int .u32 (bits0 : Nat)]) u0) (hf1 : ∀ i, f1 i < 256) (hu1 : Ab.VR (Ab.ctx0 w) (.agg ((List.range 8).map fun i => .int .u8 ((f1 i : Nat) : Int))) u1) (hu2 : u2 = .bool b2) :
    Calls Try.prog 11 #[u0, u1, u2] w fun e w' => e = .returned (.bool true) ∧ Below w.heap.size w w' := by
  subst hu2
  obtain ⟨f, H', h⟩ := Code.parted_true (b2 := b2) hp0 hb0 hf1
  exact Ab.law_true (env := Code.E) (us := [u0, u1, .bool b2]) (Ab.funsOK rfl Code.tableOK) (Ab.knownT_ok rfl (fun p hp => by
    simp only [List.mem_singleton] at hp; subst hp; exact Works.kept)) Code.mixed (.cons hu0 (.cons hu1 (.cons (.bool _) .nil))) h

set_option maxRecDepth 100000 in
theorem lifted (os : Os) (started : os.Started) (H : Type) (enc : TypeId × Value → H) :
    ReturnsInHanded {} Try.checked os 11 .any (Rows.quarrelPartedSpec.pre6 enc Try.prog Try.f11 Rows.quarrelPartedRow.domain false) (Rows.quarrelPartedSpec.post enc Try.prog Try.f11 false true false false) := by
  refine returnsInHanded_of_change (C := Try.checked) own started (by kernel_rfl) Try.func11
    (ChangeSpec.witness6 (enc := enc) (C := Try.checked) false ⟨#[], #[.agg #[.int .u8 0, .int .u32 0], .agg #[.int .u8 0, .int .u8 0, .int .u8 0, .int .u8 0, .int .u8 0, .int .u8 0, .int .u8 0, .int .u8 0], .bool false], []⟩ 8 (by kernel_rfl) (by kernel_rfl) (by kernel_rfl) (by kernel_rfl)) ?_
  intro W base args ds gs before hval0 hW hcnd _
  have hval : ∀ (j : Nat) t v, Try.f11.params[j]? = some t → args[j]? = some v → Value.okWide Try.prog W .any base t v := hval0
  have hW' := hW
  obtain ⟨p, q, hA0, hV, rfl, hfz, hnd⟩ := hW
  have hA : DataW.TrodAll enc Try.prog W 0 (fun _ => true) true Try.f11.params.toList args.toList ds p := hA0
  rw [Try.params11] at hA hval
  obtain ⟨v0, vs0, d0, ds0, pl0, ql0, hargs, rfl, rfl, h0, r0⟩ := trodAll_cons hA
  obtain ⟨v1, vs1, d1, ds1, pl1, ql1, rfl, rfl, rfl, h1, r1⟩ := trodAll_cons r0
  obtain ⟨v2, vs2, d2, ds2, pl2, ql2, rfl, rfl, rfl, h2, r2⟩ := trodAll_cons r1
  obtain ⟨rfl, rfl, rfl⟩ := trodAll_nil r2
  obtain rfl : args = #[v0, v1, v2] := by cases args; simp_all
  obtain ⟨rfl, rfl⟩ := trodVars_none hV
  obtain ⟨p0, bits0, hp0, hb0, hu0⟩ := Ab.row_vr (t := 60) Try.underlying60 rfl rfl (by kernel_rfl) (by kernel_rfl) (by kernel_rfl) Try.underlying5 Try.underlying58 (hval 0 60 v0 rfl rfl) h0
  obtain ⟨f1, hf1, hu1⟩ := Ab.bytes_vr (t := 84) (e := 5) (m := 8) Try.underlying84 Try.underlying5 (by kernel_rfl) (by kernel_rfl) (hval 1 84 v1 rfl rfl) h1
  obtain ⟨b2, hu2, _, _⟩ := open_bool Try.underlying4 (hval 2 4 v2 rfl rfl) h2
  refine (walk W hp0 hb0 hu0 hf1 hu1 hu2).mono fun e W' ⟨he, hg⟩ => ?_
  subst he
  have whole := hW'
  refine ⟨_, rfl, law_post (ds := [d0, d1, d2]) (at0 := pl0 ++ (pl1 ++ (pl2 ++ []))) (by simpa only [List.append_nil] using hW') hg (fun _ _ _ => (trodAll_cons_mk (shut_bool Try.underlying4 _) trodAll_mk0)) (fun sp hsp => ?_) (fun _ => rfl)
    (ok_one (by kernel_rfl) rfl (okWide_bool_mk Try.underlying4 _))⟩
  refine Ab.trodAll_stays (by kernel_rfl) hg (fun t ht => ?_) (show DataW.TrodAll enc Try.prog W 0 (fun _ => true) true Try.f11.params.toList #[v0, v1, v2].toList [d0, d1, d2] (pl0 ++ (pl1 ++ (pl2 ++ []))) from hA0) (fun x hx => ?_) hsp
  · have : t ∈ [60, 84, 4] := by have := Try.params11 ▸ ht; simpa using this
    rcases (by simpa using this : t = 60 ∨ t = 84 ∨ t = 4) with rfl | rfl | rfl
    · exact ⟨by kernel_rfl, of_decide_eq_true (by kernel_rfl)⟩
    · exact ⟨by kernel_rfl, of_decide_eq_true (by kernel_rfl)⟩
    · exact ⟨by kernel_rfl, of_decide_eq_true (by kernel_rfl)⟩
  · exact DataW.Whole.lt whole x (by simpa using hx)

theorem over : Rows.quarrelPartedRow.holds Try.pinned (OpenSpec.ofChange Rows.quarrelPartedSpec) :=
  OpenClaim.holds_of_wide 11 Try.f11 rfl rfl rfl rfl rfl rfl rfl ⟨rfl, rfl, rfl, rfl, rfl⟩ rfl rfl rfl rfl rfl (by kernel_rfl) Try.func11 (by kernel_rfl)
    (of_decide_eq_true (by kernel_rfl)) (by unfold Func.isWrapper; first | (rw [if_pos (by decide +kernel)]; kernel_rfl) | (rw [if_neg (by decide +kernel)]; exact ⟨rfl, rfl⟩))
    (fun os started H enc _ => lifted os started H enc)

/-- ████ THE STATEMENT ████ -/
theorem proved : Rows.QuarrelPartedSaid :=
  over
#print axioms proved
end Go.Proofs.Ythoogegclpiefaa.quarrelParted
