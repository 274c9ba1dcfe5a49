/-
  'Rows.PatternSimpleCardSaid': points in any order are a piece just if no two sides have more in common than they may; for every input.
-/
import Derived.Test.YtihdlpeghlhnoaaDoorRows
import Derived.WalkKit
import Derived.ProofKit
import Derived.LaidMore
import Derived.OpenShut
import Derived.Stop.Joined
import Derived.SevenTiedAt
import Derived.Test.YtihdlpeghlhnoaaDoorCards
import Derived.Test.YtihdlpeghlhnoaaDoorTie
import Derived.Test.YtihdlpeghlhnoaaDoorLaid
import Derived.Test.YtihdlpeghlhnoaaDoorLaid
import Derived.Test.YtihdlpeghlhnoaaDoorSm
set_option linter.all false
namespace Go.Proofs.YtihdlpeghlhnoaaDoor.patternSimple
open Go.ChangeShapes Go.WideShapes Go.ChangeAt Go.RowKit

/-- a byte is a number below 256 -/
theorem u8_wf {z : Int} (h : (Lit.int .u8 z).wf = true) : ∃ a : Nat, z = a ∧ a < 256 := by
  simp only [Lit.wf, Bool.and_eq_true, decide_eq_true_eq] at h
  have m0 : IntKind.u8.min = 0 := by decide
  have m1 : IntKind.u8.max = 255 := by decide
  exact ⟨z.toNat, by omega, by omega⟩

theorem own : ownKnob Tryd.prog.godebug = none := by kernel_rfl

theorem walk {s0 : Nat} {f0 : Nat → Nat} {u0 : Value} {a1 : Nat} {u1 : Value} (w : World) (hG : Ab.GlobOK (Ab.ctx0 w)) (hs0 : s0 < 256) (hf0 : ∀ i, f0 i < 256) (hu0 : Ab.VR (Ab.ctx0 w) (Code.hidA s0 f0) u0) (ha1 : a1 < 256) (hu1 : u1 = .int .u8 (a1 : Nat)) :
    Calls Tryd.prog 3 #[u0, u1] w fun e w' => e = .returned (.bool true) ∧ Below w.heap.size w w' := by
  subst hu1
  obtain ⟨f, H', h⟩ := Code.simple_true  hs0 hf0 ha1
  exact Ab.law_true (env := Code.E) (us := [u0, .int .u8 (a1 : Nat)]) (Ab.funsOK rfl Code.tableOK) Code.knowOK Code.mixed hG (.cons hu0 (.cons (.int _ _) .nil)) h

set_option maxRecDepth 100000 in
theorem lifted (os : Os) (started : os.Started) (H : Type) (enc : TypeId × Value → H) :
    ReturnsInHanded {} Tryd.checked os 3 .any (fun w args => (Rows.patternSimpleSpec.pre enc Tryd.prog Tryd.f3 [] false w args ∧ laidMetH Tryd.prog laid2 w) ∧ sizedMet enc Tryd.prog Tryd.f3 (OpenSpec.ofChange Rows.patternSimpleSpec) false w args) (Rows.patternSimpleSpec.post enc Tryd.prog Tryd.f3 false true false false) := by
  refine returnsInHanded_of_change_and (C := Tryd.checked) (X := fun w _ => laidMetH Tryd.prog laid2 w) (fun _ _ _ hh h => h.of_heap hh) own started (by kernel_rfl) Tryd.func3
    (ChangeSpec.witness_shaped (enc := enc) (C := Tryd.checked) (os := os) (X := fun w _ => laidMetH Tryd.prog laid2 w) false (World.doorLaid Tryd.prog 400 os) #[.agg #[.int .u8 0, .int .u8 0, .int .u8 0, .int .u8 0, .int .u8 0, .int .u8 0, .int .u8 0, .int .u8 0, .int .u8 0, .int .u8 0, .int .u8 0, .int .u8 0, .int .u8 0, .int .u8 0, .int .u8 0, .int .u8 0, .int .u8 0], .int .u8 0] 8 rfl (World.shaped_of_RefB (by kernel_rfl) (by kernel_rfl)) (by kernel_rfl) (by kernel_rfl) (by kernel_rfl) (door_met os _)) ?_
  intro W base args ds gs before hval0 hW _ _ hL _
  have hval : ∀ (j : Nat) t v, Tryd.f3.params[j]? = some t → args[j]? = some v → Value.okWide Tryd.prog W .any base t v := hval0
  have hW' := hW
  obtain ⟨p, q, hA0, hV, rfl, hfz, hnd⟩ := hW
  have hA : DataW.TrodAll enc Tryd.prog W 0 (fun _ => true) true Tryd.f3.params.toList args.toList ds p := hA0
  rw [Tryd.params3] at hA hval
  obtain ⟨v0, vs0, d0, ds0, pl0, ql0, hargs, rfl, rfl, h0, r0⟩ := trodAll_cons hA
  obtain ⟨v1, vs1, d1, ds1, pl1, ql1, rfl, rfl, rfl, h1, r1⟩ := trodAll_cons r0
  obtain ⟨rfl, rfl, rfl⟩ := trodAll_nil r1
  obtain rfl : args = #[v0, v1] := by cases args; simp_all
  obtain ⟨rfl, rfl⟩ := trodVars_none hV
  obtain ⟨s0, f0, hs0, hf0, hu0⟩ := Code.hide_vr (t := 25) (a := 22) (e := 5) Tryd.underlying25 rfl rfl (by kernel_rfl) (by kernel_rfl) (by kernel_rfl) Tryd.underlying5 Tryd.underlying23 Tryd.underlying22 Tryd.underlying5 (by kernel_rfl) (by kernel_rfl) (hval 0 25 v0 rfl rfl) h0
  obtain ⟨z1, hu1, _, _, w1⟩ := open_int Tryd.underlying5 (hval 1 5 v1 rfl rfl) h1
  obtain ⟨a1, hz1, ha1⟩ := u8_wf w1
  rw [hz1] at hu1
  refine (walk W (glob_of hL) hs0 hf0 hu0 ha1 hu1).mono fun e W' ⟨he, hg⟩ => ?_
  subst he
  have whole := hW'
  refine ⟨_, rfl, law_post (ds := [d0, d1]) (at0 := pl0 ++ (pl1 ++ [])) (by simpa only [List.append_nil] using hW') hg (fun _ _ _ => (trodAll_cons_mk (shut_bool Tryd.underlying4 _) trodAll_mk0)) (fun sp hsp => ?_) (fun _ => rfl)
    (ok_one (by kernel_rfl) rfl (okWide_bool_mk Tryd.underlying4 _))⟩
  refine Ab.trodAll_stays (by kernel_rfl) hg (fun t ht => ?_) (show DataW.TrodAll enc Tryd.prog W 0 (fun _ => true) true Tryd.f3.params.toList #[v0, v1].toList [d0, d1] (pl0 ++ (pl1 ++ [])) from hA0) (fun x hx => ?_) hsp
  · have : t ∈ [25, 5] := by have := Tryd.params3 ▸ ht; simpa using this
    rcases (by simpa using this : t = 25 ∨ t = 5) with rfl | rfl
    · exact ⟨by kernel_rfl, of_decide_eq_true (by kernel_rfl)⟩
    · exact ⟨by kernel_rfl, of_decide_eq_true (by kernel_rfl)⟩
  · exact DataW.Whole.lt whole x (by simpa using hx)

theorem over : Rows.PatternSimpleSaid :=
  OpenClaim.holds_of_wide 3 Tryd.f3 rfl rfl rfl rfl rfl rfl rfl ⟨rfl, rfl, rfl, rfl, rfl⟩ rfl rfl rfl rfl rfl (by kernel_rfl) Tryd.func3 (by kernel_rfl)
    (of_decide_eq_true (by kernel_rfl)) (by unfold Func.isWrapper; first | (rw [if_pos (by decide +kernel)]; kernel_rfl) | (rw [if_neg (by decide +kernel)]; exact ⟨rfl, rfl⟩))
    (fun os started H enc _ => lifted os started H enc)

/-- ████ THE STATEMENT ████ -/
theorem proved : Rows.PatternSimpleCardSaid :=
  Claim7.holds_tied_plain_at .later [] [.data] true (true, "327676b89681660f39f8ca6492b10ddd766389f01776174d8a506a1a0e31e9eb") true
    over (fun _ h => by cases h) (by kernel_rfl) (fun _ h => by cases h) patternSimple_row_tie rfl ⟨rfl, rfl⟩ (by kernel_rfl) rfl
    (fun f fn hf hfn => by
      obtain rfl : f = 3 := Option.some.inj ((show Tryd.prog.funcNamed Rows.patternSimpleRow.func = some 3 by kernel_rfl).symm.trans hf) |>.symm
      obtain rfl : fn = Tryd.f3 := (Option.some.inj (Tryd.func3.symm.trans hfn)).symm
      exact ⟨by kernel_rfl, fun j t ht => by
        rw [Tryd.params3] at ht
        have hm : t ∈ [25, 5] := by simpa using Array.mem_of_getElem? ht
        have hall : ([25, 5].all fun u => !Tryd.prog.wantsStandIn u) = true := by kernel_rfl
        exact (show Tryd.prog.wantsStandIn t = false by simpa using List.all_eq_true.1 hall t hm)⟩)
    (by kernel_rfl)
#print axioms proved
end Go.Proofs.YtihdlpeghlhnoaaDoor.patternSimple
