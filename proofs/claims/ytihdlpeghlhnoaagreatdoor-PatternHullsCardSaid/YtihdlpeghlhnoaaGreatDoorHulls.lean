/-
  'Rows.PatternHullsCardSaid': pieces are sheared, and hulls are returned, as stated; for every input.
-/
import Derived.Test.YtihdlpeghlhnoaaGreatDoorRows
import Derived.WalkKit
import Derived.ProofKit
import Derived.LaidMore
import Derived.OpenShut
import Derived.Stop.Joined
import Derived.SevenTiedAt
import Derived.Test.YtihdlpeghlhnoaaGreatDoorCards
import Derived.Test.YtihdlpeghlhnoaaGreatDoorTie
import Derived.Test.YtihdlpeghlhnoaaGreatDoorLaid
import Derived.Test.YtihdlpeghlhnoaaGreatDoorLaid
import Derived.Test.YtihdlpeghlhnoaaGreatDoorHlb
set_option linter.all false
namespace Go.Proofs.YtihdlpeghlhnoaaGreatDoor.patternHulls
open Go.ChangeShapes Go.WideShapes Go.ChangeAt Go.RowKit

theorem own : ownKnob Tryz.prog.godebug = none := by kernel_rfl

theorem walk {q0 : Ab.AV} {l0 : List Ab.ZZ} {u0 : Value} {a1 : Int} {u1 : Value} {b2 : Bool} {u2 : Value} {q3 : Ab.AV} {l3 : List Ab.ZZ} {u3 : Value} (w : World) (hG : Ab.GlobOK (Ab.ctx0 w)) (hq0 : Ab.isP q0 l0) (hu0 : Ab.VR (Ab.ctx0 w) q0 u0) (hu1 : u1 = .int .i64 a1) (hu2 : u2 = .bool b2) (hq3 : Ab.isP q3 l3) (hu3 : Ab.VR (Ab.ctx0 w) q3 u3) :
    Calls Tryz.prog 6 #[u0, u1, u2, u3] w fun e w' => e = .returned (.bool true) ∧ Below w.heap.size w w' := by
  subst hu1 hu2
  obtain ⟨f, H', h⟩ := Code.hulls_true (a1 := a1) (b2 := b2) hq0 hq3
  exact Ab.law_true (env := Code.E) (us := [u0, .int .i64 a1, .bool b2, u3]) (Ab.funsOK rfl Code.tableOK) Code.knowOK Code.mixed hG (.cons hu0 (.cons (.int _ _) (.cons (.bool _) (.cons hu3 .nil)))) h

set_option maxRecDepth 100000 in
theorem lifted (os : Os) (started : os.Started) (H : Type) (enc : TypeId × Value → H) :
    ReturnsInHanded {} Tryz.checked os 6 .any (fun w args => (Rows.patternHullsSpec.pre enc Tryz.prog Tryz.f6 [] false w args ∧ laidMetH Tryz.prog laid2 w) ∧ sizedMet enc Tryz.prog Tryz.f6 (OpenSpec.ofChange Rows.patternHullsSpec) false w args) (Rows.patternHullsSpec.post enc Tryz.prog Tryz.f6 false true false false) := by
  refine returnsInHanded_of_change_and (C := Tryz.checked) (X := fun w _ => laidMetH Tryz.prog laid2 w) (fun _ _ _ hh h => h.of_heap hh) own started (by kernel_rfl) Tryz.func6
    (ChangeSpec.witness_shaped (enc := enc) (C := Tryz.checked) (os := os) (X := fun w _ => laidMetH Tryz.prog laid2 w) false (World.doorLaid Tryz.prog 400 os) #[.slice none 0 0, .int .i64 0, .bool false, .slice none 0 0] 8 rfl (World.shaped_of_RefB (by kernel_rfl) (by kernel_rfl)) (by kernel_rfl) (by kernel_rfl) (by kernel_rfl) (door_met os _)) ?_
  intro W base args ds gs before hval0 hW _ _ hL _
  have hval : ∀ (j : Nat) t v, Tryz.f6.params[j]? = some t → args[j]? = some v → Value.okWide Tryz.prog W .any base t v := hval0
  have hW' := hW
  obtain ⟨p, q, hA0, hV, rfl, hfz, hnd⟩ := hW
  have hA : DataW.TrodAll enc Tryz.prog W 0 (fun _ => true) true Tryz.f6.params.toList args.toList ds p := hA0
  rw [Tryz.params6] at hA hval
  obtain ⟨v0, vs0, d0, ds0, pl0, ql0, hargs, rfl, rfl, h0, r0⟩ := trodAll_cons hA
  obtain ⟨v1, vs1, d1, ds1, pl1, ql1, rfl, rfl, rfl, h1, r1⟩ := trodAll_cons r0
  obtain ⟨v2, vs2, d2, ds2, pl2, ql2, rfl, rfl, rfl, h2, r2⟩ := trodAll_cons r1
  obtain ⟨v3, vs3, d3, ds3, pl3, ql3, rfl, rfl, rfl, h3, r3⟩ := trodAll_cons r2
  obtain ⟨rfl, rfl, rfl⟩ := trodAll_nil r3
  obtain rfl : args = #[v0, v1, v2, v3] := by cases args; simp_all
  obtain ⟨rfl, rfl⟩ := trodVars_none hV
  obtain ⟨q0, l0, hu0, hq0⟩ := Code.pts_vr (t := 22) (e := 24) Tryz.underlying22 Tryz.underlying24 rfl rfl (by kernel_rfl) (by kernel_rfl) Tryz.underlying3 Tryz.underlying3 (by kernel_rfl) (hval 0 22 v0 rfl rfl) h0
  obtain ⟨a1, hu1, _, _, w1⟩ := open_int Tryz.underlying3 (hval 1 3 v1 rfl rfl) h1
  obtain ⟨b2, hu2, _, _⟩ := open_bool Tryz.underlying4 (hval 2 4 v2 rfl rfl) h2
  obtain ⟨q3, l3, hu3, hq3⟩ := Code.pts_vr (t := 22) (e := 24) Tryz.underlying22 Tryz.underlying24 rfl rfl (by kernel_rfl) (by kernel_rfl) Tryz.underlying3 Tryz.underlying3 (by kernel_rfl) (hval 3 22 v3 rfl rfl) h3
  refine (walk W (glob_of hL) hq0 hu0 hu1 hu2 hq3 hu3).mono fun e W' ⟨he, hg⟩ => ?_
  subst he
  have whole := hW'
  refine ⟨_, rfl, law_post (ds := [d0, d1, d2, d3]) (at0 := pl0 ++ (pl1 ++ (pl2 ++ (pl3 ++ [])))) (by simpa only [List.append_nil] using hW') hg (fun _ _ _ => (trodAll_cons_mk (shut_bool Tryz.underlying4 _) trodAll_mk0)) (fun sp hsp => ?_) (fun _ => rfl)
    (ok_one (by kernel_rfl) rfl (okWide_bool_mk Tryz.underlying4 _))⟩
  refine Ab.trodAll_stays (by kernel_rfl) hg (fun t ht => ?_) (show DataW.TrodAll enc Tryz.prog W 0 (fun _ => true) true Tryz.f6.params.toList #[v0, v1, v2, v3].toList [d0, d1, d2, d3] (pl0 ++ (pl1 ++ (pl2 ++ (pl3 ++ [])))) from hA0) (fun x hx => ?_) hsp
  · have : t ∈ [22, 3, 4, 22] := by have := Tryz.params6 ▸ ht; simpa using this
    rcases (show t = 22 ∨ t = 3 ∨ t = 4 from by rcases (by simpa using this : t = 22 ∨ t = 3 ∨ t = 4 ∨ t = 22) with h | h | h | h <;> simp [h]) with rfl | rfl | rfl
    · exact ⟨by kernel_rfl, of_decide_eq_true (by kernel_rfl)⟩
    · exact ⟨by kernel_rfl, of_decide_eq_true (by kernel_rfl)⟩
    · exact ⟨by kernel_rfl, of_decide_eq_true (by kernel_rfl)⟩
  · exact DataW.Whole.lt whole x (by simpa using hx)

theorem over : Rows.PatternHullsSaid :=
  OpenClaim.holds_of_wide 6 Tryz.f6 rfl rfl rfl rfl rfl rfl rfl ⟨rfl, rfl, rfl, rfl, rfl⟩ rfl rfl rfl rfl rfl (by kernel_rfl) Tryz.func6 (by kernel_rfl)
    (of_decide_eq_true (by kernel_rfl)) (by unfold Func.isWrapper; first | (rw [if_pos (by decide +kernel)]; kernel_rfl) | (rw [if_neg (by decide +kernel)]; exact ⟨rfl, rfl⟩))
    (fun os started H enc _ => lifted os started H enc)

/-- ████ THE STATEMENT ████ -/
theorem proved : Rows.PatternHullsCardSaid :=
  Claim7.holds_tied_plain_at .later [] [.data] true (true, "4b8f8a562a8bd9698c3e180e323e99f17011b2f434d0c7de81bf406eff542b82") true
    over (fun _ h => by cases h) (by kernel_rfl) (fun _ h => by cases h) patternHulls_row_tie rfl ⟨rfl, rfl⟩ (by kernel_rfl) rfl
    (fun f fn hf hfn => by
      obtain rfl : f = 6 := Option.some.inj ((show Tryz.prog.funcNamed Rows.patternHullsRow.func = some 6 by kernel_rfl).symm.trans hf) |>.symm
      obtain rfl : fn = Tryz.f6 := (Option.some.inj (Tryz.func6.symm.trans hfn)).symm
      exact ⟨by kernel_rfl, fun j t ht => by
        rw [Tryz.params6] at ht
        have hm : t ∈ [22, 3, 4, 22] := by simpa using Array.mem_of_getElem? ht
        have hall : ([22, 3, 4, 22].all fun u => !Tryz.prog.wantsStandIn u) = true := by kernel_rfl
        exact (show Tryz.prog.wantsStandIn t = false by simpa using List.all_eq_true.1 hall t hm)⟩)
    (by kernel_rfl)
#print axioms proved
end Go.Proofs.YtihdlpeghlhnoaaGreatDoor.patternHulls
