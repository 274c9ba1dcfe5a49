/-
  if each tray is replaced by the dyes that it lacks, containing is turned round, and shadow and shade change places; with other names of dyes as many orders pass, and shadow and shade are as large
-/
import Derived.Test.YtbkhffakhggdaaaDoorRows
import Derived.WalkKit
import Derived.ProofKit
import Derived.LaidMore
import Derived.OpenShut
import Derived.Stop.Joined
import Derived.SevenTiedAt
import Derived.Test.YtbkhffakhggdaaaDoorCards
import Derived.Test.YtbkhffakhggdaaaDoorTie
import Derived.Test.YtbkhffakhggdaaaDoorKit
import Derived.Test.YtbkhffakhggdaaaDoorLk
set_option linter.all false
namespace Go.Proofs.YtbkhffakhggdaaaDoor.trayLacking
open Go.ChangeShapes Go.WideShapes Go.ChangeAt Go.RowKit

theorem own : ownKnob Tryd.prog.godebug = none := by kernel_rfl

theorem walk {n0 : Nat} {q0 : Ab.AV} {l0 : List Nat} {u0 : Value} {a1 : Nat} {u1 : Value} (w : World) (hG : Ab.GlobOK (Ab.ctx0 w)) (hn0 : n0 < 256) (hq0 : Code.isB q0 l0) (hl0 : l0.length < 9223372036854775808) (hu0 : Ab.VR (Ab.ctx0 w) (.agg [.int .u8 (n0 : Nat), q0]) u0) (ha1 : a1 < 256) (hu1 : u1 = .int .u8 (a1 : Nat)) :
    Calls Tryd.prog 12 #[u0, u1] w fun e w' => e = .returned (.bool true) ∧ Below w.heap.size w w' := by
  subst hu1
  obtain ⟨f, H', h⟩ := Code.lacking_true  hn0 hq0 hl0 ha1
  exact Ab.law_true (env := Code.E) (us := [u0, .int .u8 (a1 : Nat)]) (Ab.funsOK rfl Code.tableOK) Code.knownE Code.mixed hG (.cons hu0 (.cons (.int _ _) .nil)) h

set_option maxRecDepth 100000 in
theorem lifted (os : Os) (started : os.Started) (H : Type) (enc : TypeId × Value → H) :
    ReturnsInHanded {} Tryd.checked os 12 .any (fun w args => (Rows.trayLackingSpec.pre enc Tryd.prog Tryd.f12 [] false w args ∧ laidMetH Tryd.prog laid2 w) ∧ sizedMet enc Tryd.prog Tryd.f12 (OpenSpec.ofChange Rows.trayLackingSpec) false w args) (Rows.trayLackingSpec.post enc Tryd.prog Tryd.f12 false true false false) := by
  refine returnsInHanded_of_change_and (C := Tryd.checked) (X := fun w _ => laidMetH Tryd.prog laid2 w) (fun _ _ _ hh h => h.of_heap hh) own started (by kernel_rfl) Tryd.func12
    (ChangeSpec.witness_shaped (enc := enc) (C := Tryd.checked) (os := os) (X := fun w _ => laidMetH Tryd.prog laid2 w) false (World.doorLaid Tryd.prog 400 os) #[.agg #[.int .u8 0, .slice none 0 0], .int .u8 0] 8 rfl (World.shaped_of_RefB (by kernel_rfl) (by kernel_rfl)) (by kernel_rfl) (by kernel_rfl) (by kernel_rfl) (door_met os _)) ?_
  intro W base args ds gs before hval0 hW _ _ hL _
  have hval : ∀ (j : Nat) t v, Tryd.f12.params[j]? = some t → args[j]? = some v → Value.okWide Tryd.prog W .any base t v := hval0
  have hW' := hW
  obtain ⟨p, q, hA0, hV, rfl, hfz, hnd⟩ := hW
  have hA : DataW.TrodAll enc Tryd.prog W 0 (fun _ => true) true Tryd.f12.params.toList args.toList ds p := hA0
  rw [Tryd.params12] at hA hval
  obtain ⟨v0, vs0, d0, ds0, pl0, ql0, hargs, rfl, rfl, h0, r0⟩ := trodAll_cons hA
  obtain ⟨v1, vs1, d1, ds1, pl1, ql1, rfl, rfl, rfl, h1, r1⟩ := trodAll_cons r0
  obtain ⟨rfl, rfl, rfl⟩ := trodAll_nil r1
  obtain rfl : args = #[v0, v1] := by cases args; simp_all
  obtain ⟨rfl, rfl⟩ := trodVars_none hV
  obtain ⟨n0, q0, l0, hn0, hu0, hq0, hl0⟩ := Code.drawer_vr (t := 73) (e := 5) Tryd.underlying73 rfl rfl (by kernel_rfl) (by kernel_rfl) (by kernel_rfl) Tryd.underlying5 Tryd.underlying71 Tryd.underlying5 (by kernel_rfl)
    (by kernel_rfl) (hval 0 73 v0 rfl rfl) h0
  obtain ⟨z1, hu1, _, _, w1⟩ := open_int Tryd.underlying5 (hval 1 5 v1 rfl rfl) h1
  obtain ⟨a1, hz1, ha1⟩ := Ab.u8_wf w1
  rw [hz1] at hu1
  refine (walk W (glob_of hL) hn0 hq0 hl0 hu0 ha1 hu1).mono fun e W' ⟨he, hg⟩ => ?_
  subst he
  have whole := hW'
  refine ⟨_, rfl, law_post (ds := [d0, d1]) (at0 := pl0 ++ (pl1 ++ [])) (by simpa only [List.append_nil] using hW') hg (fun _ _ _ => (trodAll_cons_mk (shut_bool Tryd.underlying4 _) trodAll_mk0)) (fun sp hsp => ?_) (fun _ => rfl)
    (ok_one (by kernel_rfl) rfl (okWide_bool_mk Tryd.underlying4 _))⟩
  refine Ab.trodAll_stays (by kernel_rfl) hg (fun t ht => ?_) (show DataW.TrodAll enc Tryd.prog W 0 (fun _ => true) true Tryd.f12.params.toList #[v0, v1].toList [d0, d1] (pl0 ++ (pl1 ++ [])) from hA0) (fun x hx => ?_) hsp
  · have : t ∈ [73, 5] := by have := Tryd.params12 ▸ ht; simpa using this
    rcases (by simpa using this : t = 73 ∨ t = 5) with rfl | rfl
    · exact ⟨by kernel_rfl, of_decide_eq_true (by kernel_rfl)⟩
    · exact ⟨by kernel_rfl, of_decide_eq_true (by kernel_rfl)⟩
  · exact DataW.Whole.lt whole x (by simpa using hx)

theorem over : Rows.TrayLackingSaid :=
  OpenClaim.holds_of_wide 12 Tryd.f12 rfl rfl rfl rfl rfl rfl rfl ⟨rfl, rfl, rfl, rfl, rfl⟩ rfl rfl rfl rfl rfl (by kernel_rfl) Tryd.func12 (by kernel_rfl)
    (of_decide_eq_true (by kernel_rfl)) (by unfold Func.isWrapper; first | (rw [if_pos (by decide +kernel)]; kernel_rfl) | (rw [if_neg (by decide +kernel)]; exact ⟨rfl, rfl⟩))
    (fun os started H enc _ => lifted os started H enc)

/-- ████ THE STATEMENT ████ -/
theorem proved : Rows.TrayLackingCardSaid :=
  Claim7.holds_tied_plain_at .later [] [.data, .data] true (true, "1af2e4b2560c06ff4b1902e5e9a0bf76705fcf678f624b1a19b30b31aeb012e2") false
    over (fun _ h => by cases h) (by kernel_rfl) (fun _ h => by cases h) trayLacking_row_tie rfl ⟨rfl, rfl⟩ (by kernel_rfl) rfl
    (fun f fn hf hfn => by
      obtain rfl : f = 12 := Option.some.inj ((show Tryd.prog.funcNamed Rows.trayLackingRow.func = some 12 by kernel_rfl).symm.trans hf) |>.symm
      obtain rfl : fn = Tryd.f12 := (Option.some.inj (Tryd.func12.symm.trans hfn)).symm
      exact ⟨by kernel_rfl, fun j t ht => by
        rw [Tryd.params12] at ht
        have hm : t ∈ [73, 5] := by simpa using Array.mem_of_getElem? ht
        have hall : ([73, 5].all fun u => !Tryd.prog.wantsStandIn u) = true := by kernel_rfl
        exact (show Tryd.prog.wantsStandIn t = false by simpa using List.all_eq_true.1 hall t hm)⟩)
    (by kernel_rfl)
#print axioms proved
end Go.Proofs.YtbkhffakhggdaaaDoor.trayLacking
