/-
  The law trayKatona: for any three bytes, the function answers true. The sets with the smallest numbers have the smallest shadow.
-/
import Derived.Test.YtbkhffakhggdaaaDoorRows
import Derived.WalkKit
import Derived.ProofKit
import Derived.LaidMore
import Derived.OpenShut
import Derived.Stop.Joined
import Derived.SevenTiedAt
import Derived.Test.YtbkhffakhggdaaaDoorCards
import Derived.Test.YtbkhffakhggdaaaDoorTie
import Derived.Test.YtbkhffakhggdaaaDoorKit
import Derived.Test.YtbkhffakhggdaaaDoorKbAll
set_option linter.all false
namespace Go.Proofs.YtbkhffakhggdaaaDoor.trayKatona
open Go.ChangeShapes Go.WideShapes Go.ChangeAt Go.RowKit

theorem own : ownKnob Tryd.prog.godebug = none := by kernel_rfl

theorem walk {a0 : Nat} {u0 : Value} {a1 : Nat} {u1 : Value} {a2 : Nat} {u2 : Value} (w : World) (hG : Ab.GlobOK (Ab.ctx0 w)) (ha0 : a0 < 256) (hu0 : u0 = .int .u8 (a0 : Nat)) (ha1 : a1 < 256) (hu1 : u1 = .int .u8 (a1 : Nat)) (ha2 : a2 < 256) (hu2 : u2 = .int .u8 (a2 : Nat)) :
    Calls Tryd.prog 9 #[u0, u1, u2] w fun e w' => e = .returned (.bool true) ∧ Below w.heap.size w w' := by
  subst hu0 hu1 hu2
  obtain ⟨f, H', h⟩ := Code.katona_true  ha0 ha1 ha2
  exact Ab.law_true (env := Code.E) (us := [.int .u8 (a0 : Nat), .int .u8 (a1 : Nat), .int .u8 (a2 : Nat)]) (Ab.funsOK rfl Code.tableOK) (Ab.knownT_ok rfl (fun p hp => by
    simp only [List.mem_singleton] at hp; subst hp; exact Works.kept)) Code.mixed hG (.cons (.int _ _) (.cons (.int _ _) (.cons (.int _ _) .nil))) h

set_option maxRecDepth 100000 in
theorem lifted (os : Os) (started : os.Started) (H : Type) (enc : TypeId × Value → H) :
    ReturnsInHanded {} Tryd.checked os 9 .any (fun w args => (Rows.trayKatonaSpec.pre enc Tryd.prog Tryd.f9 [] false w args ∧ laidMetH Tryd.prog laid2 w) ∧ sizedMet enc Tryd.prog Tryd.f9 (OpenSpec.ofChange Rows.trayKatonaSpec) false w args) (Rows.trayKatonaSpec.post enc Tryd.prog Tryd.f9 false true false false) := by
  refine returnsInHanded_of_change_and (C := Tryd.checked) (X := fun w _ => laidMetH Tryd.prog laid2 w) (fun _ _ _ hh h => h.of_heap hh) own started (by kernel_rfl) Tryd.func9
    (ChangeSpec.witness_shaped (enc := enc) (C := Tryd.checked) (os := os) (X := fun w _ => laidMetH Tryd.prog laid2 w) false (World.doorLaid Tryd.prog 400 os) #[.int .u8 0, .int .u8 0, .int .u8 0] 8 rfl (World.shaped_of_RefB (by kernel_rfl) (by kernel_rfl)) (by kernel_rfl) (by kernel_rfl) (by kernel_rfl) (door_met os _)) ?_
  intro W base args ds gs before hval0 hW _ _ hL _
  have hval : ∀ (j : Nat) t v, Tryd.f9.params[j]? = some t → args[j]? = some v → Value.okWide Tryd.prog W .any base t v := hval0
  have hW' := hW
  obtain ⟨p, q, hA0, hV, rfl, hfz, hnd⟩ := hW
  have hA : DataW.TrodAll enc Tryd.prog W 0 (fun _ => true) true Tryd.f9.params.toList args.toList ds p := hA0
  rw [Tryd.params9] at hA hval
  obtain ⟨v0, vs0, d0, ds0, pl0, ql0, hargs, rfl, rfl, h0, r0⟩ := trodAll_cons hA
  obtain ⟨v1, vs1, d1, ds1, pl1, ql1, rfl, rfl, rfl, h1, r1⟩ := trodAll_cons r0
  obtain ⟨v2, vs2, d2, ds2, pl2, ql2, rfl, rfl, rfl, h2, r2⟩ := trodAll_cons r1
  obtain ⟨rfl, rfl, rfl⟩ := trodAll_nil r2
  obtain rfl : args = #[v0, v1, v2] := by cases args; simp_all
  obtain ⟨rfl, rfl⟩ := trodVars_none hV
  obtain ⟨z0, hu0, _, _, w0⟩ := open_int Tryd.underlying5 (hval 0 5 v0 rfl rfl) h0
  obtain ⟨a0, hz0, ha0⟩ := Ab.u8_wf w0
  rw [hz0] at hu0
  obtain ⟨z1, hu1, _, _, w1⟩ := open_int Tryd.underlying5 (hval 1 5 v1 rfl rfl) h1
  obtain ⟨a1, hz1, ha1⟩ := Ab.u8_wf w1
  rw [hz1] at hu1
  obtain ⟨z2, hu2, _, _, w2⟩ := open_int Tryd.underlying5 (hval 2 5 v2 rfl rfl) h2
  obtain ⟨a2, hz2, ha2⟩ := Ab.u8_wf w2
  rw [hz2] at hu2
  refine (walk W (glob_of hL) ha0 hu0 ha1 hu1 ha2 hu2).mono fun e W' ⟨he, hg⟩ => ?_
  subst he
  have whole := hW'
  refine ⟨_, rfl, law_post (ds := [d0, d1, d2]) (at0 := pl0 ++ (pl1 ++ (pl2 ++ []))) (by simpa only [List.append_nil] using hW') hg (fun _ _ _ => (trodAll_cons_mk (shut_bool Tryd.underlying4 _) trodAll_mk0)) (fun sp hsp => ?_) (fun _ => rfl)
    (ok_one (by kernel_rfl) rfl (okWide_bool_mk Tryd.underlying4 _))⟩
  refine Ab.trodAll_stays (by kernel_rfl) hg (fun t ht => ?_) (show DataW.TrodAll enc Tryd.prog W 0 (fun _ => true) true Tryd.f9.params.toList #[v0, v1, v2].toList [d0, d1, d2] (pl0 ++ (pl1 ++ (pl2 ++ []))) from hA0) (fun x hx => ?_) hsp
  · have : t ∈ [5, 5, 5] := by have := Tryd.params9 ▸ ht; simpa using this
    obtain rfl : t = 5 := by simpa using this
    exact ⟨by kernel_rfl, of_decide_eq_true (by kernel_rfl)⟩
  · exact DataW.Whole.lt whole x (by simpa using hx)

theorem over : Rows.TrayKatonaSaid :=
  OpenClaim.holds_of_wide 9 Tryd.f9 rfl rfl rfl rfl rfl rfl rfl ⟨rfl, rfl, rfl, rfl, rfl⟩ rfl rfl rfl rfl rfl (by kernel_rfl) Tryd.func9 (by kernel_rfl)
    (of_decide_eq_true (by kernel_rfl)) (by unfold Func.isWrapper; first | (rw [if_pos (by decide +kernel)]; kernel_rfl) | (rw [if_neg (by decide +kernel)]; exact ⟨rfl, rfl⟩))
    (fun os started H enc _ => lifted os started H enc)

/-- ████ THE STATEMENT ████ -/
theorem proved : Rows.TrayKatonaCardSaid :=
  Claim7.holds_tied_plain_at .later [] [.data, .data] true (true, "1af2e4b2560c06ff4b1902e5e9a0bf76705fcf678f624b1a19b30b31aeb012e2") false
    over (fun _ h => by cases h) (by kernel_rfl) (fun _ h => by cases h) trayKatona_row_tie rfl ⟨rfl, rfl⟩ (by kernel_rfl) rfl
    (fun f fn hf hfn => by
      obtain rfl : f = 9 := Option.some.inj ((show Tryd.prog.funcNamed Rows.trayKatonaRow.func = some 9 by kernel_rfl).symm.trans hf) |>.symm
      obtain rfl : fn = Tryd.f9 := (Option.some.inj (Tryd.func9.symm.trans hfn)).symm
      exact ⟨by kernel_rfl, fun j t ht => by
        rw [Tryd.params9] at ht
        have hm : t ∈ [5, 5, 5] := by simpa using Array.mem_of_getElem? ht
        have hall : ([5, 5, 5].all fun u => !Tryd.prog.wantsStandIn u) = true := by kernel_rfl
        exact (show Tryd.prog.wantsStandIn t = false by simpa using List.all_eq_true.1 hall t hm)⟩)
    (by kernel_rfl)
#print axioms proved
end Go.Proofs.YtbkhffakhggdaaaDoor.trayKatona
