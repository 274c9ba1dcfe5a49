/-
  TopLeague answers true at every number of curlers and every set of bits.
-/
import Derived.Test.YtngoldipfgfecaaRows
import Derived.WalkKit
import Derived.ProofKit
import Derived.OpenShut
import Derived.Test.YtngoldipfgfecaaKit
import Derived.Test.YtngoldipfgfecaaLg
set_option linter.all false
namespace Go.Proofs.Ytngoldipfgfecaa.topLeague
open Go.ChangeShapes Go.WideShapes Go.ChangeAt Go.RowKit

theorem u8_wf {z : Int} (h : (Lit.int .u8 z).wf = true) : ∃ a : Nat, z = a ∧ a < 256 := by
  simp only [Lit.wf, Bool.and_eq_true, decide_eq_true_eq] at h
  have m0 : IntKind.u8.min = 0 := by decide
  have m1 : IntKind.u8.max = 255 := by decide
  exact ⟨z.toNat, by omega, by omega⟩

theorem u32_wf {z : Int} (h : (Lit.int .u32 z).wf = true) : ∃ a : Nat, z = a ∧ a < 4294967296 := by
  simp only [Lit.wf, Bool.and_eq_true, decide_eq_true_eq] at h
  have m0 : IntKind.u32.min = 0 := by decide
  have m1 : IntKind.u32.max = 4294967295 := by decide
  exact ⟨z.toNat, by omega, by omega⟩

theorem own : ownKnob Try.prog.godebug = none := by kernel_rfl

theorem walk {a0 : Nat} {u0 : Value} {a1 : Nat} {u1 : Value} (w : World) (ha0 : a0 < 256) (hu0 : u0 = .int .u8 (a0 : Nat)) (ha1 : a1 < 4294967296) (hu1 : u1 = .int .u32 (a1 : Nat)) :
    Calls Try.prog 3 #[u0, u1] w fun e w' => e = .returned (.bool true) ∧ Below w.heap.size w w' := by
  subst hu0 hu1
  obtain ⟨f, H', h⟩ := Code.league_true  ha0 ha1
  exact Ab.law_true (env := Code.E) (us := [.int .u8 (a0 : Nat), .int .u32 (a1 : Nat)]) (Ab.funsOK rfl Code.tableOK) (Ab.knownT_ok rfl (fun p hp => by
    simp only [List.mem_singleton] at hp; subst hp; exact Works.kept)) Code.mixed (Ab.glob0 fun _ => rfl) (.cons (.int _ _) (.cons (.int _ _) .nil)) h

set_option maxRecDepth 100000 in
theorem lifted (os : Os) (started : os.Started) (H : Type) (enc : TypeId × Value → H) :
    ReturnsInHanded {} Try.checked os 3 .any (Rows.topLeagueSpec.pre6 enc Try.prog Try.f3 Rows.topLeagueRow.domain false) (Rows.topLeagueSpec.post enc Try.prog Try.f3 false true false false) := by
  refine returnsInHanded_of_change (C := Try.checked) own started (by kernel_rfl) Try.func3
    (ChangeSpec.witness6 (enc := enc) (C := Try.checked) false ⟨#[], #[.int .u8 0, .int .u32 0], []⟩ 8 (by kernel_rfl) (by kernel_rfl) (by kernel_rfl) (by kernel_rfl)) ?_
  intro W base args ds gs before hval0 hW hcnd _
  have hval : ∀ (j : Nat) t v, Try.f3.params[j]? = some t → args[j]? = some v → Value.okWide Try.prog W .any base t v := hval0
  have hW' := hW
  obtain ⟨p, q, hA0, hV, rfl, hfz, hnd⟩ := hW
  have hA : DataW.TrodAll enc Try.prog W 0 (fun _ => true) true Try.f3.params.toList args.toList ds p := hA0
  rw [Try.params3] at hA hval
  obtain ⟨v0, vs0, d0, ds0, pl0, ql0, hargs, rfl, rfl, h0, r0⟩ := trodAll_cons hA
  obtain ⟨v1, vs1, d1, ds1, pl1, ql1, rfl, rfl, rfl, h1, r1⟩ := trodAll_cons r0
  obtain ⟨rfl, rfl, rfl⟩ := trodAll_nil r1
  obtain rfl : args = #[v0, v1] := by cases args; simp_all
  obtain ⟨rfl, rfl⟩ := trodVars_none hV
  obtain ⟨z0, hu0, _, _, w0⟩ := open_int Try.underlying5 (hval 0 5 v0 rfl rfl) h0
  obtain ⟨a0, hz0, ha0⟩ := u8_wf w0
  rw [hz0] at hu0
  obtain ⟨z1, hu1, _, _, w1⟩ := open_int Try.underlying22 (hval 1 22 v1 rfl rfl) h1
  obtain ⟨a1, hz1, ha1⟩ := u32_wf w1
  rw [hz1] at hu1
  refine (walk W ha0 hu0 ha1 hu1).mono fun e W' ⟨he, hg⟩ => ?_
  subst he
  have whole := hW'
  refine ⟨_, rfl, law_post (ds := [d0, d1]) (at0 := pl0 ++ (pl1 ++ [])) (by simpa only [List.append_nil] using hW') hg (fun _ _ _ => (trodAll_cons_mk (shut_bool Try.underlying4 _) trodAll_mk0)) (fun sp hsp => ?_) (fun _ => rfl)
    (ok_one (by kernel_rfl) rfl (okWide_bool_mk Try.underlying4 _))⟩
  refine Ab.trodAll_stays (by kernel_rfl) hg (fun t ht => ?_) (show DataW.TrodAll enc Try.prog W 0 (fun _ => true) true Try.f3.params.toList #[v0, v1].toList [d0, d1] (pl0 ++ (pl1 ++ [])) from hA0) (fun x hx => ?_) hsp
  · have : t ∈ [5, 22] := by have := Try.params3 ▸ ht; simpa using this
    rcases (by simpa using this : t = 5 ∨ t = 22) with rfl | rfl
    · exact ⟨by kernel_rfl, of_decide_eq_true (by kernel_rfl)⟩
    · exact ⟨by kernel_rfl, of_decide_eq_true (by kernel_rfl)⟩
  · exact DataW.Whole.lt whole x (by simpa using hx)

theorem over : Rows.topLeagueRow.holds Try.pinned (OpenSpec.ofChange Rows.topLeagueSpec) :=
  OpenClaim.holds_of_wide 3 Try.f3 rfl rfl rfl rfl rfl rfl rfl ⟨rfl, rfl, rfl, rfl, rfl⟩ rfl rfl rfl rfl rfl (by kernel_rfl) Try.func3 (by kernel_rfl)
    (of_decide_eq_true (by kernel_rfl)) (by unfold Func.isWrapper; first | (rw [if_pos (by decide +kernel)]; kernel_rfl) | (rw [if_neg (by decide +kernel)]; exact ⟨rfl, rfl⟩))
    (fun os started H enc _ => lifted os started H enc)

/-- ████ THE STATEMENT ████ -/
theorem proved : Rows.TopLeagueSaid :=
  over
#print axioms proved
end Go.Proofs.Ytngoldipfgfecaa.topLeague
