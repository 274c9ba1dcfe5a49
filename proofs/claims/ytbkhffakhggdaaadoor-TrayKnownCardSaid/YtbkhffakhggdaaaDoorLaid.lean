/-
  What the listed tables hold, of this seat: so the evaluator may read them.
-/
import Derived.Test.YtbkhffakhggdaaaDoorRows
import Derived.Test.YtbkhffakhggdaaaDoorAbLaid
import Derived.Test.YtbkhffakhggdaaaDoorChecked
import Derived.WalkKit
import Derived.ProofKit
import Derived.LaidMore
import Derived.OpenShut
import Derived.Stop.Joined
set_option linter.all false
namespace Go.Proofs.YtbkhffakhggdaaaDoor
open Go.ChangeShapes Go.WideShapes Go.ChangeAt Go.RowKit
abbrev laid2 : List (String × DataW Unit) := [("math/bits.deBruijn32tab", Rows.laid_math_bits_deBruijn32tab), ("math/bits.deBruijn64tab", Rows.laid_math_bits_deBruijn64tab)]
theorem gl32 : Tryd.prog.globalNamed "math/bits.deBruijn32tab" = some 0 := by kernel_rfl
theorem gl64 : Tryd.prog.globalNamed "math/bits.deBruijn64tab" = some 1 := by kernel_rfl
theorem ty32 : (Tryd.prog.globals[0]?).map (·.type) = some 144 := by kernel_rfl
theorem ty64 : (Tryd.prog.globals[1]?).map (·.type) = some 145 := by kernel_rfl
theorem globs_cases {g : Nat} {x : Ab.AV} (h : Ab.globs g = some x) : (g = 0 ∧ x = .agg (Ab.tab32.map (Ab.AV.int .u8))) ∨ (g = 1 ∧ x = .agg (Ab.tab64.map (Ab.AV.int .u8))) := by
  unfold Ab.globs at h
  split at h
  · cases h; exact .inl ⟨rfl, rfl⟩
  · cases h; exact .inr ⟨rfl, rfl⟩
  · cases h
/-- the condition gives the walk its tables -/
theorem glob_of {W : World} (h : laidMetH Tryd.prog laid2 W) : Ab.GlobOK (Ab.ctx0 W) := by
  rw [MakeChecks.laidMetH_plain _ _ _ (by kernel_rfl)] at h
  obtain ⟨ps, ⟨g0, t0, cs0, f0, p0, q0, hg0, ht0, hv0, hd0, ⟨g1, t1, cs1, f1, p1, q1, hg1, ht1, hv1, hd1, _, _⟩, _⟩, _, _⟩ := h
  obtain rfl := Option.some.inj (gl32.symm.trans hg0)
  obtain rfl := Option.some.inj (gl64.symm.trans hg1)
  obtain rfl := Option.some.inj (ty32.symm.trans ht0)
  obtain rfl := Option.some.inj (ty64.symm.trans ht1)
  intro g x hx
  rcases globs_cases hx with ⟨rfl, rfl⟩ | ⟨rfl, rfl⟩
  · exact Ab.table_VR (by decide) fun j x hj => by
      rw [World.var?_cell hg0 hv0 j]
      exact Ab.table_cells Tryd.underlying144 Tryd.underlying5 (by kernel_rfl) hd0 j x hj
  · exact Ab.table_VR (by decide) fun j x hj => by
      rw [World.var?_cell hg1 hv1 j]
      exact Ab.table_cells Tryd.underlying145 Tryd.underlying5 (by kernel_rfl) hd1 j x hj
/-- the door's own heap meets the condition -/
theorem door_met (os : Os) (args : Array Value) : laidMetH Tryd.prog laid2 ((World.doorLaid Tryd.prog 400 os).forCall (fun _ _ => 0) ⟨#[], args, []⟩).memory :=
  laidMetH_of_parts3 (fuel := 8) (laidMet_of_run' 8 (by kernel_rfl) (by kernel_rfl)) (by kernel_rfl) (by kernel_rfl)
end Go.Proofs.YtbkhffakhggdaaaDoor
