/-
  A law's last step: the call answered, and of the world it found it wrote nothing.
-/
import Derived.Test.YtihdlpeghlhnoaaDoorAbTop
import Derived.ChangeSame
import Derived.WalkKit
import Derived.ProofKit
import Derived.OpenShut
namespace Go.Proofs.YtihdlpeghlhnoaaDoor
open Go.ChangeShapes Go.WideShapes Go.ChangeAt Go.RowKit
variable {H : Type} {enc : TypeId × Value → H} {P : Program}

theorem law_post {f : Func} {s : ChangeSpec} {apart fresh handsOn again : Bool} {W W' : World} {args : Array Value} {v : Value} {ds : List (DataW H)} {at0 : List MemPlace}
    (whole : DataW.Whole enc P f.params.toList s.vars apart W args.toList ds [] at0)
    (below : Below W.heap.size W W')
    (res : ∀ (b : Nat) (sp : Nat → Bool) (hd : Bool), DataW.TrodAll enc P W' b sp hd f.resultTypes.toList (v.resultList f.resultTypes.size) (s.fn H (ds ++ [])).results [])
    (read : ∀ sp : Nat → Bool, (∀ p ∈ at0, sp p.block = true) → DataW.TrodAll enc P W' 0 sp true f.params.toList args.toList (s.fn H (ds ++ [])).args at0)
    (none : ∀ sp : Nat → Bool, DataW.TrodVars enc P W' sp s.vars (s.fn H (ds ++ [])).vars [])
    (ok : ∀ (j : Nat) (t : TypeId) (r : Value), f.resultTypes[j]? = some t → (v.resultList f.resultTypes.size)[j]? = some r → Value.okWide P W' .any 0 t r) :
    s.post enc P f apart fresh handsOn again W args v W' := by
  have old : ∀ p ∈ at0, p.block < W.heap.size := fun p hp => whole.lt p hp
  refine ⟨ds, [], at0, [], at0, [], whole, res _ _ _, read (fun b => decide (b < W.heap.size)) (fun p hp => by simpa using old p hp), none _, World.keptBut_mono (fun p hp => ⟨hp, ?_⟩) (below.frame (· ∈ at0)), fun _ => ⟨ok, ?_⟩⟩
  · exact Or.inr (by simpa using hp)
  · obtain ⟨_, _, _, _, _, frz, dis⟩ := whole
    refine ⟨_, _, ([] ++ at0) ++ [], ⟨[] ++ at0, [], trodAll_append (read _ fun _ _ => rfl) (res _ _ _), none _, rfl, fun b off hp => ?_, fun ha => ?_⟩, fun p hp _ => ?_⟩
    · have hin : MemPlace.cell b off ∈ at0 := by simpa using hp
      rw [below.frozen (old _ hin)]
      exact frz b off hin
    · simpa using dis ha
    · simpa using hp
end Go.Proofs.YtihdlpeghlhnoaaDoor
