/-
  Answers of a law at some of its inputs, each computed by the proved evaluator.
-/
import Derived.Test.YtbkhffakhggdaaaDoorCall
import Derived.KernelRfl
set_option linter.all false
namespace Go.Proofs.YtbkhffakhggdaaaDoor.Code
open Go Go.Ab
/-- the law's answer is true, by evaluation -/
def chk (f : Nat) (args : List AV) : Bool := match acall E 200000 f args [] with
  | some (.bool true, _) => true
  | _ => false
theorem chk_true {f : Nat} {args : List AV} (h : chk f args = true) : ∃ n H', acall E n f args [] = some (.bool true, H') := by
  unfold chk at h
  split at h
  · rename_i H' he
    exact ⟨_, _, he⟩
  · cases h
def ch8 (m x : Nat) : Bool := chk 8 [.int .u8 (m : Int), .int .u8 (x : Int)]
end Go.Proofs.YtbkhffakhggdaaaDoor.Code
