/-
  Answers of calls, each computed by the proved evaluator: what the law on numbers leans on.
-/
import Derived.Test.YtbkhffakhggdaaaDoorEv
import Derived.KernelRfl
set_option linter.all false
namespace Go.Proofs.YtbkhffakhggdaaaDoor.Code
open Go Go.Ab
/-- how many dyes a set has -/
def pc (x : Nat) : Nat := ((List.range 6).filter fun i => x.testBit i).length
/-- the dyes of a set, as a list -/
def dy (x : Nat) : AV := if x = 0 then .nils else .lst 1 false (((List.range 6).filter fun i => x.testBit i).map fun (i : Nat) => AV.int .i64 (i : Int))
/-- how many smaller sets have as many dyes -/
def bef (x : Nat) : Nat := ((List.range x).filter fun z => Nat.beq (pc z) (pc x)).length
/-- how many sets of so many dyes have as many -/
def alls (n x : Nat) : Nat := ((List.range (2 ^ n)).filter fun z => Nat.beq (pc z) (pc x)).length
def okv (r : Option (AV × Heap)) (v : AV) : Bool := match r with
  | some (u, []) => u.same v
  | _ => false
theorem okv_eq {r : Option (AV × Heap)} {v : AV} (h : okv r v = true) : r = some (v, []) := by
  unfold okv at h
  split at h
  · rw [AV.same_eq _ _ h]
  · cases h
def k47 (x : Nat) : Bool := okv (acall E 200000 47 [.int .i64 (x : Int)] []) (dy x)
def k50 (x : Nat) : Bool := okv (acall E 200000 50 [.int .i64 (x : Int)] []) (.int .i64 (pc x : Int))
def k31 (n x : Nat) : Bool := okv (acall E 200000 31 [.int .i64 (n : Int), dy x] []) (.tup [.int .i64 (bef x : Int), .int .i64 0])
def k33 (n x : Nat) : Bool := okv (acall E 200000 33 [.int .i64 (n : Int), .int .i64 (pc x : Int), .int .i64 (bef x : Int)] []) (.tup [dy x, .int .i64 0])
def k33n (n x : Nat) : Bool := okv (acall E 200000 33 [.int .i64 (n : Int), .int .i64 (pc x : Int), .int .i64 (alls n x : Int)] []) (.tup [.nils, .int .i64 2])
def k29 (x : Nat) : Bool := okv (acall E 200000 29 [dy x, dy x] []) (.bool true)
end Go.Proofs.YtbkhffakhggdaaaDoor.Code
