/-
  Part of the proofs about this chapter: contracts of functions, answers of calls, and plain laws.
-/
import Derived.Test.YtbkhffakhggdaaaDoorTCa
import Derived.KernelRfl
set_option linter.all false
section
namespace Go.Proofs.YtbkhffakhggdaaaDoor.Code
open Go Go.Ab
/-- how many smaller sets have as many dyes -/
def bef (x : Nat) : Nat := ((List.range x).filter fun z => Nat.beq (pc z) (pc x)).length
/-- how small a shadow can be, as the reference counts it -/
def leanS (n r i : Nat) : Nat := (nearS n ((szS n r).take i) (-1)).length
def k31 (n x : Nat) : Bool := okv (acall E 200000 31 [.int .i64 (n : Int), dy x] []) (.tup [.int .i64 (bef x : Int), .int .i64 0])
def k31e (n : Nat) : Bool := okv (acall E 200000 31 [.int .i64 (n : Int), lst0] []) (.tup [.int .i64 0, .int .i64 0])
def kNth (n r i : Nat) : Bool := okv (acall E 200000 33 [.int .i64 (n : Int), .int .i64 (r : Int), .int .i64 (i : Int)] []) (.tup [dy ((szS n r).getD i 0), .int .i64 0])
def kLean (n r i : Nat) : Bool := okv (acall E 200000 35 [.int .i64 (n : Int), .int .i64 (r : Int), .int .i64 (i : Int)] []) (.tup [.int .i64 (leanS n r i : Int), .int .i64 0])
/-- free dyes, and the chain, of a tray: program and reference -/
def kFree (n : Nat) (v : AV) : Bool := match acall E 200000 21 [.int .i64 (n : Int), v] [], acall E 200000 22 [.int .i64 (n : Int), v] [] with
  | some (.tup [a, .int .i64 0], []), some (.tup [b, .int .i64 0], []) => okv (acall E 200000 29 [a, b] []) (.bool true)
  | _, _ => false
def kChain (n : Nat) (v : AV) : Bool := match acall E 200000 23 [.int .i64 (n : Int), v] [], acall E 200000 24 [.int .i64 (n : Int), v] [] with
  | some (.tup [a, .int .i64 0], []), some (.tup [b, .int .i64 0], []) => okv (acall E 200000 20 [a, b] []) (.bool true)
  | _, _ => false
def kEq (n : Nat) : Bool := match w25 n, w26 n with
  | .tup [a, .int .i64 0], .tup [b, .int .i64 0] => okv (acall E 200000 30 [a, b] []) (.bool true)
  | _, _ => false
def kFreeX (n x : Nat) : Bool := kFree n (dy x)
def kChainX (n x : Nat) : Bool := kChain n (dy x)
def kFreeE (n : Nat) : Bool := kFree n lst0
def kChainE (n : Nat) : Bool := kChain n lst0
def k20n : Bool := okv (acall E 200000 20 [.nils, .nils] []) (.bool true)
def k29n : Bool := okv (acall E 200000 29 [.nils, .nils] []) (.bool true)
def k30n : Bool := okv (acall E 200000 30 [.nils, .nils] []) (.bool true)
end Go.Proofs.YtbkhffakhggdaaaDoor.Code
end

