/-
  Answers of calls that are known, and calls.
-/
import Derived.Test.YtngoldipfgfecaaDoorEv0
import Derived.Test.YtngoldipfgfecaaDoorAbWs
import Derived.KernelRfl
set_option linter.all false
namespace Go.Proofs.YtngoldipfgfecaaDoor.Code
open Go Go.Ab
abbrev K1 (v : AV) : Option KRes := some { v := v }
def kn8 : List AV → Option KRes
  | [l, o, .int .i64 (.ofNat n)] => bif l.same L5 && o.same O5 && Nat.blt n 32 then K1 (.tup [digs n, .int .i64 0]) else none
  | _ => none
def kn10 : List AV → Option KRes
  | [.int .i64 (.ofNat r), .int .i64 (.ofNat n)] => bif Nat.beq r 5 && Nat.blt n 32 then K1 (.tup [pos5 n, .int .i64 0]) else bif Nat.beq r 4 && Nat.blt n 16 then K1 (.tup [pos4 n, .int .i64 0]) else none
  | _ => none
def fd5 (p : AV) : Option Nat := (List.range 32).find? fun n => p.same (pos5 n)
def fd4 (p : AV) : Option Nat := (List.range 16).find? fun n => p.same (pos4 n)
def kn11 : List AV → Option KRes
  | [p] => match fd5 p with
    | some n => K1 (.tup [iv n, .int .i64 0])
    | none => none
  | _ => none
def kn13 : List AV → Option KRes
  | [p, o] => bif o.same open4 then match fd4 p with
    | some n => K1 (.tup [iv n, .int .i64 0])
    | none => none else none
  | _ => none
def kn12 : List AV → Option KRes
  | [] => K1 (.bool true)
  | _ => none
def kn67 : List AV → Option KRes
  | [l, o] => bif l.same L5 && o.same O5 then K1 (.tup [.agg [L5, O5], .int .i64 0]) else none
  | _ => none
/-- answers that are known on every heap -/
def knownB (f : FuncId) (args : List AV) (_ : Heap) : Option KRes :=
  bif Nat.beq f 12 then kn12 args else bif Nat.beq f 8 then kn8 args else bif Nat.beq f 10 then kn10 args else bif Nat.beq f 11 then kn11 args else bif Nat.beq f 13 then kn13 args else bif Nat.beq f 67 then kn67 args else none
def E : Env := { funs := env.funs, known := knownB }
theorem fd5_at : ∀ n, n < 32 → fd5 (pos5 n) = some n := by decide +kernel
theorem fd4_at : ∀ n, n < 16 → fd4 (pos4 n) = some n := by decide +kernel
end Go.Proofs.YtngoldipfgfecaaDoor.Code
