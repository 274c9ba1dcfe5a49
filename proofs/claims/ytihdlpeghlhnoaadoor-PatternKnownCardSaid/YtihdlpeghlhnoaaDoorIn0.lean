/-
  Part of the proved evaluator, or answers that it computed.
-/
import Derived.Test.YtihdlpeghlhnoaaDoorLib
set_option linter.all false
namespace Go.Proofs.YtihdlpeghlhnoaaDoor.Code
open Go Go.Ab
def pq (x y : Nat) : AV := .agg [.int .i64 (Int.ofNat x), .int .i64 (Int.ofNat y)]
/-- the piece L -/
def L6 : AV := .lst 2 false [pq 0 0, pq 4 0, pq 4 2, pq 2 2, pq 2 4, pq 0 4]
def edgeL : List (Nat × Nat) := [(0, 0), (0, 1), (0, 2), (0, 3), (0, 4), (1, 0), (1, 4), (2, 0), (2, 2), (2, 3), (2, 4), (3, 0), (3, 2), (4, 0), (4, 1), (4, 2)]
/-- its edge -/
def E16 : AV := .lst 2 false (edgeL.map fun p => pq p.1 p.2)
def onE (x y : Nat) : Bool := edgeL.any fun p => Nat.beq p.1 x && Nat.beq p.2 y
def inL (x y : Nat) : Bool := (Nat.beq y 1 && Nat.ble 1 x && Nat.ble x 3) || (Nat.beq x 1 && Nat.ble 1 y && Nat.ble y 3)
def ltP (p : Nat × Nat) (x y : Nat) : Bool := Nat.blt p.1 x || (Nat.beq p.1 x && Nat.blt p.2 y)
def idxE (x y : Nat) : Nat := (edgeL.filter fun p => ltP p x y).length
def ordF : AV := .fn 47 [] []
noncomputable def ea (x y : Nat) : Bool := onE x y || okv (acallQ EL 200000 38 [L6, pq x y] []) (.bool (inL x y))
noncomputable def eb (x y : Nat) : Bool := okv (acallQ EL 200000 66 [E16, pq x y, ordF] []) (.tup [.int .i64 (Int.ofNat (idxE x y)), .bool (onE x y)])
end Go.Proofs.YtihdlpeghlhnoaaDoor.Code
