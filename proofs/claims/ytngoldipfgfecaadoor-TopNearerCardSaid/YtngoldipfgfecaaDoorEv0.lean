/-
  Answers of calls, each computed by the proved evaluator.
-/
import Derived.Test.YtngoldipfgfecaaDoorAbQuick
import Derived.Test.YtngoldipfgfecaaDoorCode
import Derived.KernelRfl
set_option linter.all false
namespace Go.Proofs.YtngoldipfgfecaaDoor.Code
open Go Go.Ab
def okv (r : Option (AV × Heap)) (v : AV) : Bool := match r with
  | some (u, []) => u.same v
  | _ => false
theorem okv_eq {r : Option (AV × Heap)} {v : AV} (h : okv r v = true) : r = some (v, []) := by
  unfold okv at h
  split at h
  · rw [AV.same_eq _ _ h]
  · cases h
theorem keptQ {f : FuncId} {args : List AV} {v : AV} (h : okv (acallQ env 200000 f args []) v = true) (ha : AV.top.tops args = 0) (hv : v.top = 0) : Kept Tryd.prog (f, args, v) := by
  rw [acallQ_eq] at h
  exact kept (env := env) (funsOK rfl Code.tableOK) (fun _ _ _ _ hk => by cases hk) Code.mixed (okv_eq h) ha hv
def iv (n : Nat) : AV := .int .i64 (n : Int)
/-- the sizes 1, 2, 4, 8, 16 -/
def L5 : AV := .lst 1 true [.int .i64 1, .int .i64 2, .int .i64 4, .int .i64 8, .int .i64 16]
/-- one packet of each -/
def O5 : AV := .lst 1 true [.int .i64 1, .int .i64 1, .int .i64 1, .int .i64 1, .int .i64 1]
/-- a digit -/
def bt (n k : Nat) : Nat := n / 2 ^ k % 2
def digs (n : Nat) : AV := .lst 1 false [iv (bt n 0), iv (bt n 1), iv (bt n 2), iv (bt n 3), iv (bt n 4)]
/-- the position with a number -/
def gry (n : Nat) : Nat := n ^^^ (n / 2)
def pos5 (n : Nat) : AV := .lst 1 false [iv (bt (gry n) 0), iv (bt (gry n) 1), iv (bt (gry n) 2), iv (bt (gry n) 3), iv (bt (gry n) 4)]
def pos4 (n : Nat) : AV := .lst 1 false [iv (bt (gry n) 0), iv (bt (gry n) 1), iv (bt (gry n) 2), iv (bt (gry n) 3)]
def open4 : AV := .lst 1 true [.int .i64 0, .int .i64 0, .int .i64 0, .int .i64 0]
noncomputable def e8 (n : Nat) : Bool := okv (acallQ env 200000 8 [L5, O5, iv n] []) (.tup [digs n, .int .i64 0])
noncomputable def e10 (n : Nat) : Bool := okv (acallQ env 200000 10 [.int .i64 5, iv n] []) (.tup [pos5 n, .int .i64 0])
noncomputable def e10b (n : Nat) : Bool := okv (acallQ env 200000 10 [.int .i64 4, iv n] []) (.tup [pos4 n, .int .i64 0])
noncomputable def e11 (n : Nat) : Bool := okv (acallQ env 200000 11 [pos5 n] []) (.tup [iv n, .int .i64 0])
noncomputable def e13 (n : Nat) : Bool := okv (acallQ env 200000 13 [pos4 n, open4] []) (.tup [iv n, .int .i64 0])
noncomputable def e67 : Bool := okv (acallQ env 200000 67 [L5, O5] []) (.tup [.agg [L5, O5], .int .i64 0])
noncomputable def e12 : Bool := okv (acallQ env 200000 12 [] []) (.bool true)
end Go.Proofs.YtngoldipfgfecaaDoor.Code
