/-
  Answers of calls, each computed by the proved evaluator. Written by a program of ours.
-/
import Derived.Test.YtihdlpeghlhnoaaGreatDoorLib
set_option linter.all false
namespace Go.Proofs.YtihdlpeghlhnoaaGreatDoor.Code
open Go Go.Ab
def we0 : FuncId × List AV × AV := (16, [(.lst 2 false [(.agg [(.int .i64 0), (.int .i64 0)]), (.agg [(.int .i64 4), (.int .i64 0)]), (.agg [(.int .i64 4), (.int .i64 2)]), (.agg [(.int .i64 2), (.int .i64 2)]), (.agg [(.int .i64 2), (.int .i64 4)]), (.agg [(.int .i64 0), (.int .i64 4)])])], (.tup [(.int .i64 24), (.int .i64 1), (.int .i64 0)]))
theorem wk0 : Kept Tryz.prog we0 := keptQ (by kernel_rfl) (by kernel_rfl) (by kernel_rfl)
def we4 : FuncId × List AV × AV := (29, [(.lst 2 false [(.agg [(.int .i64 0), (.int .i64 0)]), (.agg [(.int .i64 4), (.int .i64 0)]), (.agg [(.int .i64 4), (.int .i64 2)]), (.agg [(.int .i64 2), (.int .i64 2)]), (.agg [(.int .i64 2), (.int .i64 4)]), (.agg [(.int .i64 0), (.int .i64 4)])])], (.tup [(.lst 2 false [(.agg [(.int .i64 0), (.int .i64 2)]), (.agg [(.int .i64 0), (.int .i64 3)]), (.agg [(.int .i64 0), (.int .i64 4)]), (.agg [(.int .i64 1), (.int .i64 3)]), (.agg [(.int .i64 3), (.int .i64 5)])]), (.int .i64 0)]))
theorem wk4 : Kept Tryz.prog we4 := keptQ (by kernel_rfl) (by kernel_rfl) (by kernel_rfl)
def we6 : FuncId × List AV × AV := (34, [(.lst 2 false [(.agg [(.int .i64 0), (.int .i64 0)]), (.agg [(.int .i64 4), (.int .i64 0)]), (.agg [(.int .i64 4), (.int .i64 2)]), (.agg [(.int .i64 2), (.int .i64 2)]), (.agg [(.int .i64 2), (.int .i64 4)]), (.agg [(.int .i64 0), (.int .i64 4)])])], (.tup [(.lst 1 false [(.int .i64 1), (.int .i64 2), (.int .i64 4), (.int .i64 5)]), (.int .i64 0)]))
theorem wk6 : Kept Tryz.prog we6 := keptQ (by kernel_rfl) (by kernel_rfl) (by kernel_rfl)
def we8 : FuncId × List AV × AV := (38, [(.lst 2 false [(.agg [(.int .i64 0), (.int .i64 0)]), (.agg [(.int .i64 4), (.int .i64 0)]), (.agg [(.int .i64 4), (.int .i64 2)]), (.agg [(.int .i64 2), (.int .i64 2)]), (.agg [(.int .i64 2), (.int .i64 4)]), (.agg [(.int .i64 0), (.int .i64 4)])])], (.tup [(.int .i64 4), (.int .i64 0)]))
theorem wk8 : Kept Tryz.prog we8 := keptQ (by kernel_rfl) (by kernel_rfl) (by kernel_rfl)
def we10 : FuncId × List AV × AV := (43, [(.lst 2 false [(.agg [(.int .i64 1), (.int .i64 1)]), (.agg [(.int .i64 2), (.int .i64 2)]), (.agg [(.int .i64 0), (.int .i64 2)]), (.agg [(.int .i64 0), (.int .i64 0)]), (.agg [(.int .i64 2), (.int .i64 0)]), (.agg [(.int .i64 1), (.int .i64 0)])])], (.tup [(.lst 2 false [(.agg [(.int .i64 0), (.int .i64 0)]), (.agg [(.int .i64 2), (.int .i64 0)]), (.agg [(.int .i64 2), (.int .i64 2)]), (.agg [(.int .i64 0), (.int .i64 2)])]), (.int .i64 0)]))
theorem wk10 : Kept Tryz.prog we10 := keptQ (by kernel_rfl) (by kernel_rfl) (by kernel_rfl)
def we12 : FuncId × List AV × AV := (41, [(.lst 2 false [(.agg [(.int .i64 0), (.int .i64 0)]), (.agg [(.int .i64 2), (.int .i64 0)]), (.agg [(.int .i64 2), (.int .i64 2)]), (.agg [(.int .i64 0), (.int .i64 2)])]), (.int .i64 (-1)), (.bool false)], (.tup [.nils, (.int .i64 13)]))
theorem wk12 : Kept Tryz.prog we12 := keptQ (by kernel_rfl) (by kernel_rfl) (by kernel_rfl)
def we14 : FuncId × List AV × AV := (27, [(.lst 2 false [(.agg [(.int .i64 0), (.int .i64 0)]), (.agg [(.int .i64 2), (.int .i64 2)]), (.agg [(.int .i64 2), (.int .i64 0)]), (.agg [(.int .i64 0), (.int .i64 2)])])], (.int .i64 5))
theorem wk14 : Kept Tryz.prog we14 := keptQ (by kernel_rfl) (by kernel_rfl) (by kernel_rfl)
end Go.Proofs.YtihdlpeghlhnoaaGreatDoor.Code
