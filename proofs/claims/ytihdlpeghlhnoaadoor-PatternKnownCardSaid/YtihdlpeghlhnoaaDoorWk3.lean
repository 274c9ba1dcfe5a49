/-
  Answers of calls, each computed by the proved evaluator. Written by a program of ours.
-/
import Derived.Test.YtihdlpeghlhnoaaDoorLib
set_option linter.all false
namespace Go.Proofs.YtihdlpeghlhnoaaDoor.Code
open Go Go.Ab
def we6 : FuncId × List AV × AV := (30, [(.lst 2 false [(.agg [(.int .i64 0), (.int .i64 0)]), (.agg [(.int .i64 4), (.int .i64 0)]), (.agg [(.int .i64 4), (.int .i64 2)]), (.agg [(.int .i64 2), (.int .i64 2)]), (.agg [(.int .i64 2), (.int .i64 4)]), (.agg [(.int .i64 0), (.int .i64 4)])])], (.tup [(.lst 1 false [(.int .i64 1), (.int .i64 2), (.int .i64 4), (.int .i64 5)]), (.int .i64 0)]))
theorem wk6 : Kept Tryd.prog we6 := keptQ (by kernel_rfl) (by kernel_rfl) (by kernel_rfl)
def we10 : FuncId × List AV × AV := (19, [(.lst 2 false [(.agg [(.int .i64 1), (.int .i64 1)]), (.agg [(.int .i64 2), (.int .i64 2)]), (.agg [(.int .i64 0), (.int .i64 2)]), (.agg [(.int .i64 0), (.int .i64 0)]), (.agg [(.int .i64 2), (.int .i64 0)]), (.agg [(.int .i64 1), (.int .i64 0)])])], (.tup [(.lst 2 false [(.agg [(.int .i64 0), (.int .i64 0)]), (.agg [(.int .i64 2), (.int .i64 0)]), (.agg [(.int .i64 2), (.int .i64 2)]), (.agg [(.int .i64 0), (.int .i64 2)])]), (.int .i64 0)]))
theorem wk10 : Kept Tryd.prog we10 := keptQ (by kernel_rfl) (by kernel_rfl) (by kernel_rfl)
def we14 : FuncId × List AV × AV := (6, [(.lst 2 false [(.agg [(.int .i64 0), (.int .i64 0)]), (.agg [(.int .i64 2), (.int .i64 2)]), (.agg [(.int .i64 2), (.int .i64 0)]), (.agg [(.int .i64 0), (.int .i64 2)])])], (.int .i64 5))
theorem wk14 : Kept Tryd.prog we14 := keptQ (by kernel_rfl) (by kernel_rfl) (by kernel_rfl)
def we18 : FuncId × List AV × AV := (12, [(.lst 2 false [(.agg [(.int .i64 0), (.int .i64 0)]), (.agg [(.int .i64 4), (.int .i64 0)]), (.agg [(.int .i64 4), (.int .i64 2)]), (.agg [(.int .i64 2), (.int .i64 2)]), (.agg [(.int .i64 2), (.int .i64 4)]), (.agg [(.int .i64 0), (.int .i64 4)])]), (.agg [(.int .i64 13), (.int .i64 0)])], (.tup [(.int .i64 0), (.int .i64 1)]))
theorem wk18 : Kept Tryd.prog we18 := keptQ (by kernel_rfl) (by kernel_rfl) (by kernel_rfl)
def we22 : FuncId × List AV × AV := (18, [(.lst 2 false [(.agg [(.int .i64 0), (.int .i64 0)]), (.agg [(.int .i64 2), (.int .i64 0)]), (.agg [(.int .i64 2), (.int .i64 2)]), (.agg [(.int .i64 0), (.int .i64 2)])]), (.int .i64 1), (.bool true)], (.tup [(.lst 2 false [(.agg [(.int .i64 0), (.int .i64 0)]), (.agg [(.int .i64 2), (.int .i64 2)]), (.agg [(.int .i64 2), (.int .i64 4)]), (.agg [(.int .i64 0), (.int .i64 2)])]), (.int .i64 0)]))
theorem wk22 : Kept Tryd.prog we22 := keptQ (by kernel_rfl) (by kernel_rfl) (by kernel_rfl)
def we26 : FuncId × List AV × AV := (6, [.nils], (.int .i64 4))
theorem wk26 : Kept Tryd.prog we26 := keptQ (by kernel_rfl) (by kernel_rfl) (by kernel_rfl)
end Go.Proofs.YtihdlpeghlhnoaaDoor.Code
