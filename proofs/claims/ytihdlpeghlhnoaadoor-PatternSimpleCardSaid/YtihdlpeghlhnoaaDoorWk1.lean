/-
  Answers of calls, each computed by the proved evaluator. Written by a program of ours.
-/
import Derived.Test.YtihdlpeghlhnoaaDoorLib
set_option linter.all false
namespace Go.Proofs.YtihdlpeghlhnoaaDoor.Code
open Go Go.Ab
def we0 : FuncId × List AV × AV := (10, [(.lst 2 false [(.agg [(.int .i64 0), (.int .i64 0)]), (.agg [(.int .i64 4), (.int .i64 0)]), (.agg [(.int .i64 4), (.int .i64 2)]), (.agg [(.int .i64 2), (.int .i64 2)]), (.agg [(.int .i64 2), (.int .i64 4)]), (.agg [(.int .i64 0), (.int .i64 4)])])], (.tup [(.int .i64 24), (.int .i64 1), (.int .i64 0)]))
theorem wk0 : Kept Tryd.prog we0 := keptQ (by kernel_rfl) (by kernel_rfl) (by kernel_rfl)
def we4 : FuncId × List AV × AV := (14, [(.lst 2 false [(.agg [(.int .i64 0), (.int .i64 0)]), (.agg [(.int .i64 4), (.int .i64 0)]), (.agg [(.int .i64 4), (.int .i64 2)]), (.agg [(.int .i64 2), (.int .i64 2)]), (.agg [(.int .i64 2), (.int .i64 4)]), (.agg [(.int .i64 0), (.int .i64 4)])])], (.tup [(.lst 2 false [(.agg [(.int .i64 0), (.int .i64 2)]), (.agg [(.int .i64 0), (.int .i64 3)]), (.agg [(.int .i64 0), (.int .i64 4)]), (.agg [(.int .i64 1), (.int .i64 3)]), (.agg [(.int .i64 3), (.int .i64 5)])]), (.int .i64 0)]))
theorem wk4 : Kept Tryd.prog we4 := keptQ (by kernel_rfl) (by kernel_rfl) (by kernel_rfl)
def we8 : FuncId × List AV × AV := (16, [(.lst 2 false [(.agg [(.int .i64 0), (.int .i64 0)]), (.agg [(.int .i64 4), (.int .i64 0)]), (.agg [(.int .i64 4), (.int .i64 2)]), (.agg [(.int .i64 2), (.int .i64 2)]), (.agg [(.int .i64 2), (.int .i64 4)]), (.agg [(.int .i64 0), (.int .i64 4)])])], (.tup [(.int .i64 4), (.int .i64 0)]))
theorem wk8 : Kept Tryd.prog we8 := keptQ (by kernel_rfl) (by kernel_rfl) (by kernel_rfl)
def we12 : FuncId × List AV × AV := (18, [(.lst 2 false [(.agg [(.int .i64 0), (.int .i64 0)]), (.agg [(.int .i64 2), (.int .i64 0)]), (.agg [(.int .i64 2), (.int .i64 2)]), (.agg [(.int .i64 0), (.int .i64 2)])]), (.int .i64 (-1)), (.bool false)], (.tup [.nils, (.int .i64 13)]))
theorem wk12 : Kept Tryd.prog we12 := keptQ (by kernel_rfl) (by kernel_rfl) (by kernel_rfl)
def we16 : FuncId × List AV × AV := (12, [(.lst 2 false [(.agg [(.int .i64 0), (.int .i64 0)]), (.agg [(.int .i64 4), (.int .i64 0)]), (.agg [(.int .i64 4), (.int .i64 2)]), (.agg [(.int .i64 2), (.int .i64 2)]), (.agg [(.int .i64 2), (.int .i64 4)]), (.agg [(.int .i64 0), (.int .i64 4)])]), (.agg [(.int .i64 1), (.int .i64 1)])], (.tup [(.int .i64 2), (.int .i64 0)]))
theorem wk16 : Kept Tryd.prog we16 := keptQ (by kernel_rfl) (by kernel_rfl) (by kernel_rfl)
def we20 : FuncId × List AV × AV := (15, [(.lst 2 false [(.agg [(.int .i64 0), (.int .i64 0)]), (.agg [(.int .i64 4), (.int .i64 0)]), (.agg [(.int .i64 4), (.int .i64 2)]), (.agg [(.int .i64 2), (.int .i64 2)]), (.agg [(.int .i64 2), (.int .i64 4)]), (.agg [(.int .i64 0), (.int .i64 4)])]), (.int .i64 0), (.int .i64 6)], (.tup [.nils, .nils, (.int .i64 2)]))
theorem wk20 : Kept Tryd.prog we20 := keptQ (by kernel_rfl) (by kernel_rfl) (by kernel_rfl)
def we24 : FuncId × List AV × AV := (19, [(.lst 2 false [(.agg [(.int .i64 0), (.int .i64 0)]), (.agg [(.int .i64 1), (.int .i64 1)]), (.agg [(.int .i64 2), (.int .i64 2)])])], (.tup [.nils, (.int .i64 5)]))
theorem wk24 : Kept Tryd.prog we24 := keptQ (by kernel_rfl) (by kernel_rfl) (by kernel_rfl)
end Go.Proofs.YtihdlpeghlhnoaaDoor.Code
