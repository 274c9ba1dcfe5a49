/-
  Answers of calls, each computed by the proved evaluator. Written by a program of ours.
-/
import Derived.Test.YtihdlpeghlhnoaaDoorLib
set_option linter.all false
namespace Go.Proofs.YtihdlpeghlhnoaaDoor.Code
open Go Go.Ab
def we3 : FuncId × List AV × AV := (12, [(.lst 2 false [(.agg [(.int .i64 0), (.int .i64 0)]), (.agg [(.int .i64 4), (.int .i64 0)]), (.agg [(.int .i64 4), (.int .i64 2)]), (.agg [(.int .i64 2), (.int .i64 2)]), (.agg [(.int .i64 2), (.int .i64 4)]), (.agg [(.int .i64 0), (.int .i64 4)])]), (.agg [(.int .i64 2), (.int .i64 3)])], (.tup [(.int .i64 1), (.int .i64 0)]))
theorem wk3 : Kept Tryd.prog we3 := keptQ (by kernel_rfl) (by kernel_rfl) (by kernel_rfl)
def we7 : FuncId × List AV × AV := (17, [(.lst 2 false [(.agg [(.int .i64 0), (.int .i64 0)]), (.agg [(.int .i64 4), (.int .i64 0)]), (.agg [(.int .i64 4), (.int .i64 2)]), (.agg [(.int .i64 2), (.int .i64 2)]), (.agg [(.int .i64 2), (.int .i64 4)]), (.agg [(.int .i64 0), (.int .i64 4)])])], (.tup [(.lst 6 false [(.agg [(.int .i64 0), (.int .i64 0), (.int .i64 4), (.int .i64 0), (.int .i64 4), (.int .i64 2)]), (.agg [(.int .i64 0), (.int .i64 0), (.int .i64 4), (.int .i64 2), (.int .i64 2), (.int .i64 2)]), (.agg [(.int .i64 0), (.int .i64 4), (.int .i64 0), (.int .i64 0), (.int .i64 2), (.int .i64 2)]), (.agg [(.int .i64 2), (.int .i64 2), (.int .i64 2), (.int .i64 4), (.int .i64 0), (.int .i64 4)])]), (.int .i64 0)]))
theorem wk7 : Kept Tryd.prog we7 := keptQ (by kernel_rfl) (by kernel_rfl) (by kernel_rfl)
def we11 : FuncId × List AV × AV := (31, [(.lst 2 false [(.agg [(.int .i64 0), (.int .i64 0)]), (.agg [(.int .i64 3), (.int .i64 1)]), (.agg [(.int .i64 2), (.int .i64 1)])])], (.tup [(.bool true), (.int .i64 0)]))
theorem wk11 : Kept Tryd.prog we11 := keptQ (by kernel_rfl) (by kernel_rfl) (by kernel_rfl)
def we15 : FuncId × List AV × AV := (10, [(.lst 2 false [(.agg [(.int .i64 0), (.int .i64 0)]), (.agg [(.int .i64 2), (.int .i64 0)]), (.agg [(.int .i64 2), (.int .i64 2)]), (.agg [(.int .i64 0), (.int .i64 2)])])], (.tup [(.int .i64 8), (.int .i64 1), (.int .i64 0)]))
theorem wk15 : Kept Tryd.prog we15 := keptQ (by kernel_rfl) (by kernel_rfl) (by kernel_rfl)
def we19 : FuncId × List AV × AV := (14, [(.lst 2 false [(.agg [(.int .i64 0), (.int .i64 0)]), (.agg [(.int .i64 2), (.int .i64 0)]), (.agg [(.int .i64 2), (.int .i64 2)]), (.agg [(.int .i64 0), (.int .i64 2)])])], (.tup [(.lst 2 false [(.agg [(.int .i64 0), (.int .i64 2)]), (.agg [(.int .i64 1), (.int .i64 3)])]), (.int .i64 0)]))
theorem wk19 : Kept Tryd.prog we19 := keptQ (by kernel_rfl) (by kernel_rfl) (by kernel_rfl)
def we23 : FuncId × List AV × AV := (18, [(.lst 2 false [(.agg [(.int .i64 0), (.int .i64 0)]), (.agg [(.int .i64 2), (.int .i64 0)]), (.agg [(.int .i64 2), (.int .i64 2)]), (.agg [(.int .i64 0), (.int .i64 2)])]), (.int .i64 4), (.bool false)], (.tup [.nils, (.int .i64 1)]))
theorem wk23 : Kept Tryd.prog we23 := keptQ (by kernel_rfl) (by kernel_rfl) (by kernel_rfl)
def we27 : FuncId × List AV × AV := (6, [(.lst 2 false [(.agg [(.int .i64 0), (.int .i64 0)]), (.agg [(.int .i64 1), (.int .i64 0)]), (.agg [(.int .i64 0), (.int .i64 0)])])], (.int .i64 6))
theorem wk27 : Kept Tryd.prog we27 := keptQ (by kernel_rfl) (by kernel_rfl) (by kernel_rfl)
end Go.Proofs.YtihdlpeghlhnoaaDoor.Code
