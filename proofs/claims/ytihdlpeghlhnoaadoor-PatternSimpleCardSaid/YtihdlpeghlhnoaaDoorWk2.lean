/-
  Answers of calls, each computed by the proved evaluator. Written by a program of ours.
-/
import Derived.Test.YtihdlpeghlhnoaaDoorLib
set_option linter.all false
namespace Go.Proofs.YtihdlpeghlhnoaaDoor.Code
open Go Go.Ab
def we1 : FuncId × List AV × AV := (28, [(.lst 2 false [(.agg [(.int .i64 0), (.int .i64 0)]), (.agg [(.int .i64 4), (.int .i64 0)]), (.agg [(.int .i64 4), (.int .i64 2)]), (.agg [(.int .i64 2), (.int .i64 2)]), (.agg [(.int .i64 2), (.int .i64 4)]), (.agg [(.int .i64 0), (.int .i64 4)])])], (.tup [(.lst 2 false [(.agg [(.int .i64 0), (.int .i64 0)]), (.agg [(.int .i64 0), (.int .i64 1)]), (.agg [(.int .i64 0), (.int .i64 2)]), (.agg [(.int .i64 0), (.int .i64 3)]), (.agg [(.int .i64 0), (.int .i64 4)]), (.agg [(.int .i64 1), (.int .i64 0)]), (.agg [(.int .i64 1), (.int .i64 4)]), (.agg [(.int .i64 2), (.int .i64 0)]), (.agg [(.int .i64 2), (.int .i64 2)]), (.agg [(.int .i64 2), (.int .i64 3)]), (.agg [(.int .i64 2), (.int .i64 4)]), (.agg [(.int .i64 3), (.int .i64 0)]), (.agg [(.int .i64 3), (.int .i64 2)]), (.agg [(.int .i64 4), (.int .i64 0)]), (.agg [(.int .i64 4), (.int .i64 1)]), (.agg [(.int .i64 4), (.int .i64 2)])]), (.int .i64 0)]))
theorem wk1 : Kept Tryd.prog we1 := keptQ (by kernel_rfl) (by kernel_rfl) (by kernel_rfl)
def we5 : FuncId × List AV × AV := (15, [(.lst 2 false [(.agg [(.int .i64 0), (.int .i64 0)]), (.agg [(.int .i64 4), (.int .i64 0)]), (.agg [(.int .i64 4), (.int .i64 2)]), (.agg [(.int .i64 2), (.int .i64 2)]), (.agg [(.int .i64 2), (.int .i64 4)]), (.agg [(.int .i64 0), (.int .i64 4)])]), (.int .i64 3), (.int .i64 0)], (.tup [(.lst 2 false [(.agg [(.int .i64 2), (.int .i64 2)]), (.agg [(.int .i64 2), (.int .i64 4)]), (.agg [(.int .i64 0), (.int .i64 4)]), (.agg [(.int .i64 0), (.int .i64 0)])]), (.lst 2 false [(.agg [(.int .i64 0), (.int .i64 0)]), (.agg [(.int .i64 4), (.int .i64 0)]), (.agg [(.int .i64 4), (.int .i64 2)]), (.agg [(.int .i64 2), (.int .i64 2)])]), (.int .i64 0)]))
theorem wk5 : Kept Tryd.prog we5 := keptQ (by kernel_rfl) (by kernel_rfl) (by kernel_rfl)
def we9 : FuncId × List AV × AV := (18, [(.lst 2 false [(.agg [(.int .i64 0), (.int .i64 0)]), (.agg [(.int .i64 2), (.int .i64 0)]), (.agg [(.int .i64 2), (.int .i64 2)]), (.agg [(.int .i64 0), (.int .i64 2)])]), (.int .i64 1), (.bool false)], (.tup [(.lst 2 false [(.agg [(.int .i64 0), (.int .i64 0)]), (.agg [(.int .i64 2), (.int .i64 0)]), (.agg [(.int .i64 4), (.int .i64 2)]), (.agg [(.int .i64 2), (.int .i64 2)])]), (.int .i64 0)]))
theorem wk9 : Kept Tryd.prog we9 := keptQ (by kernel_rfl) (by kernel_rfl) (by kernel_rfl)
def we13 : FuncId × List AV × AV := (15, [(.lst 2 false [(.agg [(.int .i64 0), (.int .i64 0)]), (.agg [(.int .i64 4), (.int .i64 0)]), (.agg [(.int .i64 4), (.int .i64 2)]), (.agg [(.int .i64 2), (.int .i64 2)]), (.agg [(.int .i64 2), (.int .i64 4)]), (.agg [(.int .i64 0), (.int .i64 4)])]), (.int .i64 1), (.int .i64 4)], (.tup [.nils, .nils, (.int .i64 13)]))
theorem wk13 : Kept Tryd.prog we13 := keptQ (by kernel_rfl) (by kernel_rfl) (by kernel_rfl)
def we17 : FuncId × List AV × AV := (12, [(.lst 2 false [(.agg [(.int .i64 0), (.int .i64 0)]), (.agg [(.int .i64 4), (.int .i64 0)]), (.agg [(.int .i64 4), (.int .i64 2)]), (.agg [(.int .i64 2), (.int .i64 2)]), (.agg [(.int .i64 2), (.int .i64 4)]), (.agg [(.int .i64 0), (.int .i64 4)])]), (.agg [(.int .i64 3), (.int .i64 3)])], (.tup [(.int .i64 0), (.int .i64 0)]))
theorem wk17 : Kept Tryd.prog we17 := keptQ (by kernel_rfl) (by kernel_rfl) (by kernel_rfl)
def we21 : FuncId × List AV × AV := (16, [(.lst 2 false [(.agg [(.int .i64 0), (.int .i64 0)]), (.agg [(.int .i64 2), (.int .i64 0)]), (.agg [(.int .i64 2), (.int .i64 2)]), (.agg [(.int .i64 0), (.int .i64 2)])])], (.tup [(.int .i64 2), (.int .i64 0)]))
theorem wk21 : Kept Tryd.prog we21 := keptQ (by kernel_rfl) (by kernel_rfl) (by kernel_rfl)
def we25 : FuncId × List AV × AV := (6, [(.lst 2 false [(.agg [(.int .i64 0), (.int .i64 0)]), (.agg [(.int .i64 1), (.int .i64 1)]), (.agg [(.int .i64 2), (.int .i64 2)])])], (.int .i64 5))
theorem wk25 : Kept Tryd.prog we25 := keptQ (by kernel_rfl) (by kernel_rfl) (by kernel_rfl)
end Go.Proofs.YtihdlpeghlhnoaaDoor.Code
