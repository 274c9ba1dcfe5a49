/-
  Answers of calls, each computed by the proved evaluator.
-/
import Derived.Test.YtihdlpeghlhnoaaDoorLib
set_option linter.all false
section
namespace Go.Proofs.YtihdlpeghlhnoaaDoor.Code
open Go Go.Ab
def we6 : FuncId × List AV × AV := (30, [(.lst 2 false [(.agg [(.int .i64 0), (.int .i64 0)]), (.agg [(.int .i64 4), (.int .i64 0)]), (.agg [(.int .i64 4), (.int .i64 2)]), (.agg [(.int .i64 2), (.int .i64 2)]), (.agg [(.int .i64 2), (.int .i64 4)]), (.agg [(.int .i64 0), (.int .i64 4)])])], (.tup [(.lst 1 false [(.int .i64 1), (.int .i64 2), (.int .i64 4), (.int .i64 5)]), (.int .i64 0)]))
theorem wk6 : Kept Tryd.prog we6 := keptQ (by kernel_rfl) (by kernel_rfl) (by kernel_rfl)
def we10 : FuncId × List AV × AV := (19, [(.lst 2 false [(.agg [(.int .i64 1), (.int .i64 1)]), (.agg [(.int .i64 2), (.int .i64 2)]), (.agg [(.int .i64 0), (.int .i64 2)]), (.agg [(.int .i64 0), (.int .i64 0)]), (.agg [(.int .i64 2), (.int .i64 0)]), (.agg [(.int .i64 1), (.int .i64 0)])])], (.tup [(.lst 2 false [(.agg [(.int .i64 0), (.int .i64 0)]), (.agg [(.int .i64 2), (.int .i64 0)]), (.agg [(.int .i64 2), (.int .i64 2)]), (.agg [(.int .i64 0), (.int .i64 2)])]), (.int .i64 0)]))
theorem wk10 : Kept Tryd.prog we10 := keptQ (by kernel_rfl) (by kernel_rfl) (by kernel_rfl)
def we14 : FuncId × List AV × AV := (6, [(.lst 2 false [(.agg [(.int .i64 0), (.int .i64 0)]), (.agg [(.int .i64 2), (.int .i64 2)]), (.agg [(.int .i64 2), (.int .i64 0)]), (.agg [(.int .i64 0), (.int .i64 2)])])], (.int .i64 5))
theorem wk14 : Kept Tryd.prog we14 := keptQ (by kernel_rfl) (by kernel_rfl) (by kernel_rfl)
def we18 : FuncId × List AV × AV := (12, [(.lst 2 false [(.agg [(.int .i64 0), (.int .i64 0)]), (.agg [(.int .i64 4), (.int .i64 0)]), (.agg [(.int .i64 4), (.int .i64 2)]), (.agg [(.int .i64 2), (.int .i64 2)]), (.agg [(.int .i64 2), (.int .i64 4)]), (.agg [(.int .i64 0), (.int .i64 4)])]), (.agg [(.int .i64 13), (.int .i64 0)])], (.tup [(.int .i64 0), (.int .i64 1)]))
theorem wk18 : Kept Tryd.prog we18 := keptQ (by kernel_rfl) (by kernel_rfl) (by kernel_rfl)
def we22 : FuncId × List AV × AV := (18, [(.lst 2 false [(.agg [(.int .i64 0), (.int .i64 0)]), (.agg [(.int .i64 2), (.int .i64 0)]), (.agg [(.int .i64 2), (.int .i64 2)]), (.agg [(.int .i64 0), (.int .i64 2)])]), (.int .i64 1), (.bool true)], (.tup [(.lst 2 false [(.agg [(.int .i64 0), (.int .i64 0)]), (.agg [(.int .i64 2), (.int .i64 2)]), (.agg [(.int .i64 2), (.int .i64 4)]), (.agg [(.int .i64 0), (.int .i64 2)])]), (.int .i64 0)]))
theorem wk22 : Kept Tryd.prog we22 := keptQ (by kernel_rfl) (by kernel_rfl) (by kernel_rfl)
def we26 : FuncId × List AV × AV := (6, [.nils], (.int .i64 4))
theorem wk26 : Kept Tryd.prog we26 := keptQ (by kernel_rfl) (by kernel_rfl) (by kernel_rfl)
end Go.Proofs.YtihdlpeghlhnoaaDoor.Code
end

section
namespace Go.Proofs.YtihdlpeghlhnoaaDoor.Code
open Go Go.Ab
def we3 : FuncId × List AV × AV := (12, [(.lst 2 false [(.agg [(.int .i64 0), (.int .i64 0)]), (.agg [(.int .i64 4), (.int .i64 0)]), (.agg [(.int .i64 4), (.int .i64 2)]), (.agg [(.int .i64 2), (.int .i64 2)]), (.agg [(.int .i64 2), (.int .i64 4)]), (.agg [(.int .i64 0), (.int .i64 4)])]), (.agg [(.int .i64 2), (.int .i64 3)])], (.tup [(.int .i64 1), (.int .i64 0)]))
theorem wk3 : Kept Tryd.prog we3 := keptQ (by kernel_rfl) (by kernel_rfl) (by kernel_rfl)
def we7 : FuncId × List AV × AV := (17, [(.lst 2 false [(.agg [(.int .i64 0), (.int .i64 0)]), (.agg [(.int .i64 4), (.int .i64 0)]), (.agg [(.int .i64 4), (.int .i64 2)]), (.agg [(.int .i64 2), (.int .i64 2)]), (.agg [(.int .i64 2), (.int .i64 4)]), (.agg [(.int .i64 0), (.int .i64 4)])])], (.tup [(.lst 6 false [(.agg [(.int .i64 0), (.int .i64 0), (.int .i64 4), (.int .i64 0), (.int .i64 4), (.int .i64 2)]), (.agg [(.int .i64 0), (.int .i64 0), (.int .i64 4), (.int .i64 2), (.int .i64 2), (.int .i64 2)]), (.agg [(.int .i64 0), (.int .i64 4), (.int .i64 0), (.int .i64 0), (.int .i64 2), (.int .i64 2)]), (.agg [(.int .i64 2), (.int .i64 2), (.int .i64 2), (.int .i64 4), (.int .i64 0), (.int .i64 4)])]), (.int .i64 0)]))
theorem wk7 : Kept Tryd.prog we7 := keptQ (by kernel_rfl) (by kernel_rfl) (by kernel_rfl)
def we11 : FuncId × List AV × AV := (31, [(.lst 2 false [(.agg [(.int .i64 0), (.int .i64 0)]), (.agg [(.int .i64 3), (.int .i64 1)]), (.agg [(.int .i64 2), (.int .i64 1)])])], (.tup [(.bool true), (.int .i64 0)]))
theorem wk11 : Kept Tryd.prog we11 := keptQ (by kernel_rfl) (by kernel_rfl) (by kernel_rfl)
def we15 : FuncId × List AV × AV := (10, [(.lst 2 false [(.agg [(.int .i64 0), (.int .i64 0)]), (.agg [(.int .i64 2), (.int .i64 0)]), (.agg [(.int .i64 2), (.int .i64 2)]), (.agg [(.int .i64 0), (.int .i64 2)])])], (.tup [(.int .i64 8), (.int .i64 1), (.int .i64 0)]))
theorem wk15 : Kept Tryd.prog we15 := keptQ (by kernel_rfl) (by kernel_rfl) (by kernel_rfl)
def we19 : FuncId × List AV × AV := (14, [(.lst 2 false [(.agg [(.int .i64 0), (.int .i64 0)]), (.agg [(.int .i64 2), (.int .i64 0)]), (.agg [(.int .i64 2), (.int .i64 2)]), (.agg [(.int .i64 0), (.int .i64 2)])])], (.tup [(.lst 2 false [(.agg [(.int .i64 0), (.int .i64 2)]), (.agg [(.int .i64 1), (.int .i64 3)])]), (.int .i64 0)]))
theorem wk19 : Kept Tryd.prog we19 := keptQ (by kernel_rfl) (by kernel_rfl) (by kernel_rfl)
def we23 : FuncId × List AV × AV := (18, [(.lst 2 false [(.agg [(.int .i64 0), (.int .i64 0)]), (.agg [(.int .i64 2), (.int .i64 0)]), (.agg [(.int .i64 2), (.int .i64 2)]), (.agg [(.int .i64 0), (.int .i64 2)])]), (.int .i64 4), (.bool false)], (.tup [.nils, (.int .i64 1)]))
theorem wk23 : Kept Tryd.prog we23 := keptQ (by kernel_rfl) (by kernel_rfl) (by kernel_rfl)
def we27 : FuncId × List AV × AV := (6, [(.lst 2 false [(.agg [(.int .i64 0), (.int .i64 0)]), (.agg [(.int .i64 1), (.int .i64 0)]), (.agg [(.int .i64 0), (.int .i64 0)])])], (.int .i64 6))
theorem wk27 : Kept Tryd.prog we27 := keptQ (by kernel_rfl) (by kernel_rfl) (by kernel_rfl)
end Go.Proofs.YtihdlpeghlhnoaaDoor.Code
end

