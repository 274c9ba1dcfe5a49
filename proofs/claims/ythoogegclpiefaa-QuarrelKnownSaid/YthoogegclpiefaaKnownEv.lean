/-
  Answers of calls, each computed once by the proved evaluator. Written by a program of ours.
-/
import Derived.Test.YthoogegclpiefaaAbSame
import Derived.Test.YthoogegclpiefaaCode
import Derived.Test.YthoogegclpiefaaWorks
namespace Go.Proofs.Ythoogegclpiefaa.KnownEv
open Go Go.Ab
def e0 : FuncId × List AV × AV := (51, [], (.agg [(.int .i64 5), (.lst 2 false [(.agg [(.int .i64 0), (.int .i64 1)]), (.agg [(.int .i64 1), (.int .i64 2)]), (.agg [(.int .i64 2), (.int .i64 3)]), (.agg [(.int .i64 3), (.int .i64 4)]), (.agg [(.int .i64 0), (.int .i64 4)])])]))
theorem k0 : Kept Try.prog e0 := kept (env := { funs := Code.env.funs, known := knownT [] }) (funsOK rfl Code.tableOK) (knownT_ok rfl (fun _ h => by cases h)) Code.mixed (n := 200000) (by kernel_rfl) (by kernel_rfl) (by kernel_rfl)
def e1 : FuncId × List AV × AV := (43, [(.agg [(.int .i64 5), (.lst 2 false [(.agg [(.int .i64 0), (.int .i64 1)]), (.agg [(.int .i64 1), (.int .i64 2)]), (.agg [(.int .i64 2), (.int .i64 3)]), (.agg [(.int .i64 3), (.int .i64 4)]), (.agg [(.int .i64 0), (.int .i64 4)])])]), (.int .i64 3)], (.tup [(.int .i64 0), (.int .i64 0)]))
theorem k1 : Kept Try.prog e1 := kept (env := { funs := Code.env.funs, known := knownT [] }) (funsOK rfl Code.tableOK) (knownT_ok rfl (fun _ h => by cases h)) Code.mixed (n := 200000) (by kernel_rfl) (by kernel_rfl) (by kernel_rfl)
def e2 : FuncId × List AV × AV := (52, [], (.agg [(.int .i64 4), (.lst 2 false [(.agg [(.int .i64 0), (.int .i64 1)]), (.agg [(.int .i64 0), (.int .i64 3)]), (.agg [(.int .i64 1), (.int .i64 2)]), (.agg [(.int .i64 2), (.int .i64 3)])])]))
theorem k2 : Kept Try.prog e2 := kept (env := { funs := Code.env.funs, known := knownT [] }) (funsOK rfl Code.tableOK) (knownT_ok rfl (fun _ h => by cases h)) Code.mixed (n := 200000) (by kernel_rfl) (by kernel_rfl) (by kernel_rfl)
def e3 : FuncId × List AV × AV := (16, [(.agg [(.int .i64 4), (.lst 2 false [(.agg [(.int .i64 0), (.int .i64 1)]), (.agg [(.int .i64 0), (.int .i64 3)]), (.agg [(.int .i64 1), (.int .i64 2)]), (.agg [(.int .i64 2), (.int .i64 3)])])])], (.tup [(.lst 1 false [(.int .i64 0), (.int .i64 1), (.int .i64 0), (.int .i64 1)]), (.int .i64 0)]))
theorem k3 : Kept Try.prog e3 := kept (env := { funs := Code.env.funs, known := knownT [] }) (funsOK rfl Code.tableOK) (knownT_ok rfl (fun _ h => by cases h)) Code.mixed (n := 200000) (by kernel_rfl) (by kernel_rfl) (by kernel_rfl)
def e4 : FuncId × List AV × AV := (31, [(.int .i64 5), (.int .i64 2)], (.tup [(.int .i64 6), (.int .i64 0)]))
theorem k4 : Kept Try.prog e4 := kept (env := { funs := Code.env.funs, known := knownT [] }) (funsOK rfl Code.tableOK) (knownT_ok rfl (fun _ h => by cases h)) Code.mixed (n := 200000) (by kernel_rfl) (by kernel_rfl) (by kernel_rfl)
def e5 : FuncId × List AV × AV := (31, [(.int .i64 4), (.int .i64 8)], (.tup [(.int .i64 6), (.int .i64 0)]))
theorem k5 : Kept Try.prog e5 := kept (env := { funs := Code.env.funs, known := knownT [] }) (funsOK rfl Code.tableOK) (knownT_ok rfl (fun _ h => by cases h)) Code.mixed (n := 200000) (by kernel_rfl) (by kernel_rfl) (by kernel_rfl)
def e6 : FuncId × List AV × AV := (20, [(.agg [(.int .i64 5), (.lst 2 false [(.agg [(.int .i64 0), (.int .i64 1)]), (.agg [(.int .i64 1), (.int .i64 2)]), (.agg [(.int .i64 2), (.int .i64 3)]), (.agg [(.int .i64 3), (.int .i64 4)]), (.agg [(.int .i64 0), (.int .i64 4)])])])], (.tup [.nils, (.int .i64 13)]))
theorem k6 : Kept Try.prog e6 := kept (env := { funs := Code.env.funs, known := knownT [] }) (funsOK rfl Code.tableOK) (knownT_ok rfl (fun _ h => by cases h)) Code.mixed (n := 200000) (by kernel_rfl) (by kernel_rfl) (by kernel_rfl)
def e7 : FuncId × List AV × AV := (31, [(.int .i64 9), (.int .i64 2)], (.tup [(.int .i64 0), (.int .i64 1)]))
theorem k7 : Kept Try.prog e7 := kept (env := { funs := Code.env.funs, known := knownT [] }) (funsOK rfl Code.tableOK) (knownT_ok rfl (fun _ h => by cases h)) Code.mixed (n := 200000) (by kernel_rfl) (by kernel_rfl) (by kernel_rfl)
def e8 : FuncId × List AV × AV := (43, [(.agg [(.int .i64 5), (.lst 2 false [(.agg [(.int .i64 0), (.int .i64 1)]), (.agg [(.int .i64 1), (.int .i64 2)]), (.agg [(.int .i64 2), (.int .i64 3)]), (.agg [(.int .i64 3), (.int .i64 4)]), (.agg [(.int .i64 0), (.int .i64 4)])])]), (.int .i64 9)], (.tup [(.int .i64 0), (.int .i64 1)]))
theorem k8 : Kept Try.prog e8 := kept (env := { funs := Code.env.funs, known := knownT [] }) (funsOK rfl Code.tableOK) (knownT_ok rfl (fun _ h => by cases h)) Code.mixed (n := 200000) (by kernel_rfl) (by kernel_rfl) (by kernel_rfl)
def e9 : FuncId × List AV × AV := (53, [(.lst 1 true [(.int .i64 0), (.int .i64 1), (.int .i64 0), (.int .i64 1)])], (.lst 1 true [(.int .i64 0), (.int .i64 1), (.int .i64 0), (.int .i64 1)]))
theorem k9 : Kept Try.prog e9 := kept (env := { funs := Code.env.funs, known := knownT [] }) (funsOK rfl Code.tableOK) (knownT_ok rfl (fun _ h => by cases h)) Code.mixed (n := 200000) (by kernel_rfl) (by kernel_rfl) (by kernel_rfl)
def e10 : FuncId × List AV × AV := (22, [(.lst 1 false [(.int .i64 0), (.int .i64 1), (.int .i64 0), (.int .i64 1)]), (.lst 1 true [(.int .i64 0), (.int .i64 1), (.int .i64 0), (.int .i64 1)])], (.bool true))
theorem k10 : Kept Try.prog e10 := kept (env := { funs := Code.env.funs, known := knownT [] }) (funsOK rfl Code.tableOK) (knownT_ok rfl (fun _ h => by cases h)) Code.mixed (n := 200000) (by kernel_rfl) (by kernel_rfl) (by kernel_rfl)
def e11 : FuncId × List AV × AV := (54, [(.int .i64 0), .nils], (.agg [(.int .i64 0), .nils]))
theorem k11 : Kept Try.prog e11 := kept (env := { funs := Code.env.funs, known := knownT [] }) (funsOK rfl Code.tableOK) (knownT_ok rfl (fun _ h => by cases h)) Code.mixed (n := 200000) (by kernel_rfl) (by kernel_rfl) (by kernel_rfl)
def e12 : FuncId × List AV × AV := (50, [(.agg [(.int .i64 0), .nils])], (.int .i64 1))
theorem k12 : Kept Try.prog e12 := kept (env := { funs := Code.env.funs, known := knownT [] }) (funsOK rfl Code.tableOK) (knownT_ok rfl (fun _ h => by cases h)) Code.mixed (n := 200000) (by kernel_rfl) (by kernel_rfl) (by kernel_rfl)
def e13 : FuncId × List AV × AV := (54, [(.int .i64 2), (.lst 1 true [(.int .i64 0), (.int .i64 2)])], (.agg [(.int .i64 2), (.lst 2 false [(.agg [(.int .i64 0), (.int .i64 2)])])]))
theorem k13 : Kept Try.prog e13 := kept (env := { funs := Code.env.funs, known := knownT [] }) (funsOK rfl Code.tableOK) (knownT_ok rfl (fun _ h => by cases h)) Code.mixed (n := 200000) (by kernel_rfl) (by kernel_rfl) (by kernel_rfl)
def e14 : FuncId × List AV × AV := (50, [(.agg [(.int .i64 2), (.lst 2 false [(.agg [(.int .i64 0), (.int .i64 2)])])])], (.int .i64 2))
theorem k14 : Kept Try.prog e14 := kept (env := { funs := Code.env.funs, known := knownT [] }) (funsOK rfl Code.tableOK) (knownT_ok rfl (fun _ h => by cases h)) Code.mixed (n := 200000) (by kernel_rfl) (by kernel_rfl) (by kernel_rfl)
def e15 : FuncId × List AV × AV := (54, [(.int .i64 2), (.lst 1 true [(.int .i64 1), (.int .i64 0)])], (.agg [(.int .i64 2), (.lst 2 false [(.agg [(.int .i64 1), (.int .i64 0)])])]))
theorem k15 : Kept Try.prog e15 := kept (env := { funs := Code.env.funs, known := knownT [] }) (funsOK rfl Code.tableOK) (knownT_ok rfl (fun _ h => by cases h)) Code.mixed (n := 200000) (by kernel_rfl) (by kernel_rfl) (by kernel_rfl)
def e16 : FuncId × List AV × AV := (50, [(.agg [(.int .i64 2), (.lst 2 false [(.agg [(.int .i64 1), (.int .i64 0)])])])], (.int .i64 7))
theorem k16 : Kept Try.prog e16 := kept (env := { funs := Code.env.funs, known := knownT [] }) (funsOK rfl Code.tableOK) (knownT_ok rfl (fun _ h => by cases h)) Code.mixed (n := 200000) (by kernel_rfl) (by kernel_rfl) (by kernel_rfl)
def e17 : FuncId × List AV × AV := (54, [(.int .i64 2), (.lst 1 true [(.int .i64 0), (.int .i64 1), (.int .i64 0), (.int .i64 1)])], (.agg [(.int .i64 2), (.lst 2 false [(.agg [(.int .i64 0), (.int .i64 1)]), (.agg [(.int .i64 0), (.int .i64 1)])])]))
theorem k17 : Kept Try.prog e17 := kept (env := { funs := Code.env.funs, known := knownT [] }) (funsOK rfl Code.tableOK) (knownT_ok rfl (fun _ h => by cases h)) Code.mixed (n := 200000) (by kernel_rfl) (by kernel_rfl) (by kernel_rfl)
def e18 : FuncId × List AV × AV := (50, [(.agg [(.int .i64 2), (.lst 2 false [(.agg [(.int .i64 0), (.int .i64 1)]), (.agg [(.int .i64 0), (.int .i64 1)])])])], (.int .i64 6))
theorem k18 : Kept Try.prog e18 := kept (env := { funs := Code.env.funs, known := knownT [] }) (funsOK rfl Code.tableOK) (knownT_ok rfl (fun _ h => by cases h)) Code.mixed (n := 200000) (by kernel_rfl) (by kernel_rfl) (by kernel_rfl)
def table : List (FuncId × List AV × AV) := [e0, e1, e2, e3, e4, e5, e6, e7, e8, e9, e10, e11, e12, e13, e14, e15, e16, e17, e18, Works.top]
theorem tableOK : ∀ p ∈ table, Kept Try.prog p := by
  unfold table
  simp only [List.forall_mem_cons]
  exact ⟨k0, k1, k2, k3, k4, k5, k6, k7, k8, k9, k10, k11, k12, k13, k14, k15, k16, k17, k18, Works.kept, by simp⟩
def top : FuncId × List AV × AV := (10, [], (.bool true))
theorem kept : Kept Try.prog top := Ab.kept (env := { funs := Code.env.funs, known := knownT table }) (funsOK rfl Code.tableOK) (knownT_ok rfl tableOK) Code.mixed (n := 200000) (by kernel_rfl) (by kernel_rfl) (by kernel_rfl)
theorem found : acall { funs := Code.env.funs, known := knownT table } 200000 10 [] [] = some ((.bool true), []) := by kernel_rfl
end Go.Proofs.Ythoogegclpiefaa.KnownEv
