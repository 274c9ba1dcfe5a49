/-
  Answers of calls, each computed once by the proved evaluator. Written by a program of ours.
-/
import Derived.Test.YtbkhffakhggdaaaDoorAbSame
import Derived.Test.YtbkhffakhggdaaaDoorCode
import Derived.Test.YtbkhffakhggdaaaDoorWorks
namespace Go.Proofs.YtbkhffakhggdaaaDoor.KnownEv
open Go Go.Ab
def e0 : FuncId × List AV × AV := (27, [(.int .i64 3)], (.tup [(.int .i64 3), (.int .i64 0)]))
theorem k0 : Kept Tryd.prog e0 := kept (env := { funs := Code.env.funs, known := knownT [] }) (funsOK rfl Code.tableOK) (knownT_ok rfl (fun _ h => by cases h)) Code.mixed (n := 200000) (by kernel_rfl) (by kernel_rfl) (by kernel_rfl)
def e1 : FuncId × List AV × AV := (21, [(.int .i64 3), .nils], (.tup [(.lst 1 false [(.int .i64 0), (.int .i64 1), (.int .i64 2)]), (.int .i64 0)]))
theorem k1 : Kept Tryd.prog e1 := kept (env := { funs := Code.env.funs, known := knownT [] }) (funsOK rfl Code.tableOK) (knownT_ok rfl (fun _ h => by cases h)) Code.mixed (n := 200000) (by kernel_rfl) (by kernel_rfl) (by kernel_rfl)
def e2 : FuncId × List AV × AV := (23, [(.int .i64 3), (.lst 1 true [(.int .i64 0)])], (.tup [(.lst 1 false [.nils, (.lst 1 false [(.int .i64 0)]), (.lst 1 false [(.int .i64 0), (.int .i64 1)]), (.lst 1 false [(.int .i64 0), (.int .i64 1), (.int .i64 2)])]), (.int .i64 0)]))
theorem k2 : Kept Tryd.prog e2 := kept (env := { funs := Code.env.funs, known := knownT [] }) (funsOK rfl Code.tableOK) (knownT_ok rfl (fun _ h => by cases h)) Code.mixed (n := 200000) (by kernel_rfl) (by kernel_rfl) (by kernel_rfl)
def e3 : FuncId × List AV × AV := (23, [(.int .i64 3), (.lst 1 true [(.int .i64 1)])], (.tup [(.lst 1 false [(.lst 1 false [(.int .i64 1)]), (.lst 1 false [(.int .i64 1), (.int .i64 2)])]), (.int .i64 0)]))
theorem k3 : Kept Tryd.prog e3 := kept (env := { funs := Code.env.funs, known := knownT [] }) (funsOK rfl Code.tableOK) (knownT_ok rfl (fun _ h => by cases h)) Code.mixed (n := 200000) (by kernel_rfl) (by kernel_rfl) (by kernel_rfl)
def e4 : FuncId × List AV × AV := (43, [], (.agg [(.int .i64 3), (.lst 1 true [(.lst 1 true [(.int .i64 0)]), (.lst 1 true [(.int .i64 1), (.int .i64 2)])])]))
theorem k4 : Kept Tryd.prog e4 := kept (env := { funs := Code.env.funs, known := knownT [] }) (funsOK rfl Code.tableOK) (knownT_ok rfl (fun _ h => by cases h)) Code.mixed (n := 200000) (by kernel_rfl) (by kernel_rfl) (by kernel_rfl)
def e5 : FuncId × List AV × AV := (39, [(.agg [(.int .i64 3), (.lst 1 true [(.lst 1 true [(.int .i64 0)]), (.lst 1 true [(.int .i64 1), (.int .i64 2)])])])], (.tup [(.int .i64 4), (.int .i64 0)]))
theorem k5 : Kept Tryd.prog e5 := kept (env := { funs := Code.env.funs, known := knownT [] }) (funsOK rfl Code.tableOK) (knownT_ok rfl (fun _ h => by cases h)) Code.mixed (n := 200000) (by kernel_rfl) (by kernel_rfl) (by kernel_rfl)
def e6 : FuncId × List AV × AV := (31, [(.int .i64 4), (.lst 1 true [(.int .i64 0), (.int .i64 3)])], (.tup [(.int .i64 3), (.int .i64 0)]))
theorem k6 : Kept Tryd.prog e6 := kept (env := { funs := Code.env.funs, known := knownT [] }) (funsOK rfl Code.tableOK) (knownT_ok rfl (fun _ h => by cases h)) Code.mixed (n := 200000) (by kernel_rfl) (by kernel_rfl) (by kernel_rfl)
def e7 : FuncId × List AV × AV := (35, [(.int .i64 4), (.int .i64 2), (.int .i64 3)], (.tup [(.int .i64 3), (.int .i64 0)]))
theorem k7 : Kept Tryd.prog e7 := kept (env := { funs := Code.env.funs, known := knownT [] }) (funsOK rfl Code.tableOK) (knownT_ok rfl (fun _ h => by cases h)) Code.mixed (n := 200000) (by kernel_rfl) (by kernel_rfl) (by kernel_rfl)
def e8 : FuncId × List AV × AV := (35, [(.int .i64 3), (.int .i64 0), (.int .i64 1)], (.tup [(.int .i64 0), (.int .i64 0)]))
theorem k8 : Kept Tryd.prog e8 := kept (env := { funs := Code.env.funs, known := knownT [] }) (funsOK rfl Code.tableOK) (knownT_ok rfl (fun _ h => by cases h)) Code.mixed (n := 200000) (by kernel_rfl) (by kernel_rfl) (by kernel_rfl)
def e9 : FuncId × List AV × AV := (44, [(.lst 1 true [(.int .i64 0), (.int .i64 1), (.int .i64 2)])], (.lst 1 true [(.int .i64 0), (.int .i64 1), (.int .i64 2)]))
theorem k9 : Kept Tryd.prog e9 := kept (env := { funs := Code.env.funs, known := knownT [] }) (funsOK rfl Code.tableOK) (knownT_ok rfl (fun _ h => by cases h)) Code.mixed (n := 200000) (by kernel_rfl) (by kernel_rfl) (by kernel_rfl)
def e10 : FuncId × List AV × AV := (29, [(.lst 1 false [(.int .i64 0), (.int .i64 1), (.int .i64 2)]), (.lst 1 true [(.int .i64 0), (.int .i64 1), (.int .i64 2)])], (.bool true))
theorem k10 : Kept Tryd.prog e10 := kept (env := { funs := Code.env.funs, known := knownT [] }) (funsOK rfl Code.tableOK) (knownT_ok rfl (fun _ h => by cases h)) Code.mixed (n := 200000) (by kernel_rfl) (by kernel_rfl) (by kernel_rfl)
def e11 : FuncId × List AV × AV := (44, [(.lst 1 true [(.int .i64 0)])], (.lst 1 true [(.int .i64 0)]))
theorem k11 : Kept Tryd.prog e11 := kept (env := { funs := Code.env.funs, known := knownT [] }) (funsOK rfl Code.tableOK) (knownT_ok rfl (fun _ h => by cases h)) Code.mixed (n := 200000) (by kernel_rfl) (by kernel_rfl) (by kernel_rfl)
def e12 : FuncId × List AV × AV := (44, [(.lst 1 true [(.int .i64 0), (.int .i64 1)])], (.lst 1 true [(.int .i64 0), (.int .i64 1)]))
theorem k12 : Kept Tryd.prog e12 := kept (env := { funs := Code.env.funs, known := knownT [] }) (funsOK rfl Code.tableOK) (knownT_ok rfl (fun _ h => by cases h)) Code.mixed (n := 200000) (by kernel_rfl) (by kernel_rfl) (by kernel_rfl)
def e13 : FuncId × List AV × AV := (45, [(.lst 1 true [.nils, (.lst 1 true [(.int .i64 0)]), (.lst 1 true [(.int .i64 0), (.int .i64 1)]), (.lst 1 true [(.int .i64 0), (.int .i64 1), (.int .i64 2)])])], (.lst 1 true [.nils, (.lst 1 true [(.int .i64 0)]), (.lst 1 true [(.int .i64 0), (.int .i64 1)]), (.lst 1 true [(.int .i64 0), (.int .i64 1), (.int .i64 2)])]))
theorem k13 : Kept Tryd.prog e13 := kept (env := { funs := Code.env.funs, known := knownT [] }) (funsOK rfl Code.tableOK) (knownT_ok rfl (fun _ h => by cases h)) Code.mixed (n := 200000) (by kernel_rfl) (by kernel_rfl) (by kernel_rfl)
def e14 : FuncId × List AV × AV := (20, [(.lst 1 false [.nils, (.lst 1 false [(.int .i64 0)]), (.lst 1 false [(.int .i64 0), (.int .i64 1)]), (.lst 1 false [(.int .i64 0), (.int .i64 1), (.int .i64 2)])]), (.lst 1 true [.nils, (.lst 1 true [(.int .i64 0)]), (.lst 1 true [(.int .i64 0), (.int .i64 1)]), (.lst 1 true [(.int .i64 0), (.int .i64 1), (.int .i64 2)])])], (.bool true))
theorem k14 : Kept Tryd.prog e14 := kept (env := { funs := Code.env.funs, known := knownT [] }) (funsOK rfl Code.tableOK) (knownT_ok rfl (fun _ h => by cases h)) Code.mixed (n := 200000) (by kernel_rfl) (by kernel_rfl) (by kernel_rfl)
def e15 : FuncId × List AV × AV := (44, [(.lst 1 true [(.int .i64 1)])], (.lst 1 true [(.int .i64 1)]))
theorem k15 : Kept Tryd.prog e15 := kept (env := { funs := Code.env.funs, known := knownT [] }) (funsOK rfl Code.tableOK) (knownT_ok rfl (fun _ h => by cases h)) Code.mixed (n := 200000) (by kernel_rfl) (by kernel_rfl) (by kernel_rfl)
def e16 : FuncId × List AV × AV := (44, [(.lst 1 true [(.int .i64 1), (.int .i64 2)])], (.lst 1 true [(.int .i64 1), (.int .i64 2)]))
theorem k16 : Kept Tryd.prog e16 := kept (env := { funs := Code.env.funs, known := knownT [] }) (funsOK rfl Code.tableOK) (knownT_ok rfl (fun _ h => by cases h)) Code.mixed (n := 200000) (by kernel_rfl) (by kernel_rfl) (by kernel_rfl)
def e17 : FuncId × List AV × AV := (45, [(.lst 1 true [(.lst 1 true [(.int .i64 1)]), (.lst 1 true [(.int .i64 1), (.int .i64 2)])])], (.lst 1 true [(.lst 1 true [(.int .i64 1)]), (.lst 1 true [(.int .i64 1), (.int .i64 2)])]))
theorem k17 : Kept Tryd.prog e17 := kept (env := { funs := Code.env.funs, known := knownT [] }) (funsOK rfl Code.tableOK) (knownT_ok rfl (fun _ h => by cases h)) Code.mixed (n := 200000) (by kernel_rfl) (by kernel_rfl) (by kernel_rfl)
def e18 : FuncId × List AV × AV := (20, [(.lst 1 false [(.lst 1 false [(.int .i64 1)]), (.lst 1 false [(.int .i64 1), (.int .i64 2)])]), (.lst 1 true [(.lst 1 true [(.int .i64 1)]), (.lst 1 true [(.int .i64 1), (.int .i64 2)])])], (.bool true))
theorem k18 : Kept Tryd.prog e18 := kept (env := { funs := Code.env.funs, known := knownT [] }) (funsOK rfl Code.tableOK) (knownT_ok rfl (fun _ h => by cases h)) Code.mixed (n := 200000) (by kernel_rfl) (by kernel_rfl) (by kernel_rfl)
def e19 : FuncId × List AV × AV := (46, [(.int .i64 0), .nils], (.agg [(.int .i64 0), .nils]))
theorem k19 : Kept Tryd.prog e19 := kept (env := { funs := Code.env.funs, known := knownT [] }) (funsOK rfl Code.tableOK) (knownT_ok rfl (fun _ h => by cases h)) Code.mixed (n := 200000) (by kernel_rfl) (by kernel_rfl) (by kernel_rfl)
def e20 : FuncId × List AV × AV := (41, [(.agg [(.int .i64 0), .nils])], (.int .i64 1))
theorem k20 : Kept Tryd.prog e20 := kept (env := { funs := Code.env.funs, known := knownT [] }) (funsOK rfl Code.tableOK) (knownT_ok rfl (fun _ h => by cases h)) Code.mixed (n := 200000) (by kernel_rfl) (by kernel_rfl) (by kernel_rfl)
def e21 : FuncId × List AV × AV := (44, [(.lst 1 true [(.int .i64 2)])], (.lst 1 true [(.int .i64 2)]))
theorem k21 : Kept Tryd.prog e21 := kept (env := { funs := Code.env.funs, known := knownT [] }) (funsOK rfl Code.tableOK) (knownT_ok rfl (fun _ h => by cases h)) Code.mixed (n := 200000) (by kernel_rfl) (by kernel_rfl) (by kernel_rfl)
def e22 : FuncId × List AV × AV := (46, [(.int .i64 2), (.lst 1 true [(.lst 1 true [(.int .i64 2)])])], (.agg [(.int .i64 2), (.lst 1 true [(.lst 1 true [(.int .i64 2)])])]))
theorem k22 : Kept Tryd.prog e22 := kept (env := { funs := Code.env.funs, known := knownT [] }) (funsOK rfl Code.tableOK) (knownT_ok rfl (fun _ h => by cases h)) Code.mixed (n := 200000) (by kernel_rfl) (by kernel_rfl) (by kernel_rfl)
def e23 : FuncId × List AV × AV := (41, [(.agg [(.int .i64 2), (.lst 1 true [(.lst 1 true [(.int .i64 2)])])])], (.int .i64 2))
theorem k23 : Kept Tryd.prog e23 := kept (env := { funs := Code.env.funs, known := knownT [] }) (funsOK rfl Code.tableOK) (knownT_ok rfl (fun _ h => by cases h)) Code.mixed (n := 200000) (by kernel_rfl) (by kernel_rfl) (by kernel_rfl)
def e24 : FuncId × List AV × AV := (44, [(.lst 1 true [(.int .i64 1), (.int .i64 0)])], (.lst 1 true [(.int .i64 1), (.int .i64 0)]))
theorem k24 : Kept Tryd.prog e24 := kept (env := { funs := Code.env.funs, known := knownT [] }) (funsOK rfl Code.tableOK) (knownT_ok rfl (fun _ h => by cases h)) Code.mixed (n := 200000) (by kernel_rfl) (by kernel_rfl) (by kernel_rfl)
def e25 : FuncId × List AV × AV := (46, [(.int .i64 2), (.lst 1 true [(.lst 1 true [(.int .i64 1), (.int .i64 0)])])], (.agg [(.int .i64 2), (.lst 1 true [(.lst 1 true [(.int .i64 1), (.int .i64 0)])])]))
theorem k25 : Kept Tryd.prog e25 := kept (env := { funs := Code.env.funs, known := knownT [] }) (funsOK rfl Code.tableOK) (knownT_ok rfl (fun _ h => by cases h)) Code.mixed (n := 200000) (by kernel_rfl) (by kernel_rfl) (by kernel_rfl)
def e26 : FuncId × List AV × AV := (41, [(.agg [(.int .i64 2), (.lst 1 true [(.lst 1 true [(.int .i64 1), (.int .i64 0)])])])], (.int .i64 7))
theorem k26 : Kept Tryd.prog e26 := kept (env := { funs := Code.env.funs, known := knownT [] }) (funsOK rfl Code.tableOK) (knownT_ok rfl (fun _ h => by cases h)) Code.mixed (n := 200000) (by kernel_rfl) (by kernel_rfl) (by kernel_rfl)
def e27 : FuncId × List AV × AV := (46, [(.int .i64 2), (.lst 1 true [.nils, .nils])], (.agg [(.int .i64 2), (.lst 1 true [.nils, .nils])]))
theorem k27 : Kept Tryd.prog e27 := kept (env := { funs := Code.env.funs, known := knownT [] }) (funsOK rfl Code.tableOK) (knownT_ok rfl (fun _ h => by cases h)) Code.mixed (n := 200000) (by kernel_rfl) (by kernel_rfl) (by kernel_rfl)
def e28 : FuncId × List AV × AV := (41, [(.agg [(.int .i64 2), (.lst 1 true [.nils, .nils])])], (.int .i64 6))
theorem k28 : Kept Tryd.prog e28 := kept (env := { funs := Code.env.funs, known := knownT [] }) (funsOK rfl Code.tableOK) (knownT_ok rfl (fun _ h => by cases h)) Code.mixed (n := 200000) (by kernel_rfl) (by kernel_rfl) (by kernel_rfl)
def table : List (FuncId × List AV × AV) := [e0, e1, e2, e3, e4, e5, e6, e7, e8, e9, e10, e11, e12, e13, e14, e15, e16, e17, e18, e19, e20, e21, e22, e23, e24, e25, e26, e27, e28, Works.top]
theorem tableOK : ∀ p ∈ table, Kept Tryd.prog p := by
  unfold table
  simp only [List.forall_mem_cons]
  exact ⟨k0, k1, k2, k3, k4, k5, k6, k7, k8, k9, k10, k11, k12, k13, k14, k15, k16, k17, k18, k19, k20, k21, k22, k23, k24, k25, k26, k27, k28, Works.kept, by simp⟩
def top : FuncId × List AV × AV := (7, [], (.bool true))
theorem kept : Kept Tryd.prog top := Ab.kept (env := { funs := Code.env.funs, known := knownT table }) (funsOK rfl Code.tableOK) (knownT_ok rfl tableOK) Code.mixed (n := 200000) (by kernel_rfl) (by kernel_rfl) (by kernel_rfl)
theorem found : acall { funs := Code.env.funs, known := knownT table } 200000 7 [] [] = some ((.bool true), []) := by kernel_rfl
end Go.Proofs.YtbkhffakhggdaaaDoor.KnownEv
