/-
  The compiled functions of this seat, and that each is what the compiler gives. Written by a program of ours.
-/
import Derived.Test.YtngoldipfgfecaaCode1
import Derived.Test.YtngoldipfgfecaaCode2
import Derived.Test.YtngoldipfgfecaaProg
import Derived.KernelRfl
set_option linter.all false
namespace Go.Proofs.Ytngoldipfgfecaa.Code
open Go Go.Ab
def table : List (FuncId × AFun) := [(4, c4), (8, c8), (10, c10), (12, c12), (13, c13), (14, c14), (15, c15), (16, c16), (17, c17), (18, c18), (19, c19), (20, c20), (24, c24), (29, c29), (30, c30), (32, c32), (33, c33), (36, c36), (37, c37), (41, c41), (42, c42), (43, c43), (44, c44), (45, c45), (46, c46), (47, c47), (48, c48), (49, c49), (50, c50), (53, c53), (55, c55), (57, c57), (59, c59), (61, c61), (62, c62), (63, c63), (65, c65), (66, c66), (67, c67), (68, c68), (69, c69), (71, c71), (72, c72), (74, c74), (75, c75), (76, c76), (77, c77), (78, c78), (79, c79), (83, c83), (84, c84), (85, c85), (86, c86), (87, c87), (88, c88), (89, c89), (92, c92), (93, c93), (94, c94), (96, c96), (97, c97)]
def env : Env := { funs := lookF table, known := fun _ _ _ => none }
theorem tableOK : ∀ p ∈ table, FunOK Try.prog p := by
  unfold table
  simp only [List.forall_mem_cons]
  exact ⟨ok4, ok8, ok10, ok12, ok13, ok14, ok15, ok16, ok17, ok18, ok19, ok20, ok24, ok29, ok30, ok32, ok33, ok36, ok37, ok41, ok42, ok43, ok44, ok45, ok46, ok47, ok48, ok49, ok50, ok53, ok55, ok57, ok59, ok61, ok62, ok63, ok65, ok66, ok67, ok68, ok69, ok71, ok72, ok74, ok75, ok76, ok77, ok78, ok79, ok83, ok84, ok85, ok86, ok87, ok88, ok89, ok92, ok93, ok94, ok96, ok97, by simp⟩
theorem mixed : Try.prog.follows .mixedOrders = true := by kernel_rfl
end Go.Proofs.Ytngoldipfgfecaa.Code
