/-
  The compiled functions of this seat, and that each is what the compiler gives. Written by a program of ours.
-/
import Derived.Test.YtngoldipfgfecaaDoorCode1
import Derived.Test.YtngoldipfgfecaaDoorCode2
import Derived.Test.YtngoldipfgfecaaDoorProg
import Derived.KernelRfl
set_option linter.all false
namespace Go.Proofs.YtngoldipfgfecaaDoor.Code
open Go Go.Ab
def table : List (FuncId × AFun) := [(3, c3), (4, c4), (7, c7), (8, c8), (9, c9), (10, c10), (11, c11), (12, c12), (13, c13), (14, c14), (15, c15), (16, c16), (17, c17), (18, c18), (19, c19), (25, c25), (31, c31), (32, c32), (33, c33), (34, c34), (35, c35), (36, c36), (37, c37), (38, c38), (39, c39), (40, c40), (41, c41), (42, c42), (43, c43), (44, c44), (45, c45), (46, c46), (47, c47), (48, c48), (49, c49), (53, c53), (54, c54), (55, c55), (67, c67), (68, c68), (69, c69), (70, c70), (71, c71), (72, c72), (75, c75), (82, c82), (83, c83), (84, c84), (85, c85), (86, c86), (94, c94), (95, c95)]
def env : Env := { funs := lookF table, known := fun _ _ _ => none }
theorem tableOK : ∀ p ∈ table, FunOK Tryd.prog p := by
  unfold table
  simp only [List.forall_mem_cons]
  exact ⟨ok3, ok4, ok7, ok8, ok9, ok10, ok11, ok12, ok13, ok14, ok15, ok16, ok17, ok18, ok19, ok25, ok31, ok32, ok33, ok34, ok35, ok36, ok37, ok38, ok39, ok40, ok41, ok42, ok43, ok44, ok45, ok46, ok47, ok48, ok49, ok53, ok54, ok55, ok67, ok68, ok69, ok70, ok71, ok72, ok75, ok82, ok83, ok84, ok85, ok86, ok94, ok95, by simp⟩
theorem mixed : Tryd.prog.follows .mixedOrders = true := by kernel_rfl
end Go.Proofs.YtngoldipfgfecaaDoor.Code
