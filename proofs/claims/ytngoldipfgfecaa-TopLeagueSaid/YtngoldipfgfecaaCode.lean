/-
  The compiled functions of this seat, and that each is what the compiler gives. Written by a program of ours.
-/
import Derived.Test.YtngoldipfgfecaaCode1
import Derived.Test.YtngoldipfgfecaaProg
import Derived.KernelRfl
set_option linter.all false
namespace Go.Proofs.Ytngoldipfgfecaa.Code
open Go Go.Ab
def table : List (FuncId × AFun) := [(3, c3), (6, c6), (7, c7), (8, c8), (9, c9), (10, c10), (11, c11), (12, c12), (13, c13), (19, c19), (30, c30), (31, c31), (32, c32), (33, c33), (34, c34), (35, c35), (36, c36), (37, c37), (38, c38), (39, c39), (40, c40), (55, c55), (63, c63), (64, c64), (65, c65), (66, c66), (67, c67), (68, c68), (69, c69), (70, c70), (71, c71), (72, c72), (73, c73), (83, c83), (86, c86), (87, c87), (88, c88), (89, c89), (90, c90), (91, c91), (93, c93), (94, c94), (95, c95), (98, c98)]
def env : Env := { funs := lookF table, known := fun _ _ _ => none }
theorem tableOK : ∀ p ∈ table, FunOK Try.prog p := by
  unfold table
  simp only [List.forall_mem_cons]
  exact ⟨ok3, ok6, ok7, ok8, ok9, ok10, ok11, ok12, ok13, ok19, ok30, ok31, ok32, ok33, ok34, ok35, ok36, ok37, ok38, ok39, ok40, ok55, ok63, ok64, ok65, ok66, ok67, ok68, ok69, ok70, ok71, ok72, ok73, ok83, ok86, ok87, ok88, ok89, ok90, ok91, ok93, ok94, ok95, ok98, by simp⟩
theorem mixed : Try.prog.follows .mixedOrders = true := by kernel_rfl
end Go.Proofs.Ytngoldipfgfecaa.Code
