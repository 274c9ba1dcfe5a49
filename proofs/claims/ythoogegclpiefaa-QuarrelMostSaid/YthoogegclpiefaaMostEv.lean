/-
  Part of the proofs about this chapter: contracts of functions and plain laws.
-/
import Derived.Test.YthoogegclpiefaaCall
import Derived.KernelRfl
namespace Go.Proofs.Ythoogegclpiefaa.MostEv
open Go Go.Ab
theorem m11 : acall Code.E 200000 5 [.int .i64 1, .int .i64 1] [] = some (.bool true, []) := by kernel_rfl
theorem m12 : acall Code.E 200000 5 [.int .i64 1, .int .i64 2] [] = some (.bool true, []) := by kernel_rfl
theorem m13 : acall Code.E 200000 5 [.int .i64 1, .int .i64 3] [] = some (.bool true, []) := by kernel_rfl
theorem m14 : acall Code.E 200000 5 [.int .i64 1, .int .i64 4] [] = some (.bool true, []) := by kernel_rfl
theorem m15 : acall Code.E 200000 5 [.int .i64 1, .int .i64 5] [] = some (.bool true, []) := by kernel_rfl
theorem m16 : acall Code.E 200000 5 [.int .i64 1, .int .i64 6] [] = some (.bool true, []) := by kernel_rfl
theorem m17 : acall Code.E 200000 5 [.int .i64 1, .int .i64 7] [] = some (.bool true, []) := by kernel_rfl
theorem m18 : acall Code.E 200000 5 [.int .i64 1, .int .i64 8] [] = some (.bool true, []) := by kernel_rfl
theorem m21 : acall Code.E 200000 5 [.int .i64 2, .int .i64 1] [] = some (.bool true, []) := by kernel_rfl
theorem m22 : acall Code.E 200000 5 [.int .i64 2, .int .i64 2] [] = some (.bool true, []) := by kernel_rfl
theorem m23 : acall Code.E 200000 5 [.int .i64 2, .int .i64 3] [] = some (.bool true, []) := by kernel_rfl
theorem m24 : acall Code.E 200000 5 [.int .i64 2, .int .i64 4] [] = some (.bool true, []) := by kernel_rfl
theorem m25 : acall Code.E 200000 5 [.int .i64 2, .int .i64 5] [] = some (.bool true, []) := by kernel_rfl
theorem m26 : acall Code.E 200000 5 [.int .i64 2, .int .i64 6] [] = some (.bool true, []) := by kernel_rfl
theorem m27 : acall Code.E 200000 5 [.int .i64 2, .int .i64 7] [] = some (.bool true, []) := by kernel_rfl
theorem m28 : acall Code.E 200000 5 [.int .i64 2, .int .i64 8] [] = some (.bool true, []) := by kernel_rfl
theorem m31 : acall Code.E 200000 5 [.int .i64 3, .int .i64 1] [] = some (.bool true, []) := by kernel_rfl
theorem m32 : acall Code.E 200000 5 [.int .i64 3, .int .i64 2] [] = some (.bool true, []) := by kernel_rfl
theorem m33 : acall Code.E 200000 5 [.int .i64 3, .int .i64 3] [] = some (.bool true, []) := by kernel_rfl
theorem m34 : acall Code.E 200000 5 [.int .i64 3, .int .i64 4] [] = some (.bool true, []) := by kernel_rfl
theorem m35 : acall Code.E 200000 5 [.int .i64 3, .int .i64 5] [] = some (.bool true, []) := by kernel_rfl
theorem m36 : acall Code.E 200000 5 [.int .i64 3, .int .i64 6] [] = some (.bool true, []) := by kernel_rfl
theorem m37 : acall Code.E 200000 5 [.int .i64 3, .int .i64 7] [] = some (.bool true, []) := by kernel_rfl
theorem m38 : acall Code.E 200000 5 [.int .i64 3, .int .i64 8] [] = some (.bool true, []) := by kernel_rfl
theorem m41 : acall Code.E 200000 5 [.int .i64 4, .int .i64 1] [] = some (.bool true, []) := by kernel_rfl
theorem m42 : acall Code.E 200000 5 [.int .i64 4, .int .i64 2] [] = some (.bool true, []) := by kernel_rfl
theorem m43 : acall Code.E 200000 5 [.int .i64 4, .int .i64 3] [] = some (.bool true, []) := by kernel_rfl
theorem m44 : acall Code.E 200000 5 [.int .i64 4, .int .i64 4] [] = some (.bool true, []) := by kernel_rfl
theorem m45 : acall Code.E 200000 5 [.int .i64 4, .int .i64 5] [] = some (.bool true, []) := by kernel_rfl
theorem m46 : acall Code.E 200000 5 [.int .i64 4, .int .i64 6] [] = some (.bool true, []) := by kernel_rfl
theorem m47 : acall Code.E 200000 5 [.int .i64 4, .int .i64 7] [] = some (.bool true, []) := by kernel_rfl
theorem m48 : acall Code.E 200000 5 [.int .i64 4, .int .i64 8] [] = some (.bool true, []) := by kernel_rfl
theorem m51 : acall Code.E 200000 5 [.int .i64 5, .int .i64 1] [] = some (.bool true, []) := by kernel_rfl
theorem m52 : acall Code.E 200000 5 [.int .i64 5, .int .i64 2] [] = some (.bool true, []) := by kernel_rfl
theorem m53 : acall Code.E 200000 5 [.int .i64 5, .int .i64 3] [] = some (.bool true, []) := by kernel_rfl
theorem m54 : acall Code.E 200000 5 [.int .i64 5, .int .i64 4] [] = some (.bool true, []) := by kernel_rfl
theorem m55 : acall Code.E 200000 5 [.int .i64 5, .int .i64 5] [] = some (.bool true, []) := by kernel_rfl
theorem m56 : acall Code.E 200000 5 [.int .i64 5, .int .i64 6] [] = some (.bool true, []) := by kernel_rfl
theorem m57 : acall Code.E 200000 5 [.int .i64 5, .int .i64 7] [] = some (.bool true, []) := by kernel_rfl
theorem m58 : acall Code.E 200000 5 [.int .i64 5, .int .i64 8] [] = some (.bool true, []) := by kernel_rfl
theorem m61 : acall Code.E 200000 5 [.int .i64 6, .int .i64 1] [] = some (.bool true, []) := by kernel_rfl
theorem m62 : acall Code.E 200000 5 [.int .i64 6, .int .i64 2] [] = some (.bool true, []) := by kernel_rfl
theorem m63 : acall Code.E 200000 5 [.int .i64 6, .int .i64 3] [] = some (.bool true, []) := by kernel_rfl
theorem m64 : acall Code.E 200000 5 [.int .i64 6, .int .i64 4] [] = some (.bool true, []) := by kernel_rfl
theorem m65 : acall Code.E 200000 5 [.int .i64 6, .int .i64 5] [] = some (.bool true, []) := by kernel_rfl
theorem m66 : acall Code.E 200000 5 [.int .i64 6, .int .i64 6] [] = some (.bool true, []) := by kernel_rfl
theorem m67 : acall Code.E 200000 5 [.int .i64 6, .int .i64 7] [] = some (.bool true, []) := by kernel_rfl
theorem m68 : acall Code.E 200000 5 [.int .i64 6, .int .i64 8] [] = some (.bool true, []) := by kernel_rfl
theorem m71 : acall Code.E 200000 5 [.int .i64 7, .int .i64 1] [] = some (.bool true, []) := by kernel_rfl
theorem m72 : acall Code.E 200000 5 [.int .i64 7, .int .i64 2] [] = some (.bool true, []) := by kernel_rfl
theorem m73 : acall Code.E 200000 5 [.int .i64 7, .int .i64 3] [] = some (.bool true, []) := by kernel_rfl
theorem m74 : acall Code.E 200000 5 [.int .i64 7, .int .i64 4] [] = some (.bool true, []) := by kernel_rfl
theorem m75 : acall Code.E 200000 5 [.int .i64 7, .int .i64 5] [] = some (.bool true, []) := by kernel_rfl
theorem m76 : acall Code.E 200000 5 [.int .i64 7, .int .i64 6] [] = some (.bool true, []) := by kernel_rfl
theorem m77 : acall Code.E 200000 5 [.int .i64 7, .int .i64 7] [] = some (.bool true, []) := by kernel_rfl
theorem m78 : acall Code.E 200000 5 [.int .i64 7, .int .i64 8] [] = some (.bool true, []) := by kernel_rfl
theorem m81 : acall Code.E 200000 5 [.int .i64 8, .int .i64 1] [] = some (.bool true, []) := by kernel_rfl
theorem m82 : acall Code.E 200000 5 [.int .i64 8, .int .i64 2] [] = some (.bool true, []) := by kernel_rfl
theorem m83 : acall Code.E 200000 5 [.int .i64 8, .int .i64 3] [] = some (.bool true, []) := by kernel_rfl
theorem m84 : acall Code.E 200000 5 [.int .i64 8, .int .i64 4] [] = some (.bool true, []) := by kernel_rfl
theorem m85 : acall Code.E 200000 5 [.int .i64 8, .int .i64 5] [] = some (.bool true, []) := by kernel_rfl
theorem m86 : acall Code.E 200000 5 [.int .i64 8, .int .i64 6] [] = some (.bool true, []) := by kernel_rfl
theorem m87 : acall Code.E 200000 5 [.int .i64 8, .int .i64 7] [] = some (.bool true, []) := by kernel_rfl
theorem m88 : acall Code.E 200000 5 [.int .i64 8, .int .i64 8] [] = some (.bool true, []) := by kernel_rfl
end Go.Proofs.Ythoogegclpiefaa.MostEv
