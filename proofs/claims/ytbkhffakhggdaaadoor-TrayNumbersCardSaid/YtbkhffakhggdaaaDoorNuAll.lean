/-
  Part of the proofs about this chapter: contracts of functions, answers of calls, and plain laws.
-/
import Derived.Test.YtbkhffakhggdaaaDoorNu0
import Derived.KernelRfl
set_option linter.all false
section
namespace Go.Proofs.YtbkhffakhggdaaaDoor.Code
open Go Go.Ab
theorem k31e_1 : (List.range' 1 6).all k31e = true := by kernel_rfl
theorem k29n_ok : k29n = true := by kernel_rfl
theorem k31_1_0 : (List.range' 0 2).all (k31 1) = true := by kernel_rfl
theorem k31_2_0 : (List.range' 0 4).all (k31 2) = true := by kernel_rfl
theorem k31_3_0 : (List.range' 0 8).all (k31 3) = true := by kernel_rfl
theorem k31_4_0 : (List.range' 0 8).all (k31 4) = true := by kernel_rfl
theorem k31_4_8 : (List.range' 8 8).all (k31 4) = true := by kernel_rfl
theorem k31_5_0 : (List.range' 0 8).all (k31 5) = true := by kernel_rfl
theorem k31_5_8 : (List.range' 8 8).all (k31 5) = true := by kernel_rfl
theorem k31_5_16 : (List.range' 16 8).all (k31 5) = true := by kernel_rfl
theorem k31_5_24 : (List.range' 24 8).all (k31 5) = true := by kernel_rfl
theorem k31_6_0 : (List.range' 0 8).all (k31 6) = true := by kernel_rfl
theorem k31_6_8 : (List.range' 8 8).all (k31 6) = true := by kernel_rfl
theorem k31_6_16 : (List.range' 16 8).all (k31 6) = true := by kernel_rfl
theorem k31_6_24 : (List.range' 24 8).all (k31 6) = true := by kernel_rfl
theorem k31_6_32 : (List.range' 32 8).all (k31 6) = true := by kernel_rfl
theorem k31_6_40 : (List.range' 40 8).all (k31 6) = true := by kernel_rfl
theorem k31_6_48 : (List.range' 48 8).all (k31 6) = true := by kernel_rfl
theorem k31_6_56 : (List.range' 56 8).all (k31 6) = true := by kernel_rfl
end Go.Proofs.YtbkhffakhggdaaaDoor.Code
end

section
namespace Go.Proofs.YtbkhffakhggdaaaDoor.Code
open Go Go.Ab
theorem kNth_1_0_0 : (List.range' 0 1).all (kNth 1 0) = true := by kernel_rfl
theorem kNth_1_1_0 : (List.range' 0 1).all (kNth 1 1) = true := by kernel_rfl
theorem kNth_2_0_0 : (List.range' 0 1).all (kNth 2 0) = true := by kernel_rfl
theorem kNth_2_1_0 : (List.range' 0 2).all (kNth 2 1) = true := by kernel_rfl
theorem kNth_2_2_0 : (List.range' 0 1).all (kNth 2 2) = true := by kernel_rfl
theorem kNth_3_0_0 : (List.range' 0 1).all (kNth 3 0) = true := by kernel_rfl
theorem kNth_3_1_0 : (List.range' 0 3).all (kNth 3 1) = true := by kernel_rfl
theorem kNth_3_2_0 : (List.range' 0 3).all (kNth 3 2) = true := by kernel_rfl
theorem kNth_3_3_0 : (List.range' 0 1).all (kNth 3 3) = true := by kernel_rfl
theorem kNth_4_0_0 : (List.range' 0 1).all (kNth 4 0) = true := by kernel_rfl
theorem kNth_4_1_0 : (List.range' 0 4).all (kNth 4 1) = true := by kernel_rfl
theorem kNth_4_2_0 : (List.range' 0 6).all (kNth 4 2) = true := by kernel_rfl
theorem kNth_4_3_0 : (List.range' 0 4).all (kNth 4 3) = true := by kernel_rfl
theorem kNth_4_4_0 : (List.range' 0 1).all (kNth 4 4) = true := by kernel_rfl
theorem kNth_5_0_0 : (List.range' 0 1).all (kNth 5 0) = true := by kernel_rfl
theorem kNth_5_1_0 : (List.range' 0 5).all (kNth 5 1) = true := by kernel_rfl
theorem kNth_5_2_0 : (List.range' 0 7).all (kNth 5 2) = true := by kernel_rfl
theorem kNth_5_2_7 : (List.range' 7 3).all (kNth 5 2) = true := by kernel_rfl
theorem kNth_5_3_0 : (List.range' 0 7).all (kNth 5 3) = true := by kernel_rfl
theorem kNth_5_3_7 : (List.range' 7 3).all (kNth 5 3) = true := by kernel_rfl
theorem kNth_5_4_0 : (List.range' 0 5).all (kNth 5 4) = true := by kernel_rfl
theorem kNth_5_5_0 : (List.range' 0 1).all (kNth 5 5) = true := by kernel_rfl
theorem kNth_6_0_0 : (List.range' 0 1).all (kNth 6 0) = true := by kernel_rfl
theorem kNth_6_1_0 : (List.range' 0 6).all (kNth 6 1) = true := by kernel_rfl
theorem kNth_6_2_0 : (List.range' 0 7).all (kNth 6 2) = true := by kernel_rfl
theorem kNth_6_2_7 : (List.range' 7 7).all (kNth 6 2) = true := by kernel_rfl
theorem kNth_6_2_14 : (List.range' 14 1).all (kNth 6 2) = true := by kernel_rfl
theorem kNth_6_3_0 : (List.range' 0 7).all (kNth 6 3) = true := by kernel_rfl
theorem kNth_6_3_7 : (List.range' 7 7).all (kNth 6 3) = true := by kernel_rfl
theorem kNth_6_3_14 : (List.range' 14 6).all (kNth 6 3) = true := by kernel_rfl
theorem kNth_6_4_0 : (List.range' 0 7).all (kNth 6 4) = true := by kernel_rfl
theorem kNth_6_4_7 : (List.range' 7 7).all (kNth 6 4) = true := by kernel_rfl
theorem kNth_6_4_14 : (List.range' 14 1).all (kNth 6 4) = true := by kernel_rfl
theorem kNth_6_5_0 : (List.range' 0 6).all (kNth 6 5) = true := by kernel_rfl
theorem kNth_6_6_0 : (List.range' 0 1).all (kNth 6 6) = true := by kernel_rfl
end Go.Proofs.YtbkhffakhggdaaaDoor.Code
end

section
namespace Go.Proofs.YtbkhffakhggdaaaDoor.Code
open Go Go.Ab
theorem kLean_1_0_0 : (List.range' 0 2).all (kLean 1 0) = true := by kernel_rfl
theorem kLean_1_1_0 : (List.range' 0 2).all (kLean 1 1) = true := by kernel_rfl
theorem kLean_2_0_0 : (List.range' 0 2).all (kLean 2 0) = true := by kernel_rfl
theorem kLean_2_1_0 : (List.range' 0 3).all (kLean 2 1) = true := by kernel_rfl
theorem kLean_2_2_0 : (List.range' 0 2).all (kLean 2 2) = true := by kernel_rfl
theorem kLean_3_0_0 : (List.range' 0 2).all (kLean 3 0) = true := by kernel_rfl
theorem kLean_3_1_0 : (List.range' 0 4).all (kLean 3 1) = true := by kernel_rfl
theorem kLean_3_2_0 : (List.range' 0 4).all (kLean 3 2) = true := by kernel_rfl
theorem kLean_3_3_0 : (List.range' 0 2).all (kLean 3 3) = true := by kernel_rfl
theorem kLean_4_0_0 : (List.range' 0 2).all (kLean 4 0) = true := by kernel_rfl
theorem kLean_4_1_0 : (List.range' 0 5).all (kLean 4 1) = true := by kernel_rfl
theorem kLean_4_2_0 : (List.range' 0 7).all (kLean 4 2) = true := by kernel_rfl
theorem kLean_4_3_0 : (List.range' 0 5).all (kLean 4 3) = true := by kernel_rfl
theorem kLean_4_4_0 : (List.range' 0 2).all (kLean 4 4) = true := by kernel_rfl
theorem kLean_5_0_0 : (List.range' 0 2).all (kLean 5 0) = true := by kernel_rfl
theorem kLean_5_1_0 : (List.range' 0 6).all (kLean 5 1) = true := by kernel_rfl
theorem kLean_5_2_0 : (List.range' 0 7).all (kLean 5 2) = true := by kernel_rfl
theorem kLean_5_2_7 : (List.range' 7 4).all (kLean 5 2) = true := by kernel_rfl
theorem kLean_5_3_0 : (List.range' 0 7).all (kLean 5 3) = true := by kernel_rfl
theorem kLean_5_3_7 : (List.range' 7 4).all (kLean 5 3) = true := by kernel_rfl
theorem kLean_5_4_0 : (List.range' 0 6).all (kLean 5 4) = true := by kernel_rfl
theorem kLean_5_5_0 : (List.range' 0 2).all (kLean 5 5) = true := by kernel_rfl
theorem kLean_6_0_0 : (List.range' 0 2).all (kLean 6 0) = true := by kernel_rfl
theorem kLean_6_1_0 : (List.range' 0 7).all (kLean 6 1) = true := by kernel_rfl
theorem kLean_6_2_0 : (List.range' 0 7).all (kLean 6 2) = true := by kernel_rfl
theorem kLean_6_2_7 : (List.range' 7 7).all (kLean 6 2) = true := by kernel_rfl
theorem kLean_6_2_14 : (List.range' 14 2).all (kLean 6 2) = true := by kernel_rfl
theorem kLean_6_3_0 : (List.range' 0 7).all (kLean 6 3) = true := by kernel_rfl
theorem kLean_6_3_7 : (List.range' 7 7).all (kLean 6 3) = true := by kernel_rfl
theorem kLean_6_3_14 : (List.range' 14 7).all (kLean 6 3) = true := by kernel_rfl
theorem kLean_6_4_0 : (List.range' 0 7).all (kLean 6 4) = true := by kernel_rfl
theorem kLean_6_4_7 : (List.range' 7 7).all (kLean 6 4) = true := by kernel_rfl
theorem kLean_6_4_14 : (List.range' 14 2).all (kLean 6 4) = true := by kernel_rfl
theorem kLean_6_5_0 : (List.range' 0 7).all (kLean 6 5) = true := by kernel_rfl
theorem kLean_6_6_0 : (List.range' 0 2).all (kLean 6 6) = true := by kernel_rfl
end Go.Proofs.YtbkhffakhggdaaaDoor.Code
end

section
namespace Go.Proofs.YtbkhffakhggdaaaDoor.Code
open Go Go.Ab
theorem k31_all1 {x : Nat} (h : x < 2) : k31 1 x = true := by
  exact all_of k31_1_0 (by omega) (by omega)
theorem k31_all2 {x : Nat} (h : x < 4) : k31 2 x = true := by
  exact all_of k31_2_0 (by omega) (by omega)
theorem k31_all3 {x : Nat} (h : x < 8) : k31 3 x = true := by
  exact all_of k31_3_0 (by omega) (by omega)
theorem k31_all4 {x : Nat} (h : x < 16) : k31 4 x = true := by
  by_cases h0 : x < 8
  · exact all_of k31_4_0 (by omega) (by omega)
  exact all_of k31_4_8 (by omega) (by omega)
theorem k31_all5 {x : Nat} (h : x < 32) : k31 5 x = true := by
  by_cases h0 : x < 8
  · exact all_of k31_5_0 (by omega) (by omega)
  by_cases h8 : x < 16
  · exact all_of k31_5_8 (by omega) (by omega)
  by_cases h16 : x < 24
  · exact all_of k31_5_16 (by omega) (by omega)
  exact all_of k31_5_24 (by omega) (by omega)
theorem k31_all6 {x : Nat} (h : x < 64) : k31 6 x = true := by
  by_cases h0 : x < 8
  · exact all_of k31_6_0 (by omega) (by omega)
  by_cases h8 : x < 16
  · exact all_of k31_6_8 (by omega) (by omega)
  by_cases h16 : x < 24
  · exact all_of k31_6_16 (by omega) (by omega)
  by_cases h24 : x < 32
  · exact all_of k31_6_24 (by omega) (by omega)
  by_cases h32 : x < 40
  · exact all_of k31_6_32 (by omega) (by omega)
  by_cases h40 : x < 48
  · exact all_of k31_6_40 (by omega) (by omega)
  by_cases h48 : x < 56
  · exact all_of k31_6_48 (by omega) (by omega)
  exact all_of k31_6_56 (by omega) (by omega)
theorem k31_all {n x : Nat} (h1 : 1 ≤ n) (h6 : n ≤ 6) (h : x < 2 ^ n) : k31 n x = true := by
  have : n = 1 ∨ n = 2 ∨ n = 3 ∨ n = 4 ∨ n = 5 ∨ n = 6 := by omega
  rcases this with rfl | rfl | rfl | rfl | rfl | rfl
  · exact k31_all1 h
  · exact k31_all2 h
  · exact k31_all3 h
  · exact k31_all4 h
  · exact k31_all5 h
  · exact k31_all6 h
theorem k31e_all {n : Nat} (h1 : 1 ≤ n) (h6 : n ≤ 6) : k31e n = true := all_of k31e_1 (by omega) (by omega)
theorem kNth_all1_0 {x : Nat} (h : x < 1) : kNth 1 0 x = true := by
  exact all_of kNth_1_0_0 (by omega) (by omega)
theorem kNth_all1_1 {x : Nat} (h : x < 1) : kNth 1 1 x = true := by
  exact all_of kNth_1_1_0 (by omega) (by omega)
theorem kNth_all1 {r x : Nat} (hr : r ≤ 1) (h : x < chS 1 r + 0) : kNth 1 r x = true := by
  have : r = 0 ∨ r = 1 := by omega
  rcases this with rfl | rfl
  · exact kNth_all1_0 (by rwa [show chS 1 0 = 1 from by decide +kernel] at h)
  · exact kNth_all1_1 (by rwa [show chS 1 1 = 1 from by decide +kernel] at h)
theorem kNth_all2_0 {x : Nat} (h : x < 1) : kNth 2 0 x = true := by
  exact all_of kNth_2_0_0 (by omega) (by omega)
theorem kNth_all2_1 {x : Nat} (h : x < 2) : kNth 2 1 x = true := by
  exact all_of kNth_2_1_0 (by omega) (by omega)
theorem kNth_all2_2 {x : Nat} (h : x < 1) : kNth 2 2 x = true := by
  exact all_of kNth_2_2_0 (by omega) (by omega)
theorem kNth_all2 {r x : Nat} (hr : r ≤ 2) (h : x < chS 2 r + 0) : kNth 2 r x = true := by
  have : r = 0 ∨ r = 1 ∨ r = 2 := by omega
  rcases this with rfl | rfl | rfl
  · exact kNth_all2_0 (by rwa [show chS 2 0 = 1 from by decide +kernel] at h)
  · exact kNth_all2_1 (by rwa [show chS 2 1 = 2 from by decide +kernel] at h)
  · exact kNth_all2_2 (by rwa [show chS 2 2 = 1 from by decide +kernel] at h)
theorem kNth_all3_0 {x : Nat} (h : x < 1) : kNth 3 0 x = true := by
  exact all_of kNth_3_0_0 (by omega) (by omega)
theorem kNth_all3_1 {x : Nat} (h : x < 3) : kNth 3 1 x = true := by
  exact all_of kNth_3_1_0 (by omega) (by omega)
theorem kNth_all3_2 {x : Nat} (h : x < 3) : kNth 3 2 x = true := by
  exact all_of kNth_3_2_0 (by omega) (by omega)
theorem kNth_all3_3 {x : Nat} (h : x < 1) : kNth 3 3 x = true := by
  exact all_of kNth_3_3_0 (by omega) (by omega)
theorem kNth_all3 {r x : Nat} (hr : r ≤ 3) (h : x < chS 3 r + 0) : kNth 3 r x = true := by
  have : r = 0 ∨ r = 1 ∨ r = 2 ∨ r = 3 := by omega
  rcases this with rfl | rfl | rfl | rfl
  · exact kNth_all3_0 (by rwa [show chS 3 0 = 1 from by decide +kernel] at h)
  · exact kNth_all3_1 (by rwa [show chS 3 1 = 3 from by decide +kernel] at h)
  · exact kNth_all3_2 (by rwa [show chS 3 2 = 3 from by decide +kernel] at h)
  · exact kNth_all3_3 (by rwa [show chS 3 3 = 1 from by decide +kernel] at h)
theorem kNth_all4_0 {x : Nat} (h : x < 1) : kNth 4 0 x = true := by
  exact all_of kNth_4_0_0 (by omega) (by omega)
theorem kNth_all4_1 {x : Nat} (h : x < 4) : kNth 4 1 x = true := by
  exact all_of kNth_4_1_0 (by omega) (by omega)
theorem kNth_all4_2 {x : Nat} (h : x < 6) : kNth 4 2 x = true := by
  exact all_of kNth_4_2_0 (by omega) (by omega)
theorem kNth_all4_3 {x : Nat} (h : x < 4) : kNth 4 3 x = true := by
  exact all_of kNth_4_3_0 (by omega) (by omega)
theorem kNth_all4_4 {x : Nat} (h : x < 1) : kNth 4 4 x = true := by
  exact all_of kNth_4_4_0 (by omega) (by omega)
theorem kNth_all4 {r x : Nat} (hr : r ≤ 4) (h : x < chS 4 r + 0) : kNth 4 r x = true := by
  have : r = 0 ∨ r = 1 ∨ r = 2 ∨ r = 3 ∨ r = 4 := by omega
  rcases this with rfl | rfl | rfl | rfl | rfl
  · exact kNth_all4_0 (by rwa [show chS 4 0 = 1 from by decide +kernel] at h)
  · exact kNth_all4_1 (by rwa [show chS 4 1 = 4 from by decide +kernel] at h)
  · exact kNth_all4_2 (by rwa [show chS 4 2 = 6 from by decide +kernel] at h)
  · exact kNth_all4_3 (by rwa [show chS 4 3 = 4 from by decide +kernel] at h)
  · exact kNth_all4_4 (by rwa [show chS 4 4 = 1 from by decide +kernel] at h)
theorem kNth_all5_0 {x : Nat} (h : x < 1) : kNth 5 0 x = true := by
  exact all_of kNth_5_0_0 (by omega) (by omega)
theorem kNth_all5_1 {x : Nat} (h : x < 5) : kNth 5 1 x = true := by
  exact all_of kNth_5_1_0 (by omega) (by omega)
theorem kNth_all5_2 {x : Nat} (h : x < 10) : kNth 5 2 x = true := by
  by_cases h0 : x < 7
  · exact all_of kNth_5_2_0 (by omega) (by omega)
  exact all_of kNth_5_2_7 (by omega) (by omega)
theorem kNth_all5_3 {x : Nat} (h : x < 10) : kNth 5 3 x = true := by
  by_cases h0 : x < 7
  · exact all_of kNth_5_3_0 (by omega) (by omega)
  exact all_of kNth_5_3_7 (by omega) (by omega)
theorem kNth_all5_4 {x : Nat} (h : x < 5) : kNth 5 4 x = true := by
  exact all_of kNth_5_4_0 (by omega) (by omega)
theorem kNth_all5_5 {x : Nat} (h : x < 1) : kNth 5 5 x = true := by
  exact all_of kNth_5_5_0 (by omega) (by omega)
theorem kNth_all5 {r x : Nat} (hr : r ≤ 5) (h : x < chS 5 r + 0) : kNth 5 r x = true := by
  have : r = 0 ∨ r = 1 ∨ r = 2 ∨ r = 3 ∨ r = 4 ∨ r = 5 := by omega
  rcases this with rfl | rfl | rfl | rfl | rfl | rfl
  · exact kNth_all5_0 (by rwa [show chS 5 0 = 1 from by decide +kernel] at h)
  · exact kNth_all5_1 (by rwa [show chS 5 1 = 5 from by decide +kernel] at h)
  · exact kNth_all5_2 (by rwa [show chS 5 2 = 10 from by decide +kernel] at h)
  · exact kNth_all5_3 (by rwa [show chS 5 3 = 10 from by decide +kernel] at h)
  · exact kNth_all5_4 (by rwa [show chS 5 4 = 5 from by decide +kernel] at h)
  · exact kNth_all5_5 (by rwa [show chS 5 5 = 1 from by decide +kernel] at h)
theorem kNth_all6_0 {x : Nat} (h : x < 1) : kNth 6 0 x = true := by
  exact all_of kNth_6_0_0 (by omega) (by omega)
theorem kNth_all6_1 {x : Nat} (h : x < 6) : kNth 6 1 x = true := by
  exact all_of kNth_6_1_0 (by omega) (by omega)
theorem kNth_all6_2 {x : Nat} (h : x < 15) : kNth 6 2 x = true := by
  by_cases h0 : x < 7
  · exact all_of kNth_6_2_0 (by omega) (by omega)
  by_cases h7 : x < 14
  · exact all_of kNth_6_2_7 (by omega) (by omega)
  exact all_of kNth_6_2_14 (by omega) (by omega)
theorem kNth_all6_3 {x : Nat} (h : x < 20) : kNth 6 3 x = true := by
  by_cases h0 : x < 7
  · exact all_of kNth_6_3_0 (by omega) (by omega)
  by_cases h7 : x < 14
  · exact all_of kNth_6_3_7 (by omega) (by omega)
  exact all_of kNth_6_3_14 (by omega) (by omega)
theorem kNth_all6_4 {x : Nat} (h : x < 15) : kNth 6 4 x = true := by
  by_cases h0 : x < 7
  · exact all_of kNth_6_4_0 (by omega) (by omega)
  by_cases h7 : x < 14
  · exact all_of kNth_6_4_7 (by omega) (by omega)
  exact all_of kNth_6_4_14 (by omega) (by omega)
theorem kNth_all6_5 {x : Nat} (h : x < 6) : kNth 6 5 x = true := by
  exact all_of kNth_6_5_0 (by omega) (by omega)
theorem kNth_all6_6 {x : Nat} (h : x < 1) : kNth 6 6 x = true := by
  exact all_of kNth_6_6_0 (by omega) (by omega)
theorem kNth_all6 {r x : Nat} (hr : r ≤ 6) (h : x < chS 6 r + 0) : kNth 6 r x = true := by
  have : r = 0 ∨ r = 1 ∨ r = 2 ∨ r = 3 ∨ r = 4 ∨ r = 5 ∨ r = 6 := by omega
  rcases this with rfl | rfl | rfl | rfl | rfl | rfl | rfl
  · exact kNth_all6_0 (by rwa [show chS 6 0 = 1 from by decide +kernel] at h)
  · exact kNth_all6_1 (by rwa [show chS 6 1 = 6 from by decide +kernel] at h)
  · exact kNth_all6_2 (by rwa [show chS 6 2 = 15 from by decide +kernel] at h)
  · exact kNth_all6_3 (by rwa [show chS 6 3 = 20 from by decide +kernel] at h)
  · exact kNth_all6_4 (by rwa [show chS 6 4 = 15 from by decide +kernel] at h)
  · exact kNth_all6_5 (by rwa [show chS 6 5 = 6 from by decide +kernel] at h)
  · exact kNth_all6_6 (by rwa [show chS 6 6 = 1 from by decide +kernel] at h)
theorem kNth_all {n r x : Nat} (h1 : 1 ≤ n) (h6 : n ≤ 6) (hr : r ≤ n) (h : x < chS n r + 0) : kNth n r x = true := by
  have : n = 1 ∨ n = 2 ∨ n = 3 ∨ n = 4 ∨ n = 5 ∨ n = 6 := by omega
  rcases this with rfl | rfl | rfl | rfl | rfl | rfl
  · exact kNth_all1 hr h
  · exact kNth_all2 hr h
  · exact kNth_all3 hr h
  · exact kNth_all4 hr h
  · exact kNth_all5 hr h
  · exact kNth_all6 hr h
theorem kLean_all1_0 {x : Nat} (h : x < 2) : kLean 1 0 x = true := by
  exact all_of kLean_1_0_0 (by omega) (by omega)
theorem kLean_all1_1 {x : Nat} (h : x < 2) : kLean 1 1 x = true := by
  exact all_of kLean_1_1_0 (by omega) (by omega)
theorem kLean_all1 {r x : Nat} (hr : r ≤ 1) (h : x < chS 1 r + 1) : kLean 1 r x = true := by
  have : r = 0 ∨ r = 1 := by omega
  rcases this with rfl | rfl
  · exact kLean_all1_0 (by rwa [show chS 1 0 = 1 from by decide +kernel] at h)
  · exact kLean_all1_1 (by rwa [show chS 1 1 = 1 from by decide +kernel] at h)
theorem kLean_all2_0 {x : Nat} (h : x < 2) : kLean 2 0 x = true := by
  exact all_of kLean_2_0_0 (by omega) (by omega)
theorem kLean_all2_1 {x : Nat} (h : x < 3) : kLean 2 1 x = true := by
  exact all_of kLean_2_1_0 (by omega) (by omega)
theorem kLean_all2_2 {x : Nat} (h : x < 2) : kLean 2 2 x = true := by
  exact all_of kLean_2_2_0 (by omega) (by omega)
theorem kLean_all2 {r x : Nat} (hr : r ≤ 2) (h : x < chS 2 r + 1) : kLean 2 r x = true := by
  have : r = 0 ∨ r = 1 ∨ r = 2 := by omega
  rcases this with rfl | rfl | rfl
  · exact kLean_all2_0 (by rwa [show chS 2 0 = 1 from by decide +kernel] at h)
  · exact kLean_all2_1 (by rwa [show chS 2 1 = 2 from by decide +kernel] at h)
  · exact kLean_all2_2 (by rwa [show chS 2 2 = 1 from by decide +kernel] at h)
theorem kLean_all3_0 {x : Nat} (h : x < 2) : kLean 3 0 x = true := by
  exact all_of kLean_3_0_0 (by omega) (by omega)
theorem kLean_all3_1 {x : Nat} (h : x < 4) : kLean 3 1 x = true := by
  exact all_of kLean_3_1_0 (by omega) (by omega)
theorem kLean_all3_2 {x : Nat} (h : x < 4) : kLean 3 2 x = true := by
  exact all_of kLean_3_2_0 (by omega) (by omega)
theorem kLean_all3_3 {x : Nat} (h : x < 2) : kLean 3 3 x = true := by
  exact all_of kLean_3_3_0 (by omega) (by omega)
theorem kLean_all3 {r x : Nat} (hr : r ≤ 3) (h : x < chS 3 r + 1) : kLean 3 r x = true := by
  have : r = 0 ∨ r = 1 ∨ r = 2 ∨ r = 3 := by omega
  rcases this with rfl | rfl | rfl | rfl
  · exact kLean_all3_0 (by rwa [show chS 3 0 = 1 from by decide +kernel] at h)
  · exact kLean_all3_1 (by rwa [show chS 3 1 = 3 from by decide +kernel] at h)
  · exact kLean_all3_2 (by rwa [show chS 3 2 = 3 from by decide +kernel] at h)
  · exact kLean_all3_3 (by rwa [show chS 3 3 = 1 from by decide +kernel] at h)
theorem kLean_all4_0 {x : Nat} (h : x < 2) : kLean 4 0 x = true := by
  exact all_of kLean_4_0_0 (by omega) (by omega)
theorem kLean_all4_1 {x : Nat} (h : x < 5) : kLean 4 1 x = true := by
  exact all_of kLean_4_1_0 (by omega) (by omega)
theorem kLean_all4_2 {x : Nat} (h : x < 7) : kLean 4 2 x = true := by
  exact all_of kLean_4_2_0 (by omega) (by omega)
theorem kLean_all4_3 {x : Nat} (h : x < 5) : kLean 4 3 x = true := by
  exact all_of kLean_4_3_0 (by omega) (by omega)
theorem kLean_all4_4 {x : Nat} (h : x < 2) : kLean 4 4 x = true := by
  exact all_of kLean_4_4_0 (by omega) (by omega)
theorem kLean_all4 {r x : Nat} (hr : r ≤ 4) (h : x < chS 4 r + 1) : kLean 4 r x = true := by
  have : r = 0 ∨ r = 1 ∨ r = 2 ∨ r = 3 ∨ r = 4 := by omega
  rcases this with rfl | rfl | rfl | rfl | rfl
  · exact kLean_all4_0 (by rwa [show chS 4 0 = 1 from by decide +kernel] at h)
  · exact kLean_all4_1 (by rwa [show chS 4 1 = 4 from by decide +kernel] at h)
  · exact kLean_all4_2 (by rwa [show chS 4 2 = 6 from by decide +kernel] at h)
  · exact kLean_all4_3 (by rwa [show chS 4 3 = 4 from by decide +kernel] at h)
  · exact kLean_all4_4 (by rwa [show chS 4 4 = 1 from by decide +kernel] at h)
theorem kLean_all5_0 {x : Nat} (h : x < 2) : kLean 5 0 x = true := by
  exact all_of kLean_5_0_0 (by omega) (by omega)
theorem kLean_all5_1 {x : Nat} (h : x < 6) : kLean 5 1 x = true := by
  exact all_of kLean_5_1_0 (by omega) (by omega)
theorem kLean_all5_2 {x : Nat} (h : x < 11) : kLean 5 2 x = true := by
  by_cases h0 : x < 7
  · exact all_of kLean_5_2_0 (by omega) (by omega)
  exact all_of kLean_5_2_7 (by omega) (by omega)
theorem kLean_all5_3 {x : Nat} (h : x < 11) : kLean 5 3 x = true := by
  by_cases h0 : x < 7
  · exact all_of kLean_5_3_0 (by omega) (by omega)
  exact all_of kLean_5_3_7 (by omega) (by omega)
theorem kLean_all5_4 {x : Nat} (h : x < 6) : kLean 5 4 x = true := by
  exact all_of kLean_5_4_0 (by omega) (by omega)
theorem kLean_all5_5 {x : Nat} (h : x < 2) : kLean 5 5 x = true := by
  exact all_of kLean_5_5_0 (by omega) (by omega)
theorem kLean_all5 {r x : Nat} (hr : r ≤ 5) (h : x < chS 5 r + 1) : kLean 5 r x = true := by
  have : r = 0 ∨ r = 1 ∨ r = 2 ∨ r = 3 ∨ r = 4 ∨ r = 5 := by omega
  rcases this with rfl | rfl | rfl | rfl | rfl | rfl
  · exact kLean_all5_0 (by rwa [show chS 5 0 = 1 from by decide +kernel] at h)
  · exact kLean_all5_1 (by rwa [show chS 5 1 = 5 from by decide +kernel] at h)
  · exact kLean_all5_2 (by rwa [show chS 5 2 = 10 from by decide +kernel] at h)
  · exact kLean_all5_3 (by rwa [show chS 5 3 = 10 from by decide +kernel] at h)
  · exact kLean_all5_4 (by rwa [show chS 5 4 = 5 from by decide +kernel] at h)
  · exact kLean_all5_5 (by rwa [show chS 5 5 = 1 from by decide +kernel] at h)
theorem kLean_all6_0 {x : Nat} (h : x < 2) : kLean 6 0 x = true := by
  exact all_of kLean_6_0_0 (by omega) (by omega)
theorem kLean_all6_1 {x : Nat} (h : x < 7) : kLean 6 1 x = true := by
  exact all_of kLean_6_1_0 (by omega) (by omega)
theorem kLean_all6_2 {x : Nat} (h : x < 16) : kLean 6 2 x = true := by
  by_cases h0 : x < 7
  · exact all_of kLean_6_2_0 (by omega) (by omega)
  by_cases h7 : x < 14
  · exact all_of kLean_6_2_7 (by omega) (by omega)
  exact all_of kLean_6_2_14 (by omega) (by omega)
theorem kLean_all6_3 {x : Nat} (h : x < 21) : kLean 6 3 x = true := by
  by_cases h0 : x < 7
  · exact all_of kLean_6_3_0 (by omega) (by omega)
  by_cases h7 : x < 14
  · exact all_of kLean_6_3_7 (by omega) (by omega)
  exact all_of kLean_6_3_14 (by omega) (by omega)
theorem kLean_all6_4 {x : Nat} (h : x < 16) : kLean 6 4 x = true := by
  by_cases h0 : x < 7
  · exact all_of kLean_6_4_0 (by omega) (by omega)
  by_cases h7 : x < 14
  · exact all_of kLean_6_4_7 (by omega) (by omega)
  exact all_of kLean_6_4_14 (by omega) (by omega)
theorem kLean_all6_5 {x : Nat} (h : x < 7) : kLean 6 5 x = true := by
  exact all_of kLean_6_5_0 (by omega) (by omega)
theorem kLean_all6_6 {x : Nat} (h : x < 2) : kLean 6 6 x = true := by
  exact all_of kLean_6_6_0 (by omega) (by omega)
theorem kLean_all6 {r x : Nat} (hr : r ≤ 6) (h : x < chS 6 r + 1) : kLean 6 r x = true := by
  have : r = 0 ∨ r = 1 ∨ r = 2 ∨ r = 3 ∨ r = 4 ∨ r = 5 ∨ r = 6 := by omega
  rcases this with rfl | rfl | rfl | rfl | rfl | rfl | rfl
  · exact kLean_all6_0 (by rwa [show chS 6 0 = 1 from by decide +kernel] at h)
  · exact kLean_all6_1 (by rwa [show chS 6 1 = 6 from by decide +kernel] at h)
  · exact kLean_all6_2 (by rwa [show chS 6 2 = 15 from by decide +kernel] at h)
  · exact kLean_all6_3 (by rwa [show chS 6 3 = 20 from by decide +kernel] at h)
  · exact kLean_all6_4 (by rwa [show chS 6 4 = 15 from by decide +kernel] at h)
  · exact kLean_all6_5 (by rwa [show chS 6 5 = 6 from by decide +kernel] at h)
  · exact kLean_all6_6 (by rwa [show chS 6 6 = 1 from by decide +kernel] at h)
theorem kLean_all {n r x : Nat} (h1 : 1 ≤ n) (h6 : n ≤ 6) (hr : r ≤ n) (h : x < chS n r + 1) : kLean n r x = true := by
  have : n = 1 ∨ n = 2 ∨ n = 3 ∨ n = 4 ∨ n = 5 ∨ n = 6 := by omega
  rcases this with rfl | rfl | rfl | rfl | rfl | rfl
  · exact kLean_all1 hr h
  · exact kLean_all2 hr h
  · exact kLean_all3 hr h
  · exact kLean_all4 hr h
  · exact kLean_all5 hr h
  · exact kLean_all6 hr h
end Go.Proofs.YtbkhffakhggdaaaDoor.Code
end

