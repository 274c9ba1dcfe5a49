/-
  Answers of calls, each computed by the proved evaluator: what the law on numbers leans on.
-/
import Derived.Test.YtbkhffakhggdaaaDoorBf1
import Derived.Test.YtbkhffakhggdaaaDoorBf2
import Derived.Test.YtbkhffakhggdaaaDoorBf3
import Derived.Test.YtbkhffakhggdaaaDoorBf4
import Derived.KernelRfl
set_option linter.all false
namespace Go.Proofs.YtbkhffakhggdaaaDoor.Code
open Go Go.Ab
theorem all_of {f : Nat → Bool} {i c : Nat} (h : (List.range' i c).all f = true) {x : Nat} (h1 : i ≤ x) (h2 : x < i + c) : f x = true := by
  rw [List.all_eq_true] at h
  exact h x (List.mem_range'_1.2 ⟨h1, h2⟩)
theorem k47_all {x : Nat} (h : x < 64) : k47 x = true := by
  by_cases h0 : x < 16
  · exact all_of k47_0 (by omega) (by omega)
  by_cases h16 : x < 32
  · exact all_of k47_16 (by omega) (by omega)
  by_cases h32 : x < 48
  · exact all_of k47_32 (by omega) (by omega)
  exact all_of k47_48 (by omega) (by omega)
theorem k50_all {x : Nat} (h : x < 64) : k50 x = true := by
  by_cases h0 : x < 16
  · exact all_of k50_0 (by omega) (by omega)
  by_cases h16 : x < 32
  · exact all_of k50_16 (by omega) (by omega)
  by_cases h32 : x < 48
  · exact all_of k50_32 (by omega) (by omega)
  exact all_of k50_48 (by omega) (by omega)
theorem k29_all {x : Nat} (h : x < 64) : k29 x = true := by
  by_cases h0 : x < 16
  · exact all_of k29_0 (by omega) (by omega)
  by_cases h16 : x < 32
  · exact all_of k29_16 (by omega) (by omega)
  by_cases h32 : x < 48
  · exact all_of k29_32 (by omega) (by omega)
  exact all_of k29_48 (by omega) (by omega)
theorem k31_all1 {x : Nat} (h : x < 2) : k31 1 x = true := by
  exact all_of k31_1_0 (by omega) (by omega)
theorem k31_all2 {x : Nat} (h : x < 4) : k31 2 x = true := by
  exact all_of k31_2_0 (by omega) (by omega)
theorem k31_all3 {x : Nat} (h : x < 8) : k31 3 x = true := by
  exact all_of k31_3_0 (by omega) (by omega)
theorem k31_all4 {x : Nat} (h : x < 16) : k31 4 x = true := by
  by_cases h0 : x < 8
  · exact all_of k31_4_0 (by omega) (by omega)
  exact all_of k31_4_8 (by omega) (by omega)
theorem k31_all5 {x : Nat} (h : x < 32) : k31 5 x = true := by
  by_cases h0 : x < 8
  · exact all_of k31_5_0 (by omega) (by omega)
  by_cases h8 : x < 16
  · exact all_of k31_5_8 (by omega) (by omega)
  by_cases h16 : x < 24
  · exact all_of k31_5_16 (by omega) (by omega)
  exact all_of k31_5_24 (by omega) (by omega)
theorem k31_all6 {x : Nat} (h : x < 64) : k31 6 x = true := by
  by_cases h0 : x < 8
  · exact all_of k31_6_0 (by omega) (by omega)
  by_cases h8 : x < 16
  · exact all_of k31_6_8 (by omega) (by omega)
  by_cases h16 : x < 24
  · exact all_of k31_6_16 (by omega) (by omega)
  by_cases h24 : x < 32
  · exact all_of k31_6_24 (by omega) (by omega)
  by_cases h32 : x < 40
  · exact all_of k31_6_32 (by omega) (by omega)
  by_cases h40 : x < 48
  · exact all_of k31_6_40 (by omega) (by omega)
  by_cases h48 : x < 56
  · exact all_of k31_6_48 (by omega) (by omega)
  exact all_of k31_6_56 (by omega) (by omega)
theorem k31_all {n x : Nat} (h1 : 1 ≤ n) (h6 : n ≤ 6) (h : x < 2 ^ n) : k31 n x = true := by
  have : n = 1 ∨ n = 2 ∨ n = 3 ∨ n = 4 ∨ n = 5 ∨ n = 6 := by omega
  rcases this with rfl | rfl | rfl | rfl | rfl | rfl
  · exact k31_all1 h
  · exact k31_all2 h
  · exact k31_all3 h
  · exact k31_all4 h
  · exact k31_all5 h
  · exact k31_all6 h
theorem k33_all1 {x : Nat} (h : x < 2) : k33 1 x = true := by
  exact all_of k33_1_0 (by omega) (by omega)
theorem k33_all2 {x : Nat} (h : x < 4) : k33 2 x = true := by
  exact all_of k33_2_0 (by omega) (by omega)
theorem k33_all3 {x : Nat} (h : x < 8) : k33 3 x = true := by
  exact all_of k33_3_0 (by omega) (by omega)
theorem k33_all4 {x : Nat} (h : x < 16) : k33 4 x = true := by
  by_cases h0 : x < 8
  · exact all_of k33_4_0 (by omega) (by omega)
  exact all_of k33_4_8 (by omega) (by omega)
theorem k33_all5 {x : Nat} (h : x < 32) : k33 5 x = true := by
  by_cases h0 : x < 8
  · exact all_of k33_5_0 (by omega) (by omega)
  by_cases h8 : x < 16
  · exact all_of k33_5_8 (by omega) (by omega)
  by_cases h16 : x < 24
  · exact all_of k33_5_16 (by omega) (by omega)
  exact all_of k33_5_24 (by omega) (by omega)
theorem k33_all6 {x : Nat} (h : x < 64) : k33 6 x = true := by
  by_cases h0 : x < 8
  · exact all_of k33_6_0 (by omega) (by omega)
  by_cases h8 : x < 16
  · exact all_of k33_6_8 (by omega) (by omega)
  by_cases h16 : x < 24
  · exact all_of k33_6_16 (by omega) (by omega)
  by_cases h24 : x < 32
  · exact all_of k33_6_24 (by omega) (by omega)
  by_cases h32 : x < 40
  · exact all_of k33_6_32 (by omega) (by omega)
  by_cases h40 : x < 48
  · exact all_of k33_6_40 (by omega) (by omega)
  by_cases h48 : x < 56
  · exact all_of k33_6_48 (by omega) (by omega)
  exact all_of k33_6_56 (by omega) (by omega)
theorem k33_all {n x : Nat} (h1 : 1 ≤ n) (h6 : n ≤ 6) (h : x < 2 ^ n) : k33 n x = true := by
  have : n = 1 ∨ n = 2 ∨ n = 3 ∨ n = 4 ∨ n = 5 ∨ n = 6 := by omega
  rcases this with rfl | rfl | rfl | rfl | rfl | rfl
  · exact k33_all1 h
  · exact k33_all2 h
  · exact k33_all3 h
  · exact k33_all4 h
  · exact k33_all5 h
  · exact k33_all6 h
theorem k33n_all1 {x : Nat} (h : x < 2) : k33n 1 x = true := by
  exact all_of k33n_1_0 (by omega) (by omega)
theorem k33n_all2 {x : Nat} (h : x < 4) : k33n 2 x = true := by
  exact all_of k33n_2_0 (by omega) (by omega)
theorem k33n_all3 {x : Nat} (h : x < 8) : k33n 3 x = true := by
  exact all_of k33n_3_0 (by omega) (by omega)
theorem k33n_all4 {x : Nat} (h : x < 16) : k33n 4 x = true := by
  by_cases h0 : x < 8
  · exact all_of k33n_4_0 (by omega) (by omega)
  exact all_of k33n_4_8 (by omega) (by omega)
theorem k33n_all5 {x : Nat} (h : x < 32) : k33n 5 x = true := by
  by_cases h0 : x < 8
  · exact all_of k33n_5_0 (by omega) (by omega)
  by_cases h8 : x < 16
  · exact all_of k33n_5_8 (by omega) (by omega)
  by_cases h16 : x < 24
  · exact all_of k33n_5_16 (by omega) (by omega)
  exact all_of k33n_5_24 (by omega) (by omega)
theorem k33n_all6 {x : Nat} (h : x < 64) : k33n 6 x = true := by
  by_cases h0 : x < 8
  · exact all_of k33n_6_0 (by omega) (by omega)
  by_cases h8 : x < 16
  · exact all_of k33n_6_8 (by omega) (by omega)
  by_cases h16 : x < 24
  · exact all_of k33n_6_16 (by omega) (by omega)
  by_cases h24 : x < 32
  · exact all_of k33n_6_24 (by omega) (by omega)
  by_cases h32 : x < 40
  · exact all_of k33n_6_32 (by omega) (by omega)
  by_cases h40 : x < 48
  · exact all_of k33n_6_40 (by omega) (by omega)
  by_cases h48 : x < 56
  · exact all_of k33n_6_48 (by omega) (by omega)
  exact all_of k33n_6_56 (by omega) (by omega)
theorem k33n_all {n x : Nat} (h1 : 1 ≤ n) (h6 : n ≤ 6) (h : x < 2 ^ n) : k33n n x = true := by
  have : n = 1 ∨ n = 2 ∨ n = 3 ∨ n = 4 ∨ n = 5 ∨ n = 6 := by omega
  rcases this with rfl | rfl | rfl | rfl | rfl | rfl
  · exact k33n_all1 h
  · exact k33n_all2 h
  · exact k33n_all3 h
  · exact k33n_all4 h
  · exact k33n_all5 h
  · exact k33n_all6 h
end Go.Proofs.YtbkhffakhggdaaaDoor.Code
