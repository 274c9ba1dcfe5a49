/-
  Answers of what law 9 does behind its search, each computed by the proved evaluator.
-/
import Derived.Test.YtbkhffakhggdaaaDoorKb1
import Derived.Test.YtbkhffakhggdaaaDoorKb2
import Derived.Test.YtbkhffakhggdaaaDoorKb3
import Derived.Test.YtbkhffakhggdaaaDoorKb4
import Derived.KernelRfl
set_option linter.all false
namespace Go.Proofs.YtbkhffakhggdaaaDoor.Code
open Go Go.Ab
theorem kb_1_0 {k : Nat} (hk : k < (ks 0 (pw 1)).length + 1) (ver : Nat) (R0 : Blk) : chk9 ver R0 1 0 k = true := by
  have e : (ks 0 (pw 1)).length = 1 := by decide +kernel
  rw [e] at hk
  have : k = 0 ∨ k = 1 := by omega
  rcases this with rfl | rfl
  · exact kb_1_0_0 ver R0
  · exact kb_1_0_1 ver R0
theorem kb_1_1 {k : Nat} (hk : k < (ks 1 (pw 1)).length + 1) (ver : Nat) (R0 : Blk) : chk9 ver R0 1 1 k = true := by
  have e : (ks 1 (pw 1)).length = 1 := by decide +kernel
  rw [e] at hk
  have : k = 0 ∨ k = 1 := by omega
  rcases this with rfl | rfl
  · exact kb_1_1_0 ver R0
  · exact kb_1_1_1 ver R0
theorem kb_2_0 {k : Nat} (hk : k < (ks 0 (pw 2)).length + 1) (ver : Nat) (R0 : Blk) : chk9 ver R0 2 0 k = true := by
  have e : (ks 0 (pw 2)).length = 1 := by decide +kernel
  rw [e] at hk
  have : k = 0 ∨ k = 1 := by omega
  rcases this with rfl | rfl
  · exact kb_2_0_0 ver R0
  · exact kb_2_0_1 ver R0
theorem kb_2_1 {k : Nat} (hk : k < (ks 1 (pw 2)).length + 1) (ver : Nat) (R0 : Blk) : chk9 ver R0 2 1 k = true := by
  have e : (ks 1 (pw 2)).length = 2 := by decide +kernel
  rw [e] at hk
  have : k = 0 ∨ k = 1 ∨ k = 2 := by omega
  rcases this with rfl | rfl | rfl
  · exact kb_2_1_0 ver R0
  · exact kb_2_1_1 ver R0
  · exact kb_2_1_2 ver R0
theorem kb_2_2 {k : Nat} (hk : k < (ks 2 (pw 2)).length + 1) (ver : Nat) (R0 : Blk) : chk9 ver R0 2 2 k = true := by
  have e : (ks 2 (pw 2)).length = 1 := by decide +kernel
  rw [e] at hk
  have : k = 0 ∨ k = 1 := by omega
  rcases this with rfl | rfl
  · exact kb_2_2_0 ver R0
  · exact kb_2_2_1 ver R0
theorem kb_3_0 {k : Nat} (hk : k < (ks 0 (pw 3)).length + 1) (ver : Nat) (R0 : Blk) : chk9 ver R0 3 0 k = true := by
  have e : (ks 0 (pw 3)).length = 1 := by decide +kernel
  rw [e] at hk
  have : k = 0 ∨ k = 1 := by omega
  rcases this with rfl | rfl
  · exact kb_3_0_0 ver R0
  · exact kb_3_0_1 ver R0
theorem kb_3_1 {k : Nat} (hk : k < (ks 1 (pw 3)).length + 1) (ver : Nat) (R0 : Blk) : chk9 ver R0 3 1 k = true := by
  have e : (ks 1 (pw 3)).length = 3 := by decide +kernel
  rw [e] at hk
  have : k = 0 ∨ k = 1 ∨ k = 2 ∨ k = 3 := by omega
  rcases this with rfl | rfl | rfl | rfl
  · exact kb_3_1_0 ver R0
  · exact kb_3_1_1 ver R0
  · exact kb_3_1_2 ver R0
  · exact kb_3_1_3 ver R0
theorem kb_3_2 {k : Nat} (hk : k < (ks 2 (pw 3)).length + 1) (ver : Nat) (R0 : Blk) : chk9 ver R0 3 2 k = true := by
  have e : (ks 2 (pw 3)).length = 3 := by decide +kernel
  rw [e] at hk
  have : k = 0 ∨ k = 1 ∨ k = 2 ∨ k = 3 := by omega
  rcases this with rfl | rfl | rfl | rfl
  · exact kb_3_2_0 ver R0
  · exact kb_3_2_1 ver R0
  · exact kb_3_2_2 ver R0
  · exact kb_3_2_3 ver R0
theorem kb_3_3 {k : Nat} (hk : k < (ks 3 (pw 3)).length + 1) (ver : Nat) (R0 : Blk) : chk9 ver R0 3 3 k = true := by
  have e : (ks 3 (pw 3)).length = 1 := by decide +kernel
  rw [e] at hk
  have : k = 0 ∨ k = 1 := by omega
  rcases this with rfl | rfl
  · exact kb_3_3_0 ver R0
  · exact kb_3_3_1 ver R0
theorem kb_4_0 {k : Nat} (hk : k < (ks 0 (pw 4)).length + 1) (ver : Nat) (R0 : Blk) : chk9 ver R0 4 0 k = true := by
  have e : (ks 0 (pw 4)).length = 1 := by decide +kernel
  rw [e] at hk
  have : k = 0 ∨ k = 1 := by omega
  rcases this with rfl | rfl
  · exact kb_4_0_0 ver R0
  · exact kb_4_0_1 ver R0
theorem kb_4_1 {k : Nat} (hk : k < (ks 1 (pw 4)).length + 1) (ver : Nat) (R0 : Blk) : chk9 ver R0 4 1 k = true := by
  have e : (ks 1 (pw 4)).length = 4 := by decide +kernel
  rw [e] at hk
  have : k = 0 ∨ k = 1 ∨ k = 2 ∨ k = 3 ∨ k = 4 := by omega
  rcases this with rfl | rfl | rfl | rfl | rfl
  · exact kb_4_1_0 ver R0
  · exact kb_4_1_1 ver R0
  · exact kb_4_1_2 ver R0
  · exact kb_4_1_3 ver R0
  · exact kb_4_1_4 ver R0
theorem kb_4_2 {k : Nat} (hk : k < (ks 2 (pw 4)).length + 1) (ver : Nat) (R0 : Blk) : chk9 ver R0 4 2 k = true := by
  have e : (ks 2 (pw 4)).length = 6 := by decide +kernel
  rw [e] at hk
  have : k = 0 ∨ k = 1 ∨ k = 2 ∨ k = 3 ∨ k = 4 ∨ k = 5 ∨ k = 6 := by omega
  rcases this with rfl | rfl | rfl | rfl | rfl | rfl | rfl
  · exact kb_4_2_0 ver R0
  · exact kb_4_2_1 ver R0
  · exact kb_4_2_2 ver R0
  · exact kb_4_2_3 ver R0
  · exact kb_4_2_4 ver R0
  · exact kb_4_2_5 ver R0
  · exact kb_4_2_6 ver R0
theorem kb_4_3 {k : Nat} (hk : k < (ks 3 (pw 4)).length + 1) (ver : Nat) (R0 : Blk) : chk9 ver R0 4 3 k = true := by
  have e : (ks 3 (pw 4)).length = 4 := by decide +kernel
  rw [e] at hk
  have : k = 0 ∨ k = 1 ∨ k = 2 ∨ k = 3 ∨ k = 4 := by omega
  rcases this with rfl | rfl | rfl | rfl | rfl
  · exact kb_4_3_0 ver R0
  · exact kb_4_3_1 ver R0
  · exact kb_4_3_2 ver R0
  · exact kb_4_3_3 ver R0
  · exact kb_4_3_4 ver R0
theorem kb_4_4 {k : Nat} (hk : k < (ks 4 (pw 4)).length + 1) (ver : Nat) (R0 : Blk) : chk9 ver R0 4 4 k = true := by
  have e : (ks 4 (pw 4)).length = 1 := by decide +kernel
  rw [e] at hk
  have : k = 0 ∨ k = 1 := by omega
  rcases this with rfl | rfl
  · exact kb_4_4_0 ver R0
  · exact kb_4_4_1 ver R0
theorem kb_5_0 {k : Nat} (hk : k < (ks 0 (pw 5)).length + 1) (ver : Nat) (R0 : Blk) : chk9 ver R0 5 0 k = true := by
  have e : (ks 0 (pw 5)).length = 1 := by decide +kernel
  rw [e] at hk
  have : k = 0 ∨ k = 1 := by omega
  rcases this with rfl | rfl
  · exact kb_5_0_0 ver R0
  · exact kb_5_0_1 ver R0
theorem kb_5_1 {k : Nat} (hk : k < (ks 1 (pw 5)).length + 1) (ver : Nat) (R0 : Blk) : chk9 ver R0 5 1 k = true := by
  have e : (ks 1 (pw 5)).length = 5 := by decide +kernel
  rw [e] at hk
  have : k = 0 ∨ k = 1 ∨ k = 2 ∨ k = 3 ∨ k = 4 ∨ k = 5 := by omega
  rcases this with rfl | rfl | rfl | rfl | rfl | rfl
  · exact kb_5_1_0 ver R0
  · exact kb_5_1_1 ver R0
  · exact kb_5_1_2 ver R0
  · exact kb_5_1_3 ver R0
  · exact kb_5_1_4 ver R0
  · exact kb_5_1_5 ver R0
theorem kb_5_2 {k : Nat} (hk : k < (ks 2 (pw 5)).length + 1) (ver : Nat) (R0 : Blk) : chk9 ver R0 5 2 k = true := by
  have e : (ks 2 (pw 5)).length = 10 := by decide +kernel
  rw [e] at hk
  have : k = 0 ∨ k = 1 ∨ k = 2 ∨ k = 3 ∨ k = 4 ∨ k = 5 ∨ k = 6 ∨ k = 7 ∨ k = 8 ∨ k = 9 ∨ k = 10 := by omega
  rcases this with rfl | rfl | rfl | rfl | rfl | rfl | rfl | rfl | rfl | rfl | rfl
  · exact kb_5_2_0 ver R0
  · exact kb_5_2_1 ver R0
  · exact kb_5_2_2 ver R0
  · exact kb_5_2_3 ver R0
  · exact kb_5_2_4 ver R0
  · exact kb_5_2_5 ver R0
  · exact kb_5_2_6 ver R0
  · exact kb_5_2_7 ver R0
  · exact kb_5_2_8 ver R0
  · exact kb_5_2_9 ver R0
  · exact kb_5_2_10 ver R0
theorem kb_5_3 {k : Nat} (hk : k < (ks 3 (pw 5)).length + 1) (ver : Nat) (R0 : Blk) : chk9 ver R0 5 3 k = true := by
  have e : (ks 3 (pw 5)).length = 10 := by decide +kernel
  rw [e] at hk
  have : k = 0 ∨ k = 1 ∨ k = 2 ∨ k = 3 ∨ k = 4 ∨ k = 5 ∨ k = 6 ∨ k = 7 ∨ k = 8 ∨ k = 9 ∨ k = 10 := by omega
  rcases this with rfl | rfl | rfl | rfl | rfl | rfl | rfl | rfl | rfl | rfl | rfl
  · exact kb_5_3_0 ver R0
  · exact kb_5_3_1 ver R0
  · exact kb_5_3_2 ver R0
  · exact kb_5_3_3 ver R0
  · exact kb_5_3_4 ver R0
  · exact kb_5_3_5 ver R0
  · exact kb_5_3_6 ver R0
  · exact kb_5_3_7 ver R0
  · exact kb_5_3_8 ver R0
  · exact kb_5_3_9 ver R0
  · exact kb_5_3_10 ver R0
theorem kb_5_4 {k : Nat} (hk : k < (ks 4 (pw 5)).length + 1) (ver : Nat) (R0 : Blk) : chk9 ver R0 5 4 k = true := by
  have e : (ks 4 (pw 5)).length = 5 := by decide +kernel
  rw [e] at hk
  have : k = 0 ∨ k = 1 ∨ k = 2 ∨ k = 3 ∨ k = 4 ∨ k = 5 := by omega
  rcases this with rfl | rfl | rfl | rfl | rfl | rfl
  · exact kb_5_4_0 ver R0
  · exact kb_5_4_1 ver R0
  · exact kb_5_4_2 ver R0
  · exact kb_5_4_3 ver R0
  · exact kb_5_4_4 ver R0
  · exact kb_5_4_5 ver R0
theorem kb_5_5 {k : Nat} (hk : k < (ks 5 (pw 5)).length + 1) (ver : Nat) (R0 : Blk) : chk9 ver R0 5 5 k = true := by
  have e : (ks 5 (pw 5)).length = 1 := by decide +kernel
  rw [e] at hk
  have : k = 0 ∨ k = 1 := by omega
  rcases this with rfl | rfl
  · exact kb_5_5_0 ver R0
  · exact kb_5_5_1 ver R0
theorem kb_1 {r k : Nat} (hr : r < 2) (hk : k < (ks r (pw 1)).length + 1) (ver : Nat) (R0 : Blk) : chk9 ver R0 1 r k = true := by
  have : r = 0 ∨ r = 1 := by omega
  rcases this with rfl | rfl
  · exact kb_1_0 hk ver R0
  · exact kb_1_1 hk ver R0
theorem kb_2 {r k : Nat} (hr : r < 3) (hk : k < (ks r (pw 2)).length + 1) (ver : Nat) (R0 : Blk) : chk9 ver R0 2 r k = true := by
  have : r = 0 ∨ r = 1 ∨ r = 2 := by omega
  rcases this with rfl | rfl | rfl
  · exact kb_2_0 hk ver R0
  · exact kb_2_1 hk ver R0
  · exact kb_2_2 hk ver R0
theorem kb_3 {r k : Nat} (hr : r < 4) (hk : k < (ks r (pw 3)).length + 1) (ver : Nat) (R0 : Blk) : chk9 ver R0 3 r k = true := by
  have : r = 0 ∨ r = 1 ∨ r = 2 ∨ r = 3 := by omega
  rcases this with rfl | rfl | rfl | rfl
  · exact kb_3_0 hk ver R0
  · exact kb_3_1 hk ver R0
  · exact kb_3_2 hk ver R0
  · exact kb_3_3 hk ver R0
theorem kb_4 {r k : Nat} (hr : r < 5) (hk : k < (ks r (pw 4)).length + 1) (ver : Nat) (R0 : Blk) : chk9 ver R0 4 r k = true := by
  have : r = 0 ∨ r = 1 ∨ r = 2 ∨ r = 3 ∨ r = 4 := by omega
  rcases this with rfl | rfl | rfl | rfl | rfl
  · exact kb_4_0 hk ver R0
  · exact kb_4_1 hk ver R0
  · exact kb_4_2 hk ver R0
  · exact kb_4_3 hk ver R0
  · exact kb_4_4 hk ver R0
theorem kb_5 {r k : Nat} (hr : r < 6) (hk : k < (ks r (pw 5)).length + 1) (ver : Nat) (R0 : Blk) : chk9 ver R0 5 r k = true := by
  have : r = 0 ∨ r = 1 ∨ r = 2 ∨ r = 3 ∨ r = 4 ∨ r = 5 := by omega
  rcases this with rfl | rfl | rfl | rfl | rfl | rfl
  · exact kb_5_0 hk ver R0
  · exact kb_5_1 hk ver R0
  · exact kb_5_2 hk ver R0
  · exact kb_5_3 hk ver R0
  · exact kb_5_4 hk ver R0
  · exact kb_5_5 hk ver R0
theorem kb_all {m r k : Nat} (hm : m < 5) (hr : r < m + 2) (hk : k < (ks r (pw (m + 1))).length + 1) (ver : Nat) (R0 : Blk) : chk9 ver R0 (m + 1) r k = true := by
  have : m = 0 ∨ m = 1 ∨ m = 2 ∨ m = 3 ∨ m = 4 := by omega
  rcases this with rfl | rfl | rfl | rfl | rfl
  · exact kb_1 hr hk ver R0
  · exact kb_2 hr hk ver R0
  · exact kb_3 hr hk ver R0
  · exact kb_4 hr hk ver R0
  · exact kb_5 hr hk ver R0
theorem katona_true {a b c : Nat} (ha : a < 256) (hb : b < 256) (hc : c < 256) : ∃ f H', acall E f 9 [.int .u8 (a : Nat), .int .u8 (b : Nat), .int .u8 (c : Nat)] [] = some (.bool true, H') := by
  obtain ⟨m, hm⟩ : ∃ m, m = a % 5 := ⟨_, rfl⟩
  obtain ⟨r, hr⟩ : ∃ r, r = b % (m + 2) := ⟨_, rfl⟩
  obtain ⟨k, hk⟩ : ∃ k, k = c % ((ks r (pw (m + 1))).length + 1) := ⟨_, rfl⟩
  have hm5 : m < 5 := by omega
  have hr2 : r < m + 2 := by rw [hr]; exact Nat.mod_lt _ (by omega)
  have hk2 : k < (ks r (pw (m + 1))).length + 1 := by rw [hk]; exact Nat.mod_lt _ (by omega)
  obtain ⟨f, v, H', h, rfl⟩ := red9 (Q := fun v _ => v = .bool true) ha hb hc hm hr hk (law9 hm5 hr2 hk2 (kb_all hm5 hr2 hk2))
  exact ⟨f, H', h⟩
end Go.Proofs.YtbkhffakhggdaaaDoor.Code
