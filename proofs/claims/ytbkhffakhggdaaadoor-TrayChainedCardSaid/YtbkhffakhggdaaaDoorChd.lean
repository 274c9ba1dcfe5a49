/-
  Parts of the proofs about this chapter, joined: rules, contracts of functions and plain laws.
-/
import Derived.Test.YtbkhffakhggdaaaDoorCh1
import Derived.Test.YtbkhffakhggdaaaDoorCh2
import Derived.Test.YtbkhffakhggdaaaDoorCh3
import Derived.Test.YtbkhffakhggdaaaDoorCh4
import Derived.Test.YtbkhffakhggdaaaDoorCh5
import Derived.Test.YtbkhffakhggdaaaDoorCh6
import Derived.Test.YtbkhffakhggdaaaDoorCh7
import Derived.Test.YtbkhffakhggdaaaDoorCh8
import Derived.Test.YtbkhffakhggdaaaDoorCh9
import Derived.Test.YtbkhffakhggdaaaDoorCh10
import Derived.Test.YtbkhffakhggdaaaDoorCh11
import Derived.KernelRfl
import Derived.Test.YtbkhffakhggdaaaDoorTA
set_option linter.all false
section
namespace Go.Proofs.YtbkhffakhggdaaaDoor.Code
open Go Go.Ab
theorem e8_0 : ∀ x, x < 2 → ch8 0 x = true := fun x hx => by
  match x, hx with
  | 0, _ => exact e8_0_0
  | 1, _ => exact e8_0_1
  | x + 2, hx => omega
theorem e8_1 : ∀ x, x < 4 → ch8 1 x = true := fun x hx => by
  match x, hx with
  | 0, _ => exact e8_1_0
  | 1, _ => exact e8_1_1
  | 2, _ => exact e8_1_2
  | 3, _ => exact e8_1_3
  | x + 4, hx => omega
theorem e8_2 : ∀ x, x < 8 → ch8 2 x = true := fun x hx => by
  match x, hx with
  | 0, _ => exact e8_2_0
  | 1, _ => exact e8_2_1
  | 2, _ => exact e8_2_2
  | 3, _ => exact e8_2_3
  | 4, _ => exact e8_2_4
  | 5, _ => exact e8_2_5
  | 6, _ => exact e8_2_6
  | 7, _ => exact e8_2_7
  | x + 8, hx => omega
theorem e8_3 : ∀ x, x < 16 → ch8 3 x = true := fun x hx => by
  match x, hx with
  | 0, _ => exact e8_3_0
  | 1, _ => exact e8_3_1
  | 2, _ => exact e8_3_2
  | 3, _ => exact e8_3_3
  | 4, _ => exact e8_3_4
  | 5, _ => exact e8_3_5
  | 6, _ => exact e8_3_6
  | 7, _ => exact e8_3_7
  | 8, _ => exact e8_3_8
  | 9, _ => exact e8_3_9
  | 10, _ => exact e8_3_10
  | 11, _ => exact e8_3_11
  | 12, _ => exact e8_3_12
  | 13, _ => exact e8_3_13
  | 14, _ => exact e8_3_14
  | 15, _ => exact e8_3_15
  | x + 16, hx => omega
theorem e8_4 : ∀ x, x < 32 → ch8 4 x = true := fun x hx => by
  match x, hx with
  | 0, _ => exact e8_4_0
  | 1, _ => exact e8_4_1
  | 2, _ => exact e8_4_2
  | 3, _ => exact e8_4_3
  | 4, _ => exact e8_4_4
  | 5, _ => exact e8_4_5
  | 6, _ => exact e8_4_6
  | 7, _ => exact e8_4_7
  | 8, _ => exact e8_4_8
  | 9, _ => exact e8_4_9
  | 10, _ => exact e8_4_10
  | 11, _ => exact e8_4_11
  | 12, _ => exact e8_4_12
  | 13, _ => exact e8_4_13
  | 14, _ => exact e8_4_14
  | 15, _ => exact e8_4_15
  | 16, _ => exact e8_4_16
  | 17, _ => exact e8_4_17
  | 18, _ => exact e8_4_18
  | 19, _ => exact e8_4_19
  | 20, _ => exact e8_4_20
  | 21, _ => exact e8_4_21
  | 22, _ => exact e8_4_22
  | 23, _ => exact e8_4_23
  | 24, _ => exact e8_4_24
  | 25, _ => exact e8_4_25
  | 26, _ => exact e8_4_26
  | 27, _ => exact e8_4_27
  | 28, _ => exact e8_4_28
  | 29, _ => exact e8_4_29
  | 30, _ => exact e8_4_30
  | 31, _ => exact e8_4_31
  | x + 32, hx => omega
theorem e8_5 : ∀ x, x < 64 → ch8 5 x = true := fun x hx => by
  match x, hx with
  | 0, _ => exact e8_5_0
  | 1, _ => exact e8_5_1
  | 2, _ => exact e8_5_2
  | 3, _ => exact e8_5_3
  | 4, _ => exact e8_5_4
  | 5, _ => exact e8_5_5
  | 6, _ => exact e8_5_6
  | 7, _ => exact e8_5_7
  | 8, _ => exact e8_5_8
  | 9, _ => exact e8_5_9
  | 10, _ => exact e8_5_10
  | 11, _ => exact e8_5_11
  | 12, _ => exact e8_5_12
  | 13, _ => exact e8_5_13
  | 14, _ => exact e8_5_14
  | 15, _ => exact e8_5_15
  | 16, _ => exact e8_5_16
  | 17, _ => exact e8_5_17
  | 18, _ => exact e8_5_18
  | 19, _ => exact e8_5_19
  | 20, _ => exact e8_5_20
  | 21, _ => exact e8_5_21
  | 22, _ => exact e8_5_22
  | 23, _ => exact e8_5_23
  | 24, _ => exact e8_5_24
  | 25, _ => exact e8_5_25
  | 26, _ => exact e8_5_26
  | 27, _ => exact e8_5_27
  | 28, _ => exact e8_5_28
  | 29, _ => exact e8_5_29
  | 30, _ => exact e8_5_30
  | 31, _ => exact e8_5_31
  | 32, _ => exact e8_5_32
  | 33, _ => exact e8_5_33
  | 34, _ => exact e8_5_34
  | 35, _ => exact e8_5_35
  | 36, _ => exact e8_5_36
  | 37, _ => exact e8_5_37
  | 38, _ => exact e8_5_38
  | 39, _ => exact e8_5_39
  | 40, _ => exact e8_5_40
  | 41, _ => exact e8_5_41
  | 42, _ => exact e8_5_42
  | 43, _ => exact e8_5_43
  | 44, _ => exact e8_5_44
  | 45, _ => exact e8_5_45
  | 46, _ => exact e8_5_46
  | 47, _ => exact e8_5_47
  | 48, _ => exact e8_5_48
  | 49, _ => exact e8_5_49
  | 50, _ => exact e8_5_50
  | 51, _ => exact e8_5_51
  | 52, _ => exact e8_5_52
  | 53, _ => exact e8_5_53
  | 54, _ => exact e8_5_54
  | 55, _ => exact e8_5_55
  | 56, _ => exact e8_5_56
  | 57, _ => exact e8_5_57
  | 58, _ => exact e8_5_58
  | 59, _ => exact e8_5_59
  | 60, _ => exact e8_5_60
  | 61, _ => exact e8_5_61
  | 62, _ => exact e8_5_62
  | 63, _ => exact e8_5_63
  | x + 64, hx => omega
theorem e8 : ∀ m, m < 6 → ∀ x, x < 2 ^ (m + 1) → ch8 m x = true := fun m hm x hx => by
  match m, hm with
  | 0, _ => exact e8_0 x hx
  | 1, _ => exact e8_1 x hx
  | 2, _ => exact e8_2 x hx
  | 3, _ => exact e8_3 x hx
  | 4, _ => exact e8_4 x hx
  | 5, _ => exact e8_5 x hx
  | m + 6, hm => omega
end Go.Proofs.YtbkhffakhggdaaaDoor.Code
end

section
namespace Go.Proofs.YtbkhffakhggdaaaDoor.Code
open Go Go.Ab
theorem chained_true {a b : Nat} (ha : a < 256) (hb : b < 256) : ∃ f H', acall E f 8 [.int .u8 (a : Nat), .int .u8 (b : Nat)] [] = some (.bool true, H') := by
  obtain ⟨n, H', he⟩ := chk_true (e8 (a % 6) (Nat.mod_lt _ (by decide)) (b % pw (a % 6 + 1)) (Nat.mod_lt _ pw_pos))
  obtain ⟨f, v, H'', h1, rfl⟩ := red8 (Q := fun v _ => v = .bool true) ha hb rfl rfl ⟨n, _, H', he, rfl⟩
  exact ⟨f, H'', h1⟩
end Go.Proofs.YtbkhffakhggdaaaDoor.Code
end
