/-
  Answers of calls that are known, and calls.
-/
import Derived.Test.YtngoldipfgfecaaDoorEvT
import Derived.Test.YtngoldipfgfecaaDoorEv1
import Derived.Test.YtngoldipfgfecaaDoorEv2
import Derived.Test.YtngoldipfgfecaaDoorEv3
import Derived.Test.YtngoldipfgfecaaDoorEv4
import Derived.Test.YtngoldipfgfecaaDoorEv5
import Derived.Test.YtngoldipfgfecaaDoorEv6
import Derived.Test.YtngoldipfgfecaaDoorEv7
import Derived.Test.YtngoldipfgfecaaDoorEv8
import Derived.Test.YtngoldipfgfecaaDoorEv9
import Derived.KernelRfl
set_option linter.all false
namespace Go.Proofs.YtngoldipfgfecaaDoor.Code
open Go Go.Ab
theorem e8_all : ∀ n, n < 32 → e8 n = true := fun n hn => match n, hn with
  | 0, _ => e8_0
  | 1, _ => e8_1
  | 2, _ => e8_2
  | 3, _ => e8_3
  | 4, _ => e8_4
  | 5, _ => e8_5
  | 6, _ => e8_6
  | 7, _ => e8_7
  | 8, _ => e8_8
  | 9, _ => e8_9
  | 10, _ => e8_10
  | 11, _ => e8_11
  | 12, _ => e8_12
  | 13, _ => e8_13
  | 14, _ => e8_14
  | 15, _ => e8_15
  | 16, _ => e8_16
  | 17, _ => e8_17
  | 18, _ => e8_18
  | 19, _ => e8_19
  | 20, _ => e8_20
  | 21, _ => e8_21
  | 22, _ => e8_22
  | 23, _ => e8_23
  | 24, _ => e8_24
  | 25, _ => e8_25
  | 26, _ => e8_26
  | 27, _ => e8_27
  | 28, _ => e8_28
  | 29, _ => e8_29
  | 30, _ => e8_30
  | 31, _ => e8_31
  | n + 32, h => absurd h (by omega)
theorem all_of {f : Nat → Bool} {i c : Nat} (h : (List.range' i c).all f = true) {x : Nat} (h1 : i ≤ x) (h2 : x < i + c) : f x = true := by
  rw [List.all_eq_true] at h
  exact h x (List.mem_range'_1.2 ⟨h1, h2⟩)
theorem e10_all (n : Nat) (hn : n < 32) : e10 n = true := by
  by_cases h0 : n < 8
  · exact all_of e10_0 (by omega) (by omega)
  by_cases h8 : n < 16
  · exact all_of e10_8 (by omega) (by omega)
  by_cases h16 : n < 24
  · exact all_of e10_16 (by omega) (by omega)
  by_cases h24 : n < 32
  · exact all_of e10_24 (by omega) (by omega)
  omega
theorem e11_all (n : Nat) (hn : n < 32) : e11 n = true := by
  by_cases h0 : n < 4
  · exact all_of e11_0 (by omega) (by omega)
  by_cases h4 : n < 8
  · exact all_of e11_4 (by omega) (by omega)
  by_cases h8 : n < 12
  · exact all_of e11_8 (by omega) (by omega)
  by_cases h12 : n < 16
  · exact all_of e11_12 (by omega) (by omega)
  by_cases h16 : n < 20
  · exact all_of e11_16 (by omega) (by omega)
  by_cases h20 : n < 24
  · exact all_of e11_20 (by omega) (by omega)
  by_cases h24 : n < 28
  · exact all_of e11_24 (by omega) (by omega)
  by_cases h28 : n < 32
  · exact all_of e11_28 (by omega) (by omega)
  omega
theorem e10b_all (n : Nat) (hn : n < 16) : e10b n = true := by
  by_cases h0 : n < 8
  · exact all_of e10b_0 (by omega) (by omega)
  by_cases h8 : n < 16
  · exact all_of e10b_8 (by omega) (by omega)
  omega
theorem e13_all (n : Nat) (hn : n < 16) : e13 n = true := by
  by_cases h0 : n < 4
  · exact all_of e13_0 (by omega) (by omega)
  by_cases h4 : n < 8
  · exact all_of e13_4 (by omega) (by omega)
  by_cases h8 : n < 12
  · exact all_of e13_8 (by omega) (by omega)
  by_cases h12 : n < 16
  · exact all_of e13_12 (by omega) (by omega)
  omega
theorem kn_cond {c : Bool} {v : AV} {k : KRes} {r : Option KRes} (h : (bif c then K1 v else r) = some k) : (c = true ∧ k = { v := v }) ∨ r = some k := by
  cases c
  · exact .inr h
  · simp only [cond_true, K1, Option.some.injEq] at h; exact .inl ⟨rfl, h.symm⟩
theorem tops_iv {n : Nat} : (iv n).top = 0 := rfl
theorem top_digs {n : Nat} : (digs n).top = 0 := rfl
theorem top_pos5 {n : Nat} : (pos5 n).top = 0 := rfl
theorem top_pos4 {n : Nat} : (pos4 n).top = 0 := rfl
def KeptR (f : FuncId) (args : List AV) (k : KRes) : Prop := ∃ v, k = { v := v } ∧ Kept Tryd.prog (f, args, v)
theorem known8 {args : List AV} {k : KRes} (h : kn8 args = some k) : KeptR 8 args k := by
  unfold kn8 at h
  split at h
  · rcases kn_cond h with ⟨hc, rfl⟩ | h
    · simp only [Bool.and_eq_true, Nat.blt_eq] at hc
      obtain ⟨⟨h1, h2⟩, h3⟩ := hc
      rw [AV.same_eq _ _ h1, AV.same_eq _ _ h2]
      exact ⟨_, rfl, keptQ (e8_all _ h3) rfl rfl⟩
    · cases h
  · cases h
theorem known67 {args : List AV} {k : KRes} (h : kn67 args = some k) : KeptR 67 args k := by
  unfold kn67 at h
  split at h
  · rcases kn_cond h with ⟨hc, rfl⟩ | h
    · simp only [Bool.and_eq_true] at hc
      rw [AV.same_eq _ _ hc.1, AV.same_eq _ _ hc.2]
      exact ⟨_, rfl, keptQ e67_t rfl rfl⟩
    · cases h
  · cases h
theorem known10 {args : List AV} {k : KRes} (h : kn10 args = some k) : KeptR 10 args k := by
  unfold kn10 at h
  split at h
  · rcases kn_cond h with ⟨hc, rfl⟩ | h
    · simp only [Bool.and_eq_true, Nat.blt_eq] at hc
      obtain ⟨h1, h3⟩ := hc
      rw [Nat.eq_of_beq_eq_true h1]
      exact ⟨_, rfl, keptQ (e10_all _ h3) rfl rfl⟩
    · rcases kn_cond h with ⟨hc, rfl⟩ | h
      · simp only [Bool.and_eq_true, Nat.blt_eq] at hc
        obtain ⟨h1, h3⟩ := hc
        rw [Nat.eq_of_beq_eq_true h1]
        exact ⟨_, rfl, keptQ (e10b_all _ h3) rfl rfl⟩
      · cases h
  · cases h
theorem fd5_is {p : AV} {n : Nat} (h : fd5 p = some n) : n < 32 ∧ p = pos5 n := by
  have h1 := List.find?_some h
  have h2 := List.mem_of_find?_eq_some h
  exact ⟨List.mem_range.1 h2, AV.same_eq _ _ h1⟩
theorem fd4_is {p : AV} {n : Nat} (h : fd4 p = some n) : n < 16 ∧ p = pos4 n := by
  have h1 := List.find?_some h
  have h2 := List.mem_of_find?_eq_some h
  exact ⟨List.mem_range.1 h2, AV.same_eq _ _ h1⟩
theorem known11 {args : List AV} {k : KRes} (h : kn11 args = some k) : KeptR 11 args k := by
  unfold kn11 at h
  split at h
  · split at h
    · rename_i n hn
      obtain ⟨h1, rfl⟩ := fd5_is hn
      cases h
      exact ⟨_, rfl, keptQ (e11_all _ h1) rfl rfl⟩
    · cases h
  · cases h
theorem known13 {args : List AV} {k : KRes} (h : kn13 args = some k) : KeptR 13 args k := by
  unfold kn13 at h
  split at h
  · rename_i p o
    cases ho : o.same open4
    · rw [ho] at h; cases h
    · rw [ho] at h
      simp only [cond_true] at h
      split at h
      · rename_i n hn
        obtain ⟨h1, rfl⟩ := fd4_is hn
        cases h
        rw [AV.same_eq _ _ ho]
        exact ⟨_, rfl, keptQ (e13_all _ h1) rfl rfl⟩
      · cases h
  · cases h
theorem known12 {args : List AV} {k : KRes} (h : kn12 args = some k) : KeptR 12 args k := by
  unfold kn12 at h
  split at h
  · cases h; exact ⟨_, rfl, keptQ e12_t rfl rfl⟩
  · cases h
theorem knownB_kept {f : FuncId} {args : List AV} {H : Heap} {k : KRes} (h : knownB f args H = some k) : KeptR f args k := by
  unfold knownB at h
  cases h12 : Nat.beq f 12
  case true =>
    rw [h12] at h
    obtain rfl := Nat.eq_of_beq_eq_true h12
    exact known12 h
  rw [h12] at h; simp only [cond_false] at h
  cases h8 : Nat.beq f 8
  case true =>
    rw [h8] at h
    obtain rfl := Nat.eq_of_beq_eq_true h8
    exact known8 h
  rw [h8] at h; simp only [cond_false] at h
  cases h10 : Nat.beq f 10
  case true =>
    rw [h10] at h
    obtain rfl := Nat.eq_of_beq_eq_true h10
    exact known10 h
  rw [h10] at h; simp only [cond_false] at h
  cases h11 : Nat.beq f 11
  case true =>
    rw [h11] at h
    obtain rfl := Nat.eq_of_beq_eq_true h11
    exact known11 h
  rw [h11] at h; simp only [cond_false] at h
  cases h13 : Nat.beq f 13
  case true =>
    rw [h13] at h
    obtain rfl := Nat.eq_of_beq_eq_true h13
    exact known13 h
  rw [h13] at h; simp only [cond_false] at h
  cases h67 : Nat.beq f 67
  case true =>
    rw [h67] at h
    obtain rfl := Nat.eq_of_beq_eq_true h67
    exact known67 h
  rw [h67] at h; simp only [cond_false] at h
  cases h
theorem knownE : KnownOK Tryd.prog E := fun f args H k hk => by
  obtain ⟨v, rfl, h⟩ := knownB_kept (show knownB f args H = some k from hk)
  simpa [applyUps] using h H
end Go.Proofs.YtngoldipfgfecaaDoor.Code
