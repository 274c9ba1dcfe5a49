/-
  Part of the proofs about this chapter: contracts of functions and plain laws.
-/
import Derived.Test.YthoogegclpiefaaQB
import Derived.Test.YthoogegclpiefaaMostEv
set_option linter.all false
namespace Go.Proofs.Ythoogegclpiefaa.Code
open Go Go.Ab
variable {pure : Bool} {base bar : Nat} {H : Heap} {Q : AV → Heap → Prop}

theorem k31e {p b : Int} (h : (within 1 8 p && within 1 8 b) = false) : WpCall E pure base bar 31 [.int .i64 p, .int .i64 b] H Q ↔ Q (.tup [.int .i64 0, .int .i64 1]) H := by
  rw [call31]
  cases h1 : within 1 8 p <;> cases h2 : within 1 8 b <;> simp [h1, h2] at h <;> simp [go_sem, WpFun, c31, k79, h1, h2]
theorem k32e {p b : Int} (h : (within 1 8 p && within 1 8 b) = false) : WpCall E pure base bar 32 [.int .i64 p, .int .i64 b] H Q ↔ Q (.tup [.int .i64 0, .int .i64 1]) H := by
  rw [call32]
  cases h1 : within 1 8 p <;> cases h2 : within 1 8 b <;> simp [h1, h2] at h <;> simp [go_sem, WpFun, c32, k72, h1, h2]
theorem k33e {p b : Int} (h : (within 1 8 p && within 1 8 b) = false) (hb : bar ≤ H.length) : WpCall E pure base bar 33 [.int .i64 p, .int .i64 b] H Q ↔ Q (.tup [.agg [.int .i64 0, .nils], .int .i64 1]) H := by
  rw [call33]
  have hb' := bar_ok (pure := pure) hb
  simp [go_sem] at hb'
  cases h1 : within 1 8 p <;> cases h2 : within 1 8 b <;> simp [h1, h2] at h <;> simp [go_sem, WpFun, c33, k79, h1, h2, storeWp, astore, aload, hb']
theorem k34e {p b : Int} (h : (within 1 8 p && within 1 8 b) = false) (hb : bar ≤ H.length) : WpCall E pure base bar 34 [.int .i64 p, .int .i64 b] H Q ↔ Q (.tup [.agg [.int .i64 0, .nils], .int .i64 1]) H := by
  rw [call34]
  have hb' := bar_ok (pure := pure) hb
  simp [go_sem] at hb'
  cases h1 : within 1 8 p <;> cases h2 : within 1 8 b <;> simp [h1, h2] at h <;> simp [go_sem, WpFun, c34, k72, h1, h2, storeWp, astore, aload, hb']

theorem houseless {p b : Int} (h : (within 1 8 p && within 1 8 b) = false) : WpCall E false 0 0 5 [.int .i64 p, .int .i64 b] [] (fun v H' => v = .bool true ∧ H' = []) := by
  rw [call5]
  simp [go_sem, WpFun, c5, k31e h, k32e h, k33e h, k34e h, storeWp, astore, aload, call28, c28, call15]
  rw [wp_round c28_l0.eq_1]
  simp [go_sem, call15]

theorem most_true (p b : Int) : ∃ n H', acall E n 5 [.int .i64 p, .int .i64 b] [] = some (.bool true, H') := by
  by_cases h : (within 1 8 p && within 1 8 b) = true
  · simp [within] at h
    obtain ⟨⟨h1, h2⟩, h3, h4⟩ := h
    have hp : p = 1 ∨ p = 2 ∨ p = 3 ∨ p = 4 ∨ p = 5 ∨ p = 6 ∨ p = 7 ∨ p = 8 := by omega
    have hb : b = 1 ∨ b = 2 ∨ b = 3 ∨ b = 4 ∨ b = 5 ∨ b = 6 ∨ b = 7 ∨ b = 8 := by omega
    rcases hp with rfl | rfl | rfl | rfl | rfl | rfl | rfl | rfl
    · rcases hb with rfl | rfl | rfl | rfl | rfl | rfl | rfl | rfl
      · exact ⟨_, _, MostEv.m11⟩
      · exact ⟨_, _, MostEv.m12⟩
      · exact ⟨_, _, MostEv.m13⟩
      · exact ⟨_, _, MostEv.m14⟩
      · exact ⟨_, _, MostEv.m15⟩
      · exact ⟨_, _, MostEv.m16⟩
      · exact ⟨_, _, MostEv.m17⟩
      · exact ⟨_, _, MostEv.m18⟩
    · rcases hb with rfl | rfl | rfl | rfl | rfl | rfl | rfl | rfl
      · exact ⟨_, _, MostEv.m21⟩
      · exact ⟨_, _, MostEv.m22⟩
      · exact ⟨_, _, MostEv.m23⟩
      · exact ⟨_, _, MostEv.m24⟩
      · exact ⟨_, _, MostEv.m25⟩
      · exact ⟨_, _, MostEv.m26⟩
      · exact ⟨_, _, MostEv.m27⟩
      · exact ⟨_, _, MostEv.m28⟩
    · rcases hb with rfl | rfl | rfl | rfl | rfl | rfl | rfl | rfl
      · exact ⟨_, _, MostEv.m31⟩
      · exact ⟨_, _, MostEv.m32⟩
      · exact ⟨_, _, MostEv.m33⟩
      · exact ⟨_, _, MostEv.m34⟩
      · exact ⟨_, _, MostEv.m35⟩
      · exact ⟨_, _, MostEv.m36⟩
      · exact ⟨_, _, MostEv.m37⟩
      · exact ⟨_, _, MostEv.m38⟩
    · rcases hb with rfl | rfl | rfl | rfl | rfl | rfl | rfl | rfl
      · exact ⟨_, _, MostEv.m41⟩
      · exact ⟨_, _, MostEv.m42⟩
      · exact ⟨_, _, MostEv.m43⟩
      · exact ⟨_, _, MostEv.m44⟩
      · exact ⟨_, _, MostEv.m45⟩
      · exact ⟨_, _, MostEv.m46⟩
      · exact ⟨_, _, MostEv.m47⟩
      · exact ⟨_, _, MostEv.m48⟩
    · rcases hb with rfl | rfl | rfl | rfl | rfl | rfl | rfl | rfl
      · exact ⟨_, _, MostEv.m51⟩
      · exact ⟨_, _, MostEv.m52⟩
      · exact ⟨_, _, MostEv.m53⟩
      · exact ⟨_, _, MostEv.m54⟩
      · exact ⟨_, _, MostEv.m55⟩
      · exact ⟨_, _, MostEv.m56⟩
      · exact ⟨_, _, MostEv.m57⟩
      · exact ⟨_, _, MostEv.m58⟩
    · rcases hb with rfl | rfl | rfl | rfl | rfl | rfl | rfl | rfl
      · exact ⟨_, _, MostEv.m61⟩
      · exact ⟨_, _, MostEv.m62⟩
      · exact ⟨_, _, MostEv.m63⟩
      · exact ⟨_, _, MostEv.m64⟩
      · exact ⟨_, _, MostEv.m65⟩
      · exact ⟨_, _, MostEv.m66⟩
      · exact ⟨_, _, MostEv.m67⟩
      · exact ⟨_, _, MostEv.m68⟩
    · rcases hb with rfl | rfl | rfl | rfl | rfl | rfl | rfl | rfl
      · exact ⟨_, _, MostEv.m71⟩
      · exact ⟨_, _, MostEv.m72⟩
      · exact ⟨_, _, MostEv.m73⟩
      · exact ⟨_, _, MostEv.m74⟩
      · exact ⟨_, _, MostEv.m75⟩
      · exact ⟨_, _, MostEv.m76⟩
      · exact ⟨_, _, MostEv.m77⟩
      · exact ⟨_, _, MostEv.m78⟩
    · rcases hb with rfl | rfl | rfl | rfl | rfl | rfl | rfl | rfl
      · exact ⟨_, _, MostEv.m81⟩
      · exact ⟨_, _, MostEv.m82⟩
      · exact ⟨_, _, MostEv.m83⟩
      · exact ⟨_, _, MostEv.m84⟩
      · exact ⟨_, _, MostEv.m85⟩
      · exact ⟨_, _, MostEv.m86⟩
      · exact ⟨_, _, MostEv.m87⟩
      · exact ⟨_, _, MostEv.m88⟩
  · obtain ⟨n, e⟩ := WpCall.acall (H := []) (show WpCall E false ([] : Heap).length 0 5 [.int .i64 p, .int .i64 b] [] _ from houseless (by simpa using h))
    exact ⟨n, _, e⟩
end Go.Proofs.Ythoogegclpiefaa.Code
