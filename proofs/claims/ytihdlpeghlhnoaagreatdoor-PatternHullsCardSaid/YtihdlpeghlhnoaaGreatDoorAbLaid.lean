/-
  What a listed table of numbers holds, as a row tells it: so the evaluator reads it.
-/
import Derived.Test.YtihdlpeghlhnoaaGreatDoorAbTop
import Derived.OpenShut
import Derived.FnData
import Derived.MakeChecks
set_option linter.all false
namespace Go.Ab
variable {P : Program}

theorem table_cells {H : Type} {enc : TypeId × Value → H} {W : World} {base : Nat} {spare : Nat → Bool} {held : Bool} {fuel : Nat} {t e : TypeId} {n : Nat} {k : IntKind} {tab : List Int} {cs : Array Value} {q : List MemPlace}
    (ht : P.underlying t = some (.array n e)) (he : P.underlying e = some (.int k)) (hce : P.cellsOf e = 1) (h : DataW.trod enc P W base spare held fuel t cs.toList = some (.agg (tab.map fun x => .lit (.int k x)), q)) (j : Nat) (x : Int)
    (hj : tab[j]? = some x) : cs[j]? = some (.int k x) := by
  obtain ⟨xs, m, rfl, hx, hlen, hn, hel⟩ := DataW.trod_array ht h
  simp only [Prod.mk.injEq, DataW.agg.injEq] at hx
  obtain ⟨hx1, _⟩ := hx
  have hl := congrArg List.length hx1
  simp only [List.length_map] at hl
  have hjl : j < xs.length := by have := (List.getElem?_eq_some_iff.1 hj).1; omega
  have h2 := hel j (by omega)
  rw [hce, Nat.mul_one, List.getElem?_eq_getElem hjl] at h2
  obtain ⟨r, e1, e2, _⟩ := DataW.trod_int he h2
  have h3 : cs[j]? = some (.int k r) := by
    have := congrArg (·[0]?) e1
    simpa using this
  have h4 := congrArg (·[j]?) hx1
  simp only [List.getElem?_map, hj, List.getElem?_eq_getElem hjl, Option.map_some, e2, Option.some.injEq, DataW.lit.injEq, Lit.int.injEq, true_and] at h4
  rw [h3, h4]

theorem table_VR {W : World} {g : Nat} {k : IntKind} {tab : List Int} (hne : tab ≠ []) (hc : ∀ (j : Nat) (x : Int), tab[j]? = some x → W.cell? ⟨g, j, none⟩ = some (.int k x)) :
    (AV.agg (tab.map (AV.int k))).top = 0 ∧ VR (ctx0 W) (.fp (.agg (tab.map (AV.int k)))) (.pointer (some ⟨g, 0, none⟩)) := by
  have hg : g < W.heap.size := by
    cases tab with
    | nil => exact absurd rfl hne
    | cons a r =>
      have := hc 0 a rfl
      rcases Nat.lt_or_ge g W.heap.size with h | h
      · exact h
      · simp [World.cell?, Array.getElem?_eq_none h] at this
  refine ⟨Nat.eq_zero_of_le_zero (AV.le_tops fun c hc => ?_), .fp _ g 0 (fun j => .int k (tab.getD j 0)) (fun c hc => ?_) (fun j c hj => ?_) fun j c hj => ?_⟩
  · obtain ⟨x, _, rfl⟩ := List.mem_map.1 hc
    exact Nat.le_refl _
  · simp only [AV.cells] at hc
    obtain ⟨x, _, rfl⟩ := List.mem_map.1 hc
    rfl
  · simp only [AV.cells, List.getElem?_map, Option.map_eq_some_iff] at hj
    obtain ⟨x, hx, rfl⟩ := hj
    refine ⟨?_, hg⟩
    show W.cell? _ = _
    rw [Nat.zero_add, hc j x hx]
    simp [List.getD, hx]
  · simp only [AV.cells, List.getElem?_map, Option.map_eq_some_iff] at hj
    obtain ⟨x, hx, rfl⟩ := hj
    have : tab.getD j 0 = x := by simp [List.getD, hx]
    rw [this]
    exact .int _ _
end Go.Ab
