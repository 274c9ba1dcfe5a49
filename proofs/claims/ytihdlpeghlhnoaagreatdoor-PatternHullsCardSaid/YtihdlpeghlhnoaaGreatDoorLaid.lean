/-
  What the listed table holds, of this seat: so the evaluator may read it.
-/
import Derived.Test.YtihdlpeghlhnoaaGreatDoorRows
import Derived.Test.YtihdlpeghlhnoaaGreatDoorAbLaid
import Derived.Test.YtihdlpeghlhnoaaGreatDoorChecked
import Derived.WalkKit
import Derived.ProofKit
import Derived.LaidMore
import Derived.OpenShut
import Derived.Stop.Joined
import Derived.Test.YtihdlpeghlhnoaaGreatDoorAbTop
import Derived.ChangeSame
set_option linter.all false
namespace Go.Proofs.YtihdlpeghlhnoaaGreatDoor
open Go.ChangeShapes Go.WideShapes Go.ChangeAt Go.RowKit
/-- a table of tables, cell by cell -/
theorem nest_cells {P : Program} {H : Type} {enc : TypeId × Value → H} {W : World} {base : Nat} {spare : Nat → Bool} {held : Bool} {fuel : Nat} {t e e0 : TypeId} {n m : Nat} {k : IntKind} {tab : List (List Int)} {cs : List Value} {q : List MemPlace}
    (ht : P.underlying t = some (.array n e)) (he : P.underlying e = some (.array m e0)) (hi : P.underlying e0 = some (.int k)) (hce : P.cellsOf e = m) (hci : P.cellsOf e0 = 1)
    (h : DataW.trod enc P W base spare held fuel t cs = some (.agg (tab.map fun r => .agg (r.map fun x => .lit (.int k x))), q)) (i j : Nat) (r : List Int) (x : Int)
    (hr : tab[i]? = some r) (hx : r[j]? = some x) : cs[i * m + j]? = some (.int k x) := by
  obtain ⟨xs, f, rfl, hxs, hlen, hn, hel⟩ := DataW.trod_array ht h
  simp only [Prod.mk.injEq, DataW.agg.injEq] at hxs
  obtain ⟨h1, _⟩ := hxs
  have hl := congrArg List.length h1
  simp only [List.length_map] at hl
  have hil : i < xs.length := by have := (List.getElem?_eq_some_iff.1 hr).1; omega
  have h2 := hel i (by omega)
  rw [hce, List.getElem?_eq_getElem hil] at h2
  have h4 := congrArg (·[i]?) h1
  simp only [List.getElem?_map, hr, List.getElem?_eq_getElem hil, Option.map_some, Option.some.injEq] at h4
  generalize xs[i] = y at h2 h4
  obtain ⟨d, q'⟩ := y
  simp only at h4
  subst h4
  have h3 := Ab.table_cells (cs := ((cs.drop (i * m)).take m).toArray) he hi hci (by rw [List.toList_toArray]; exact h2) j x hx
  rw [List.getElem?_toArray, List.getElem?_take] at h3
  split at h3
  · rwa [List.getElem?_drop] at h3
  · cases h3
abbrev laid2 : List (String × DataW Unit) := [("aigrette/pattern.quarters", Rows.laid_aigrette_pattern_quarters)]
theorem glQ : Tryz.prog.globalNamed "aigrette/pattern.quarters" = some 0 := by kernel_rfl
theorem tyQ : (Tryz.prog.globals[0]?).map (·.type) = some 144 := by kernel_rfl
def quartT : List (List Int) := [[0, 1, 2, -1], [-1, 0, 1, 2], [2, -1, 0, 1], [1, 2, -1, 0]]
theorem quart_at : ∀ j, j < 16 → (quartT[j / 4]?.bind (·[j % 4]?)) = Ab.quarters[j]? := by decide
theorem globs_cases {g : Nat} {x : Ab.AV} (h : Ab.globs g = some x) : g = 0 ∧ x = .agg (Ab.quarters.map (Ab.AV.int .i64)) := by
  unfold Ab.globs at h
  split at h
  · cases h; exact ⟨rfl, rfl⟩
  · cases h
/-- the condition gives the walk its table -/
theorem glob_of {W : World} (h : laidMetH Tryz.prog laid2 W) : Ab.GlobOK (Ab.ctx0 W) := by
  rw [MakeChecks.laidMetH_plain _ _ _ (by kernel_rfl)] at h
  obtain ⟨ps, ⟨g0, t0, cs0, f0, p0, q0, hg0, ht0, hv0, hd0, _, _⟩, _, _⟩ := h
  obtain rfl := Option.some.inj (glQ.symm.trans hg0)
  obtain rfl := Option.some.inj (tyQ.symm.trans ht0)
  intro g x hx
  obtain ⟨rfl, rfl⟩ := globs_cases hx
  refine Ab.table_VR (by decide) fun j x hj => ?_
  have hj16 : j < 16 := (List.getElem?_eq_some_iff.1 hj).1
  have hq := quart_at j hj16
  rw [hj] at hq
  obtain ⟨r, hr, hx⟩ := Option.bind_eq_some_iff.1 hq
  have := nest_cells (tab := quartT) Tryz.underlying144 Tryz.underlying143 Tryz.underlying3 (by kernel_rfl) (by kernel_rfl) hd0 (j / 4) (j % 4) r x hr hx
  rw [World.var?_cell hg0 hv0 j, ← Array.getElem?_toList]
  rwa [show j / 4 * 4 + j % 4 = j by omega] at this
/-- the door's own heap meets the condition -/
theorem door_met (os : Os) (args : Array Value) : laidMetH Tryz.prog laid2 ((World.doorLaid Tryz.prog 400 os).forCall (fun _ _ => 0) ⟨#[], args, []⟩).memory :=
  laidMetH_of_parts3 (fuel := 8) (laidMet_of_run' 8 (by kernel_rfl) (by kernel_rfl)) (by kernel_rfl) (by kernel_rfl)
end Go.Proofs.YtihdlpeghlhnoaaGreatDoor
section
namespace Go.Proofs.YtihdlpeghlhnoaaGreatDoor
open Go.ChangeShapes Go.WideShapes Go.ChangeAt Go.RowKit
variable {H : Type} {enc : TypeId × Value → H} {P : Program}

theorem law_post {f : Func} {s : ChangeSpec} {apart fresh handsOn again : Bool} {W W' : World} {args : Array Value} {v : Value} {ds : List (DataW H)} {at0 : List MemPlace}
    (whole : DataW.Whole enc P f.params.toList s.vars apart W args.toList ds [] at0)
    (below : Below W.heap.size W W')
    (res : ∀ (b : Nat) (sp : Nat → Bool) (hd : Bool), DataW.TrodAll enc P W' b sp hd f.resultTypes.toList (v.resultList f.resultTypes.size) (s.fn H (ds ++ [])).results [])
    (read : ∀ sp : Nat → Bool, (∀ p ∈ at0, sp p.block = true) → DataW.TrodAll enc P W' 0 sp true f.params.toList args.toList (s.fn H (ds ++ [])).args at0)
    (none : ∀ sp : Nat → Bool, DataW.TrodVars enc P W' sp s.vars (s.fn H (ds ++ [])).vars [])
    (ok : ∀ (j : Nat) (t : TypeId) (r : Value), f.resultTypes[j]? = some t → (v.resultList f.resultTypes.size)[j]? = some r → Value.okWide P W' .any 0 t r) :
    s.post enc P f apart fresh handsOn again W args v W' := by
  have old : ∀ p ∈ at0, p.block < W.heap.size := fun p hp => whole.lt p hp
  refine ⟨ds, [], at0, [], at0, [], whole, res _ _ _, read (fun b => decide (b < W.heap.size)) (fun p hp => by simpa using old p hp), none _, World.keptBut_mono (fun p hp => ⟨hp, ?_⟩) (below.frame (· ∈ at0)), fun _ => ⟨ok, ?_⟩⟩
  · exact Or.inr (by simpa using hp)
  · obtain ⟨_, _, _, _, _, frz, dis⟩ := whole
    refine ⟨_, _, ([] ++ at0) ++ [], ⟨[] ++ at0, [], trodAll_append (read _ fun _ _ => rfl) (res _ _ _), none _, rfl, fun b off hp => ?_, fun ha => ?_⟩, fun p hp _ => ?_⟩
    · have hin : MemPlace.cell b off ∈ at0 := by simpa using hp
      rw [below.frozen (old _ hin)]
      exact frz b off hin
    · simpa using dis ha
    · simpa using hp
end Go.Proofs.YtihdlpeghlhnoaaGreatDoor
end
