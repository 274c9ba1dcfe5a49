/-
  The quick reading of a drawn region answers as the plain one.
-/
import Derived.Test.YtihdlpeghlhnoaaGreatDoorAbComp
set_option linter.all false
namespace Go.Ab
open Go

theorem maskR_eq (racc : List Nat) : ∀ (es : List Edge) (s : Nat), maskR racc racc.length es s = maskOf racc.reverse es s
  | [], s => rfl
  | e :: r, s => by
    rw [maskR, maskOf, maskR_eq racc r]
    congr 1
    split <;> try rfl
    congr 1
    by_cases h : e.on < racc.length
    · have hb : Nat.blt e.on racc.length = true := by simpa using h
      rw [hb, if_pos rfl, List.getD_eq_getElem?_getD, List.getD_eq_getElem?_getD, List.getElem?_reverse h]
    · have hb : Nat.blt e.on racc.length = false := by
        rw [Bool.eq_false_iff]; simpa using h
      have h2 : racc.reverse.getD e.on 0 = 0 := by rw [List.getD_eq_getElem?_getD, List.getElem?_eq_none (by simpa using h)]; rfl
      rw [hb, h2]; rfl

theorem befsK_eq {α : Type} (k : List Nat → α) : ∀ (l : List Oper) (racc : List Nat), befsK k l racc racc.length = k (befs l racc.reverse)
  | [], racc => rfl
  | o :: r, racc => by
    rw [befsK, befs, ← maskR_eq]
    cases h : maskR racc racc.length o.after.toList 0 with
    | zero => simpa [List.reverse_cons] using befsK_eq k r (0 :: racc)
    | succ m => simpa [List.reverse_cons] using befsK_eq k r ((m + 1) :: racc)

theorem allI_spec {α : Type} {p : Nat → α → Bool} : ∀ {l : List α} {j : Nat}, allI p l j = true ↔ ∀ i a, l[i]? = some a → p (j + i) a = true
  | [], j => by simp [allI]
  | a :: r, j => by
    rw [allI, Bool.and_eq_true, allI_spec (l := r)]
    constructor
    · rintro ⟨h1, h2⟩ i b hb
      cases i with
      | zero => simp only [List.getElem?_cons_zero, Option.some.injEq] at hb; subst hb; exact h1
      | succ i => have := h2 i b (by simpa using hb); rwa [show j + (i + 1) = j + 1 + i from by omega]
    · intro h
      refine ⟨by simpa using h 0 a rfl, fun i b hb => ?_⟩
      have := h (i + 1) b (by simpa using hb)
      rwa [show j + (i + 1) = j + 1 + i from by omega] at this

theorem allT_spec {α : Type} {p : Nat → α → Bool} : ∀ {l : List α} {k j : Nat}, allT p l k j = true → ∀ i a, i < k → l[i]? = some a → p (j + i) a = true
  | [], k, j => by simp [allT]
  | a :: r, 0, j => by simp
  | a :: r, k + 1, j => by
    rw [allT, Bool.and_eq_true]
    rintro ⟨h1, h2⟩ i b hi hb
    cases i with
    | zero => simp only [List.getElem?_cons_zero, Option.some.injEq] at hb; subst hb; exact h1
    | succ i => have := allT_spec h2 i b (by omega) (by simpa using hb); rwa [show j + (i + 1) = j + 1 + i from by omega]

theorem mapI_get {α β : Type} (f : α → Nat → β) : ∀ (l : List α) (j i : Nat), (mapI f l j)[i]? = (l[i]?).map fun a => f a (j + i)
  | [], j, i => by simp [mapI]
  | a :: r, j, 0 => by simp [mapI]
  | a :: r, j, i + 1 => by
    rw [mapI, List.getElem?_cons_succ, List.getElem?_cons_succ, mapI_get f r, show j + (i + 1) = j + 1 + i from by omega]

theorem effsK_eq {α : Type} (A : Ann) (id : Nat) (zs : List Row) (k : List Bool → α) : ∀ (ts : List Row) (i : Nat) (r : List Bool),
    effsK A id zs k ts i r = k (r.reverse ++ mapI (fun z i => effF A id zs z.1 z.2.2 i) ts i)
  | [], i, r => by simp [effsK, mapI]
  | z :: t, i, r => by
    rw [effsK, mapI]
    cases h : effF A id zs z.1 z.2.2 i <;> simp [effsK_eq A id zs k t, List.reverse_cons]

theorem effIdx_eq (E : Nat → Bool) (B : Nat → Nat) : ∀ (ws : List (Row × Bool)) (i : Nat), (∀ k w, ws[k]? = some w → w.2 = E (i + k) ∧ w.1.2.2 = B (i + k)) →
    effIdx ws i = ((List.range' i ws.length).filter E).map fun j => (j, B j)
  | [], i, _ => by simp [effIdx]
  | w :: r, i, h => by
    have h0 := h 0 w rfl
    have ih := effIdx_eq E B r (i + 1) fun k v hv => by have := h (k + 1) v (by simpa using hv); rwa [show i + (k + 1) = i + 1 + k from by omega] at this
    rw [effIdx, ih, List.length_cons, List.range'_succ, List.filter_cons]
    simp only [Nat.add_zero] at h0
    rw [h0.1, h0.2]
    cases E i <;> simp

theorem befs_len : ∀ (l : List Oper) (acc : List Nat), (befs l acc).length = acc.length + l.length
  | [], acc => by simp [befs]
  | o :: r, acc => by rw [befs, befs_len r]; simp; omega

theorem cDrawF_sound {A : Ann} {id : Nat} {ops : Array Oper} {l r : List AOper} (h : cDrawF A id ops l = some r) : cDraw A id ops l = some r := by
  unfold cDrawF at h
  split at h <;> try (cases h; done)
  rename_i hn
  have hn : l.length = ops.size := by simpa using hn
  have hk := fun (α : Type) (k : List Nat → α) => befsK_eq k ops.toList []
  simp only [List.reverse_nil, List.length_nil] at hk
  rw [hk] at h
  simp only [effsK_eq] at h
  simp only [List.reverse_nil, List.nil_append] at h
  unfold cDraw
  have hbl := befs_len ops.toList []
  generalize befs ops.toList [] = b at h hbl
  simp only [List.length_nil, Nat.zero_add, Array.length_toList] at hbl
  generalize hzs : List.zip l (List.zip ops.toList b) = zs at h
  have hz : ∀ i (hi : i < l.length), zs[i]? = some (l[i], ops[i]'(hn ▸ hi), b[i]'(by omega)) := fun i hi => by
    rw [← hzs, List.getElem?_eq_getElem (by simp; omega)]
    simp
  have hzl : zs.length = l.length := by rw [← hzs]; simp; omega
  generalize hes : mapI (fun (z : Row) i => effF A id zs z.1 z.2.2 i) zs 0 = es at h
  have hel : ∀ i (hi : i < l.length), es[i]? = some (isEff A id b l i) := fun i hi => by
    rw [← hes, mapI_get, hz i hi, Option.map_some]
    congr 1
    have hbi : b.getD i 0 = b[i]'(by omega) := by rw [List.getD_eq_getElem?_getD, List.getElem?_eq_getElem (by omega)]; rfl
    simp only [effF, isEff, isEff0, eff0, List.getElem?_eq_getElem hi, Option.any_some, Option.bind_some, Nat.zero_add]
    congr 1
    congr 1
    rw [Bool.eq_iff_iff, allI_spec, List.all_eq_true]
    have key : ∀ j (hj : j < l.length), ((Nat.beq j i || (b[j]'(by omega)).testBit i || (b[i]'(by omega)).testBit j || !(effOp l[j].op || callOp A id l[j].op == some false || (callOp A id l[j].op).isSome)) =
        (j == i || isBef b i j || isBef b j i || !((l[j]?).any (fun o => effOp o.op) || (l[j]?).bind (fun o => callOp A id o.op) == some false || ((l[j]?).bind fun o => callOp A id o.op).isSome))) := fun j hj => by
      have hbj : b.getD j 0 = b[j]'(by omega) := by rw [List.getD_eq_getElem?_getD, List.getElem?_eq_getElem (by omega)]; rfl
      have hji : (j == i) = Nat.beq j i := by rw [Bool.eq_iff_iff]; simp
      simp only [isBef, hbi, hbj, List.getElem?_eq_getElem hj, Option.any_some, Option.bind_some, hji]
    constructor
    · intro h j hj
      have hj := List.mem_range.1 hj
      have := h j _ (hz j hj)
      rw [Nat.zero_add] at this
      exact (key j hj) ▸ this
    · intro h j z hj
      have hj' : j < l.length := by rw [← hzl]; exact (List.getElem?_eq_some_iff.1 hj).1
      rw [hz j hj', Option.some.injEq] at hj; subst hj
      have := h j (List.mem_range.2 hj')
      rw [Nat.zero_add]
      exact (key j hj').symm ▸ this
  have hesl : es.length = l.length := by
    rcases Nat.lt_trichotomy es.length l.length with hlt | he | hlt
    · have := hel es.length hlt; simp at this
    · exact he
    · have h1 := mapI_get (fun (z : Row) i => effF A id zs z.1 z.2.2 i) zs 0 l.length
      rw [hes, List.getElem?_eq_none (by omega : zs.length ≤ l.length), List.getElem?_eq_getElem hlt] at h1
      cases h1
  obtain ⟨E, hE⟩ : ∃ E, (fun i => ((List.range l.length).map (isEff A id b l)).getD i false) = E := ⟨_, rfl⟩
  have hEi : ∀ i, i < l.length → E i = isEff A id b l i := fun i hi => by
    rw [← hE]; simp [List.getElem?_range hi]
  obtain ⟨ws, hws⟩ : ∃ ws, List.zip zs es = ws := ⟨_, rfl⟩
  have hw : ∀ i (hi : i < l.length), ws[i]? = some ((l[i], ops[i]'(hn ▸ hi), b[i]'(by omega)), E i) := fun i hi => by
    rw [← hws, List.zip, List.getElem?_zipWith, hz i hi, hel i hi, hEi i hi]
  have hwl : ws.length = l.length := by rw [← hws]; simp; omega
  have hb : ∀ i (hi : i < l.length), b.getD i 0 = b[i]'(by omega) := fun i hi => by rw [List.getD_eq_getElem?_getD, List.getElem?_eq_getElem (by omega)]; rfl
  have ho : ∀ i (hi : i < l.length), ops.getD i default = ops[i]'(hn ▸ hi) := fun i hi => by rw [Array.getD_eq_getD_getElem?, Array.getElem?_eq_getElem (hn ▸ hi)]; rfl
  replace h : (if fineF ops (List.zip zs es) = true then some (mapI (drawF A id ops (effIdx (List.zip zs es) 0)) (List.zip zs es) 0) else none) = some r := h
  split at h <;> try (cases h; done)
  rename_i hf
  simp only [Option.some.injEq] at h
  replace hf : fineF ops (List.zip zs es) = true := hf
  replace h : mapI (drawF A id ops (effIdx (List.zip zs es) 0)) (List.zip zs es) 0 = r := h
  rw [hws] at hf h
  have hf2 := allI_spec.1 hf
  have hfine : drawFine ops b E l.length = true := by
    rw [drawFine, List.all_eq_true]
    intro i hi
    have hi := List.mem_range.1 hi
    have h1 := hf2 i _ (hw i hi)
    simp only [Nat.zero_add, Bool.and_eq_true] at h1
    rw [Bool.and_eq_true, ho i hi]
    refine ⟨h1.1, ?_⟩
    rw [List.all_eq_true]
    intro j hj
    have hj := List.mem_range.1 hj
    have h2 := allT_spec h1.2 j _ hj (hw j (by omega))
    rw [Nat.zero_add] at h2
    simpa only [isBef, hb i hi, ho j (by omega)] using h2
  have hidx := effIdx_eq E (fun j => b.getD j 0) ws 0 fun k w hk => by
    have hk' : k < l.length := by rw [← hwl]; exact (List.getElem?_eq_some_iff.1 hk).1
    rw [hw k hk', Option.some.injEq] at hk; subst hk
    rw [Nat.zero_add]; exact ⟨rfl, (hb k hk').symm⟩
  rw [hwl, ← List.range_eq_range'] at hidx
  simp only [hE, hfine, if_true, Option.some.injEq]
  rw [← h]
  apply List.ext_getElem?
  intro i
  rw [mapI_get, List.getElem?_map, List.getElem?_zipIdx]
  by_cases hi : i < l.length
  · rw [hw i hi, List.getElem?_eq_getElem hi]
    simp only [Option.map_some, Nat.zero_add, Option.some.injEq, drawOper, drawF, hidx, List.filter_map, List.length_map, ho i hi, List.getElem?_eq_getElem hi, Option.bind_some]
    congr 1
    · congr 1
      apply List.filter_congr
      intro j _
      simp only [isBef, hb i hi, Function.comp]
  · rw [List.getElem?_eq_none (by omega), List.getElem?_eq_none (by omega)]; rfl
end Go.Ab
