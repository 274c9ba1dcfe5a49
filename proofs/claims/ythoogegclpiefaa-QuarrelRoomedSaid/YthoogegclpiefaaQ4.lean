/-
  Parts of the proofs about this chapter, joined: contracts of functions and plain laws.
-/
import Derived.Test.YthoogegclpiefaaAbArg
import Derived.Test.YthoogegclpiefaaQ3
set_option linter.all false
section
namespace Go.Ab
open Go.RowKit Go.ChangeShapes Go.WideShapes
variable {H : Type} {enc : TypeId × Value → H} {P : Program} {W W' : World} {base : Nat} {spare : Nat → Bool} {held : Bool}

theorem pairs_vr {t e ei : TypeId} {v : Value} {d : DataW H} {ps : List MemPlace} {r : Reach} {b0 : Nat}
    (ht : P.underlying t = some (.slice e)) (he : P.underlying e = some (.array 2 ei)) (hi : P.underlying ei = some (.int .i64)) (ce : P.cellsOf e = 2) (ci : P.cellsOf ei = 1)
    (hval : Value.okWide P W r b0 t v) (hd : DataW.Trod enc P W 0 spare held t v d ps) :
    ∃ q l, VR (ctx0 W) q v ∧ isP q l := by
  have hok : Cell.okWide P W r b0 t v := by
    unfold Value.okWide at hval
    rw [ht] at hval
    exact hval
  have hcell : v.cells.toList = [v] := by
    cases v with
    | agg cs =>
      unfold Cell.okWide at hok
      rw [ht] at hok
      simp only at hok
      unfold Cell.ok at hok
      rw [ht] at hok
      exact hok.elim
    | _ => rfl
  obtain ⟨fuel, hd⟩ := hd
  rw [hcell] at hd
  have hf : flatT P 2 e = true := by
    unfold flatT; rw [he]; simp only [ce, ci]; unfold flatT; rw [hi]; rfl
  obtain ⟨q, q1, q2, q3⟩ := slice_vr (n := 2) ht hf hd hok
  rcases q3 with rfl | ⟨xs, rfl, hxs⟩
  · exact ⟨_, [], q1, .nil⟩
  · obtain ⟨l, rfl⟩ := pairs_of (xs := xs) fun x hx => by
      obtain ⟨ys, rfl, hs⟩ := hxs x hx
      obtain ⟨a, b, rfl⟩ := sh_pair (n := 0) he hi ce ci hs
      exact ⟨a, b, by unfold wrapA; rw [he]⟩
    rw [ce] at q1
    exact ⟨_, l, q1, .lst⟩
end Go.Ab
end

section
namespace Go.Proofs.Ythoogegclpiefaa.Code
open Go Go.Ab

/-- a workroom: who quarrels with whom, both ways, nobody with himself, only those who are there -/
structure RoomW (n : Nat) (w : Nat → Nat) : Prop where
  lt : ∀ x, w x < 256
  sym : ∀ x y, (w x).testBit y = (w y).testBit x
  irr : ∀ x, (w x).testBit x = false
  dom : ∀ x y, (w x).testBit y = true → x < n ∧ y < n

theorem RoomW.zero {n : Nat} : RoomW n (fun _ => 0) := ⟨fun _ => by decide, fun _ _ => by simp, fun _ => by simp, fun x y h => by simp at h⟩
theorem RoomW.join {n a b : Nat} {w : Nat → Nat} (h : RoomW n w) (hn : n ≤ 8) (ha : a < n) (hb : b < n) (hab : a ≠ b) : RoomW n (joinW w a b) := by
  refine ⟨joinW_lt h.lt (by omega) (by omega), fun x y => ?_, fun x => ?_, fun x y hxy => ?_⟩
  · rw [joinW_bit hab, joinW_bit hab, h.sym x y]
    by_cases h1 : x = a <;> by_cases h2 : y = b <;> by_cases h3 : x = b <;> by_cases h4 : y = a <;> simp [h1, h2, h3, h4]
  · rw [joinW_bit hab, h.irr]
    by_cases h1 : x = a <;> by_cases h3 : x = b <;> simp [h1, h3] <;> omega
  · rw [joinW_bit hab] at hxy
    simp only [Bool.or_eq_true, Bool.and_eq_true, decide_eq_true_eq] at hxy
    rcases hxy with (hxy | ⟨h1, h2⟩) | ⟨h1, h2⟩
    · exact h.dom x y hxy
    · omega
    · omega
theorem openF_room {n : Nat} (hn : n ≤ 8) : ∀ {l : List ZZ} {w w' : Nat → Nat}, RoomW n w → openF n w l = .room w' → RoomW n w'
  | [], w, w', hw, h => by
    simp only [openF, Opened.room.injEq] at h
    subst h; exact hw
  | (a, b) :: r, w, w', hw, h => by
    simp only [openF] at h
    split at h
    · cases h
    rename_i h1
    split at h
    · cases h
    rename_i h2
    split at h
    · cases h
    obtain ⟨a, rfl⟩ := Int.eq_ofNat_of_zero_le (show 0 ≤ a by omega)
    obtain ⟨b, rfl⟩ := Int.eq_ofNat_of_zero_le (show 0 ≤ b by omega)
    exact openF_room hn (hw.join hn (by simp; omega) (by simp; omega) (by simp; omega)) h
theorem openS_room {n : Int} {m : Nat} {l : List ZZ} {w : Nat → Nat} (hm : n = m) (h : openS n l = .room w) : RoomW m w := by
  obtain ⟨h1, h2, h3, h4, h5, h6⟩ := openS_facts hm h
  exact openF_room h1 .zero h6

theorem rows_eq {n : Nat} {w w' : Nat → Nat} (h : ∀ x y, (w x).testBit y = (w' x).testBit y) : w = w' := by
  funext x
  exact Nat.eq_of_testBit_eq (h x)

/-! a copy -/
theorem joins_bit {b : Nat} : ∀ {l : List Nat} {w : Nat → Nat} {x y : Nat}, (∀ z ∈ l, z ≠ b) → (joins w b l x).testBit y = ((w x).testBit y || (decide (x = b) && decide (y ∈ l)) || (decide (y = b) && decide (x ∈ l)))
  | [], w, x, y, _ => by simp [joins]
  | z :: r, w, x, y, h => by
    have hz := h z (List.mem_cons_self ..)
    have e : joins w b (z :: r) = joins (joinW w b z) b r := rfl
    rw [e, joins_bit fun u hu => h u (List.mem_cons_of_mem _ hu), joinW_bit (Ne.symm hz)]
    by_cases h1 : x = b
    · subst h1
      by_cases h2 : y = x
      · subst h2
        simp [hz, Ne.symm hz]
      · by_cases h3 : y = z
        · subst h3; simp
        · simp [h2, h3, Ne.symm hz]
    · by_cases h2 : y = b
      · subst h2
        by_cases h3 : x = z
        · subst h3; simp
        · simp [h1, h3, Ne.symm hz]
      · simp [h1, h2]
theorem joins_lt {b : Nat} (hb : b < 8) : ∀ {l : List Nat} {w : Nat → Nat}, (∀ x, w x < 256) → (∀ z ∈ l, z < 8) → ∀ x, joins w b l x < 256
  | [], w, hw, _, x => hw x
  | z :: r, w, hw, h, x => joins_lt hb (l := r) (joinW_lt hw hb (h z (List.mem_cons_self ..))) (fun u hu => h u (List.mem_cons_of_mem _ hu)) x

theorem take_bit {n a b : Nat} {w : Nat → Nat} (h : RoomW n w) (hn : n ≤ 8) (hab : a ≠ b) (x y : Nat) :
    (takeW n w a b x).testBit y = if x = b then (if y = b then false else (w a).testBit y) else if y = b then (w a).testBit x else (w x).testBit y := by
  have hf : ∀ x, forgetW w b n x < 256 := forgetW_lt h.lt
  have e1 : upd (forgetW w b n) b 0 a = forgetW w b n a := by simp [upd, hab]
  have hfb : ∀ x y, (forgetW w b n x).testBit y = ((w x).testBit y && !decide (y = b)) := fun x y => by
    unfold forgetW
    split
    · rw [testBit_clr (h.lt x), testBit_pw]
      by_cases hy : y = b
      · subst hy; simp
      · simp [hy, Ne.symm hy]
    · rename_i hx
      cases hc : (w x).testBit y
      · simp
      · exact absurd (h.dom x y hc).1 hx
  have hmem : ∀ z, z ∈ bitsOf (forgetW w b n a) ↔ (w a).testBit z = true ∧ z ≠ b := fun z => by
    unfold bitsOf
    rw [List.mem_filter, hfb]
    simp only [List.mem_range, Bool.and_eq_true, Bool.not_eq_true', decide_eq_false_iff_not]
    constructor
    · rintro ⟨_, g⟩; exact g
    · intro g; have := (h.dom a z g.1).2; exact ⟨by omega, g⟩
  unfold takeW
  rw [e1, joins_bit fun z hz => ((hmem z).1 hz).2]
  simp only [hmem]
  unfold upd
  by_cases h1 : x = b
  · subst h1
    by_cases h2 : y = x
    · subst h2; simp
    · simp [h2]
  · by_cases h2 : y = b
    · subst h2
      simp [h1, hfb]
    · simp [h1, h2, hfb]
theorem RoomW.take {n a b : Nat} {w : Nat → Nat} (h : RoomW n w) (hn : n ≤ 8) (ha : a < n) (hb : b < n) (hab : a ≠ b) : RoomW n (takeW n w a b) := by
  refine ⟨fun x => joins_lt (by omega) (upd_lt (forgetW_lt h.lt) (by decide)) (fun z hz => bits_lt hz) x, fun x y => ?_, fun x => ?_, fun x y hxy => ?_⟩
  · rw [take_bit h hn hab, take_bit h hn hab]
    by_cases h1 : x = b <;> by_cases h2 : y = b <;> simp [h1, h2, h.sym x y]
  · rw [take_bit h hn hab]
    by_cases h1 : x = b <;> simp [h1, h.irr]
  · rw [take_bit h hn hab] at hxy
    by_cases h1 : x = b
    · subst h1
      by_cases h2 : y = x
      · simp [h2] at hxy
      · simp only [h2, if_true, if_false] at hxy
        exact ⟨hb, (h.dom _ _ hxy).2⟩
    · by_cases h2 : y = b
      · subst h2
        simp only [h1, if_true, if_false] at hxy
        exact ⟨(h.dom _ _ hxy).2, hb⟩
      · simp only [h1, h2, if_false] at hxy
        exact h.dom x y hxy

/-! the house of a workroom, in order -/
theorem above_split {n x : Nat} {p : Nat → Bool} (hx : x < n) : ((List.range n).filter fun y => decide (x < y) && p y) = (List.range' (x + 1) (n - (x + 1))).filter p := by
  have e : List.range n = List.range' 0 (x + 1) ++ List.range' (x + 1) (n - (x + 1)) := by
    have := List.range'_append_1 (s := 0) (m := x + 1) (n := n - (x + 1))
    rw [Nat.zero_add] at this
    rw [this, List.range_eq_range', show x + 1 + (n - (x + 1)) = n by omega]
  rw [e, List.filter_append]
  have e1 : (List.range' 0 (x + 1)).filter (fun y => decide (x < y) && p y) = [] := by
    rw [List.filter_eq_nil_iff]
    intro y hy
    have := List.mem_range'_1.1 hy
    simp; omega
  have e2 : (List.range' (x + 1) (n - (x + 1))).filter (fun y => decide (x < y) && p y) = (List.range' (x + 1) (n - (x + 1))).filter p := by
    apply List.filter_congr
    intro y hy
    have := List.mem_range'_1.1 hy
    simp [show x < y by omega]
  rw [e1, e2, List.nil_append]
/-- pairs in order -/
def enumR (n : Nat) (g : Nat → Nat → Bool) : List ZZ := (List.range n).flatMap fun x => ((List.range' (x + 1) (n - (x + 1))).filter (g x)).map fun (y : Nat) => ((x : Int), (y : Int))
theorem flatMap_congr {α β : Type} {f g : α → List β} : ∀ {l : List α}, (∀ x ∈ l, f x = g x) → l.flatMap f = l.flatMap g
  | [], _ => rfl
  | x :: r, h => by rw [List.flatMap_cons, List.flatMap_cons, h x (List.mem_cons_self ..), flatMap_congr fun y hy => h y (List.mem_cons_of_mem _ hy)]
theorem enumR_congr {n : Nat} {g g' : Nat → Nat → Bool} (h : ∀ x y, x < y → y < n → g x y = g' x y) : enumR n g = enumR n g' := by
  unfold enumR
  apply flatMap_congr
  intro x hx
  congr 1
  apply List.filter_congr
  intro y hy
  have := List.mem_range'_1.1 hy
  exact h x y (by omega) (by omega)
theorem houseS_enum {n : Nat} {w : Nat → Nat} (h : RoomW n w) (hn : n ≤ 8) : houseS n w = enumR n fun x y => (w x).testBit y := by
  unfold houseS enumR
  apply flatMap_congr
  intro x hx
  have hx := List.mem_range.1 hx
  unfold above bitsOf
  congr 1
  obtain ⟨d, hd⟩ : ∃ d, 8 = n + d := ⟨8 - n, by omega⟩
  rw [List.filter_filter, hd, filter_range_cut d (fun c hc1 hc2 => by
    cases hc : (w x).testBit c
    · simp
    · have := (h.dom x c hc).2; omega), above_split hx]
theorem mem_enum {n : Nat} {g : Nat → Nat → Bool} {p : ZZ} : p ∈ enumR n g ↔ ∃ x y : Nat, x < y ∧ y < n ∧ g x y = true ∧ p = ((x : Int), (y : Int)) := by
  unfold enumR
  simp only [List.mem_flatMap, List.mem_range, List.mem_map, List.mem_filter, List.mem_range'_1]
  constructor
  · rintro ⟨x, hx, y, ⟨⟨h1, h2⟩, h3⟩, rfl⟩
    exact ⟨x, y, by omega, by omega, h3, rfl⟩
  · rintro ⟨x, y, h1, h2, h3, rfl⟩
    exact ⟨x, by omega, y, ⟨⟨by omega, by omega⟩, h3⟩, rfl⟩
theorem enum_nodup {n : Nat} {g : Nat → Nat → Bool} : (enumR n g).Nodup := by
  unfold enumR
  rw [List.Nodup, List.pairwise_flatMap]
  refine ⟨fun x _ => ?_, ?_⟩
  · rw [List.pairwise_map]
    have : (List.range' (x + 1) (n - (x + 1))).Pairwise (· < ·) := List.pairwise_lt_range' ..
    refine (this.filter _).imp fun {a b} hab hc => ?_
    simp only [Prod.mk.injEq] at hc
    omega
  · have : (List.range n).Pairwise (· < ·) := List.pairwise_lt_range
    refine this.imp fun {a b} hab u hu v hv hc => ?_
    simp only [List.mem_map] at hu hv
    obtain ⟨_, _, rfl⟩ := hu
    obtain ⟨_, _, rfl⟩ := hv
    simp only [Prod.mk.injEq] at hc
    omega

theorem openF_ok {n : Nat} (hn : n ≤ 8) : ∀ (l done : List ZZ) (w : Nat → Nat), Tells w done → (∀ p ∈ l, 0 ≤ p.1 ∧ p.1 < p.2 ∧ p.2 < (n : Int)) → l.Nodup → (∀ p ∈ l, p ∉ done) → (∀ p ∈ done, p.1 < p.2) → ∃ w', openF n w l = .room w'
  | [], done, w, _, _, _, _, _ => ⟨w, rfl⟩
  | (a, b) :: r, done, w, ht, hv, hnd, hnot, hdone => by
    obtain ⟨v1, v2, v3⟩ := hv (a, b) (List.mem_cons_self ..)
    simp only at v1 v2 v3
    obtain ⟨a, rfl⟩ := Int.eq_ofNat_of_zero_le v1
    obtain ⟨b, rfl⟩ := Int.eq_ofNat_of_zero_le (show 0 ≤ b by omega)
    have hq : qin done (a : Int) (b : Int) = false := by
      cases hq : qin done (a : Int) (b : Int)
      · rfl
      · simp only [qin, List.any_eq_true, Bool.or_eq_true, Bool.and_eq_true, beq_iff_eq] at hq
        obtain ⟨p, hp, hq⟩ := hq
        rcases hq with ⟨h1, h2⟩ | ⟨h1, h2⟩
        · refine absurd hp (hnot p ?_)
          obtain ⟨p1, p2⟩ := p
          simp only at h1 h2
          subst h1 h2
          exact List.mem_cons_self ..
        · have := hdone p hp
          omega
    rw [← ht a b (by omega) (by omega)] at hq
    simp only [openF]
    rw [if_neg (by omega), if_neg (by omega), Int.toNat_natCast, Int.toNat_natCast, if_neg (by simp [hq])]
    refine openF_ok hn r (done ++ [((a : Int), (b : Int))]) _ (ht.step (by omega)) (fun p hp => hv p (List.mem_cons_of_mem _ hp)) (List.nodup_cons.1 hnd).2 (fun p hp hc => ?_) (fun p hp => ?_)
    · rcases List.mem_append.1 hc with hc | hc
      · exact hnot p (List.mem_cons_of_mem _ hp) hc
      · simp only [List.mem_singleton] at hc
        subst hc
        exact (List.nodup_cons.1 hnd).1 hp
    · rcases List.mem_append.1 hp with hp | hp
      · exact hdone p hp
      · simp only [List.mem_singleton] at hp
        subst hp
        exact v2

theorem qin_house {n : Nat} {w : Nat → Nat} (h : RoomW n w) (hn : n ≤ 8) (x y : Nat) : qin (houseS n w) (x : Int) (y : Int) = (w x).testBit y := by
  rw [houseS_enum h hn, Bool.eq_iff_iff]
  simp only [qin, List.any_eq_true, Bool.or_eq_true, Bool.and_eq_true, beq_iff_eq]
  constructor
  · rintro ⟨p, hp, hq⟩
    obtain ⟨u, v, h1, h2, h3, rfl⟩ := mem_enum.1 hp
    simp only at hq
    rcases hq with ⟨h4, h5⟩ | ⟨h4, h5⟩
    · obtain rfl : u = x := by omega
      obtain rfl : v = y := by omega
      exact h3
    · obtain rfl : u = y := by omega
      obtain rfl : v = x := by omega
      rw [h.sym]; exact h3
  · intro hb
    obtain ⟨d1, d2⟩ := h.dom x y hb
    by_cases hxy : x < y
    · exact ⟨_, mem_enum.2 ⟨x, y, hxy, d2, hb, rfl⟩, .inl ⟨rfl, rfl⟩⟩
    · have hne : x ≠ y := fun hc => by subst hc; rw [h.irr] at hb; cases hb
      exact ⟨_, mem_enum.2 ⟨y, x, by omega, d1, by rw [h.sym]; exact hb, rfl⟩, .inr ⟨rfl, rfl⟩⟩

theorem open_house {n : Nat} {w : Nat → Nat} (h : RoomW n w) (h1 : 1 ≤ n) (hn : n ≤ 8) : openS (n : Int) (houseS n w) = .room w := by
  obtain ⟨w', hw'⟩ := openF_ok hn (houseS n w) [] (fun _ => 0) (fun x y _ _ => by simp [qin]) (fun p hp => by
    rw [houseS_enum h hn] at hp
    obtain ⟨u, v, g1, g2, g3, rfl⟩ := mem_enum.1 hp
    simp only; omega) (by rw [houseS_enum h hn]; exact enum_nodup) (by simp) (by simp)
  have ho : openS (n : Int) (houseS n w) = .room w' := by
    unfold openS
    rw [if_pos (by simp [within]; omega)]
    exact hw'
  have hr := openS_room rfl ho
  obtain ⟨_, _, _, ht, _, _⟩ := openS_facts (m := n) rfl ho
  rw [ho]
  congr 1
  refine rows_eq (n := n) fun x y => ?_
  by_cases hx : x < 8
  · by_cases hy : y < 8
    · rw [ht x y hx hy, qin_house h hn]
    · cases e1 : (w' x).testBit y
      · cases e2 : (w x).testBit y
        · rfl
        · have := (h.dom x y e2).2; omega
      · have := (hr.dom x y e1).2; omega
  · cases e1 : (w' x).testBit y
    · cases e2 : (w x).testBit y
      · rfl
      · have := (h.dom x y e2).1; omega
    · have := (hr.dom x y e1).1; omega

/-! the reference's copy -/
def cop (l : List ZZ) (a b x y : Nat) : Bool := if y = b then qin l (x : Int) (a : Int) else if x = b then qin l (a : Int) (y : Int) else qin l (x : Int) (y : Int)
theorem copied_house {n : Nat} {l : List ZZ} {w : Nat → Nat} {a b : Nat} (h : RoomW n w) (hn : n ≤ 8) (ht : Tells w l) (ha : a < n) (hb : b < n) (hab : a ≠ b) : enumR n (cop l a b) = houseS n (takeW n w a b) := by
  rw [houseS_enum (h.take hn ha hb hab) hn]
  apply enumR_congr
  intro x y hxy hy
  rw [take_bit h hn hab]
  unfold cop
  by_cases h2 : y = b
  · subst h2
    rw [if_pos rfl, if_neg (by omega), if_pos rfl, ← ht x a (by omega) (by omega), h.sym]
  · by_cases h1 : x = b
    · subst h1
      rw [if_neg h2, if_pos rfl, if_pos rfl, if_neg h2, ← ht a y (by omega) (by omega)]
    · rw [if_neg h2, if_neg h1, if_neg h1, if_neg h2, ← ht x y (by omega) (by omega)]
end Go.Proofs.Ythoogegclpiefaa.Code
end

section
namespace Go.Proofs.Ythoogegclpiefaa.Code
open Go Go.Ab
variable {pure : Bool} {base bar : Nat} {H : Heap} {Q : AV → Heap → Prop}

theorem appWp_mono {sz bytes : Nat} {x y : Option AV} {K K' : AV → Heap → List Nat → Prop} (h : ∀ v H tc, K v H tc → K' v H tc) (k : appWp base bar sz bytes x y H K) : appWp base bar sz bytes x y H K' := by
  unfold appWp at k ⊢
  cases x with
  | none => exact k
  | some x => cases y with
    | none => exact k
    | some y =>
      simp only at k ⊢
      cases h1 : asrc H sz y with
      | none => simp only [h1] at k
      | some news =>
        simp only [h1] at k ⊢
        cases h2 : frzAll bar H news with
        | none => simp only [h2] at k
        | some p =>
          obtain ⟨a, b⟩ := p
          simp only [h2] at k ⊢
          by_cases h3 : sz = 0 ∨ ¬ sz ∣ news.length
          · rw [if_pos h3] at k; exact k.elim
          · rw [if_neg h3] at k ⊢
            cases h4 : aappend base bar b sz bytes x a with
            | none => simp only [h4] at k
            | some p =>
              obtain ⟨v, H2, tc⟩ := p
              simp only [h4] at k ⊢
              exact h _ _ _ k
theorem storeWp_mono {size : Nat} {p v : AV} {K K' : AV → Heap → List Nat → Prop} (h : ∀ v H tc, K v H tc → K' v H tc) (k : storeWp base bar size p v H K) : storeWp base bar size p v H K' := by
  unfold storeWp at k ⊢
  obtain ⟨k1, k2⟩ := k
  refine ⟨k1, ?_⟩
  cases h1 : astore base bar H size p v with
  | none => simp only [h1] at k2
  | some p =>
    obtain ⟨H2, tc⟩ := p
    simp only [h1] at k2 ⊢
    exact h _ _ _ k2

/-- three blocks: the house that came in, the result's, and the house under construction -/
def HK (H : Heap) (n : Nat) (q v : AV) : Heap := H ++ [.row 0 [.int .i64 (n : Int), q] 0 true, .row 0 [.int .i64 0, .nils] 0 true, .row 0 [.int .i64 (n : Int), v] 0 true]
section
variable {n : Nat} {q v v' : AV}
theorem HK_len : (HK H n q v).length = H.length + 3 := by simp [HK]
theorem HK_get2 : (HK H n q v)[H.length + 2]? = some (.row 0 [.int .i64 (n : Int), v] 0 true) := by simp [HK, own_get]
theorem HK_get1 : (HK H n q v)[H.length + 1]? = some (.row 0 [.int .i64 0, .nils] 0 true) := by simp [HK, own_get]
theorem HK_get0 : (HK H n q v)[H.length]? = some (.row 0 [.int .i64 (n : Int), q] 0 true) := by simp [HK, own_get0]
theorem HK_set2 : (HK H n q v).set (H.length + 2) (.row 0 [.int .i64 (n : Int), v'] 0 true) = HK H n q v' := by simp [HK, own_set]

theorem l73a {l : List ZZ} (hq : isP q l) (hl : l.length < 1000) (hn : n ≤ 8) {a b x : Nat} (hbar : bar ≤ H.length) {R : PQ} :
    ∀ (k y : Nat), y + k = max n y → ∀ (done : List ZZ) (v : AV) (Hc : Heap), done.length ≤ 1000 + y → Grow 2 (prs done) (HK H n q v) v Hc →
    (∀ v' Hc' y', Grow 2 (prs (done ++ ((List.range' y k).filter (cop l a b x)).map fun (y : Nat) => ((x : Int), (y : Int)))) (HK H n q v') v' Hc' →
      R (.exit 2) [(1, .int .i64 (a : Nat)), (2, .int .i64 (b : Nat)), (3, .ptr H.length 0 0), (6, .ptr (H.length + 1) 0 0), (7, .ptr (H.length + 2) 0 0), (8, .int .i64 (x : Nat)), (9, .int .i64 (y' : Nat)), (25, .bool false)] Hc') →
    Wp E H.length bar (.loop c73_l0) [(1, .int .i64 (a : Nat)), (2, .int .i64 (b : Nat)), (3, .ptr H.length 0 0), (6, .ptr (H.length + 1) 0 0), (7, .ptr (H.length + 2) 0 0), (8, .int .i64 (x : Nat)), (9, .int .i64 (y : Nat))] Hc R := by
  intro k
  induction k with
  | zero =>
    intro y hy done v Hc hd g h
    rw [wp_round c73_l0.eq_1]
    simp [go_sem, aload_ptr (g.get HK_get0), show ¬ y < n by omega]
    exact h v Hc y (by simpa using g)
  | succ k ih =>
    intro y hy done v Hc hd g h
    have hlt : y < n := by omega
    rw [wp_round c73_l0.eq_1]
    simp only [List.range'_succ, List.filter_cons] at h
    have hc : cop l a b x y = if y = b then qin l (x : Int) (a : Int) else if x = b then qin l (a : Int) (y : Int) else qin l (x : Int) (y : Int) := rfl
    have hT : cop l a b x y = true → appWp H.length bar 2 16 (some v) (some (.lst 2 true [.agg [.int .i64 (x : Int), .int .i64 (y : Int)]])) Hc (fun v' H' tc => storeWp H.length bar 1 (.ptr (H.length + 2) 0 1) v' H' fun _ H2 _ =>
        Wp E H.length bar (.loop c73_l0) [(1, .int .i64 (a : Nat)), (2, .int .i64 (b : Nat)), (3, .ptr H.length 0 0), (6, .ptr (H.length + 1) 0 0), (7, .ptr (H.length + 2) 0 0), (8, .int .i64 (x : Nat)), (9, .int .i64 ((y : Int) + 1))] H2 R) := fun ht => by
      simp only [ht, if_true, List.map_cons] at h
      refine g.pair (p := ((x : Int), (y : Int))) (by rw [HK_len]; omega) (by rw [HK_len]; omega) (by omega) fun v' H' tc g' => ?_
      obtain ⟨s1, s2⟩ := grow_slot g'
      rw [storeWp_ptr (size := 1) (g'.get HK_get2) s1 (by rw [s2]; rfl) (by omega) (by simp) (by omega) (.inl (by omega))]
      have g2 := g'.set (i := H.length + 2) (b := .row 0 [.int .i64 (n : Int), v'] 0 true) (by rw [HK_len]; omega)
      rw [HK_set2] at g2
      simp only [s2, setCells]
      refine ih (y + 1) (by omega) _ v' _ (by simp; omega) g2 ?_
      simpa using h
    have hF : cop l a b x y = false → Wp E H.length bar (.loop c73_l0) [(1, .int .i64 (a : Nat)), (2, .int .i64 (b : Nat)), (3, .ptr H.length 0 0), (6, .ptr (H.length + 1) 0 0), (7, .ptr (H.length + 2) 0 0), (8, .int .i64 (x : Nat)), (9, .int .i64 ((y : Int) + 1))] Hc R := fun ht => by
      simp only [ht, Bool.false_eq_true, if_false] at h
      exact ih (y + 1) (by omega) done v Hc (by omega) g h
    have e0 := g.get HK_get0
    have e2 := g.get HK_get2
    cases hb : cop l a b x y
    · have := hF hb
      rw [hc] at hb
      by_cases h2 : y = b
      · subst h2
        by_cases h1 : x = y
        · subst h1
          simp at hb
          simp [go_sem, aload_ptr e0, hlt, k65 hq hl, hb, i64_suc (show x < 1000000 by omega)]
          exact this
        · simp at hb
          simp [go_sem, aload_ptr e0, hlt, k65 hq hl, natEq, h1, hb, i64_suc (show y < 1000000 by omega)]
          exact this
      · by_cases h1 : x = b
        · subst h1
          simp [h2] at hb
          simp [go_sem, aload_ptr e0, hlt, k65 hq hl, natEq, h2, hb, i64_suc (show y < 1000000 by omega)]
          exact this
        · simp [h1, h2] at hb
          simp [go_sem, aload_ptr e0, hlt, k65 hq hl, natEq, h1, h2, hb, i64_suc (show y < 1000000 by omega)]
          exact this
    · have := hT hb
      rw [hc] at hb
      by_cases h2 : y = b
      · subst h2
        by_cases h1 : x = y
        · have h1' := h1.symm
          subst h1'
          simp at hb
          simp [go_sem, aload_ptr e0, hlt, k65 hq hl, hb, aload_ptr e2, aop, chunks]
          refine appWp_mono (fun v' H' tc hh => ?_) this
          simp [go_sem]
          refine storeWp_mono (fun v2 H2 tc2 hh => ?_) hh
          simp [go_sem, i64_suc (show y < 1000000 by omega)]
          exact hh
        · simp at hb
          simp [go_sem, aload_ptr e0, hlt, k65 hq hl, natEq, h1, hb, aload_ptr e2, aop, chunks]
          refine appWp_mono (fun v' H' tc hh => ?_) this
          simp [go_sem]
          refine storeWp_mono (fun v2 H2 tc2 hh => ?_) hh
          simp [go_sem, i64_suc (show y < 1000000 by omega)]
          exact hh
      · by_cases h1 : x = b
        · subst h1
          simp [h2] at hb
          simp [go_sem, aload_ptr e0, hlt, k65 hq hl, natEq, h2, hb, aload_ptr e2, aop, chunks]
          refine appWp_mono (fun v' H' tc hh => ?_) this
          simp [go_sem]
          refine storeWp_mono (fun v2 H2 tc2 hh => ?_) hh
          simp [go_sem, i64_suc (show y < 1000000 by omega)]
          exact hh
        · simp [h1, h2] at hb
          simp [go_sem, aload_ptr e0, hlt, k65 hq hl, natEq, h1, h2, hb, aload_ptr e2, aop, chunks]
          refine appWp_mono (fun v' H' tc hh => ?_) this
          simp [go_sem]
          refine storeWp_mono (fun v2 H2 tc2 hh => ?_) hh
          simp [go_sem, i64_suc (show y < 1000000 by omega)]
          exact hh

theorem l73 {l : List ZZ} (hq : isP q l) (hl : l.length < 1000) (hn : n ≤ 8) {a b : Nat} (hbar : bar ≤ H.length) {R : PQ} :
    ∀ (k x : Nat), x + k = n → ∀ (done : List ZZ) (v : AV) (Hc : Heap), done.length ≤ 100 * x → Grow 2 (prs done) (HK H n q v) v Hc →
    (∀ v' Hc', Grow 2 (prs (done ++ (List.range' x k).flatMap fun x => ((List.range' (x + 1) (n - (x + 1))).filter (cop l a b x)).map fun (y : Nat) => ((x : Int), (y : Int)))) (HK H n q v') v' Hc' →
      R (.exit 0) [(1, .int .i64 (a : Nat)), (2, .int .i64 (b : Nat)), (3, .ptr H.length 0 0), (6, .ptr (H.length + 1) 0 0), (7, .ptr (H.length + 2) 0 0), (8, .int .i64 (n : Nat)), (17, .bool false)] Hc') →
    Wp E H.length bar (.loop c73_l1) [(1, .int .i64 (a : Nat)), (2, .int .i64 (b : Nat)), (3, .ptr H.length 0 0), (6, .ptr (H.length + 1) 0 0), (7, .ptr (H.length + 2) 0 0), (8, .int .i64 (x : Nat))] Hc R := by
  intro k
  induction k with
  | zero =>
    intro x hx done v Hc hd g h
    obtain rfl : x = n := by omega
    rw [wp_round c73_l1.eq_1]
    simp [go_sem, aload_ptr (g.get HK_get0)]
    exact h v Hc (by simpa using g)
  | succ k ih =>
    intro x hx done v Hc hd g h
    have hlt : x < n := by omega
    rw [wp_round c73_l1.eq_1]
    simp only [List.range'_succ, List.flatMap_cons, ← List.append_assoc] at h
    simp [go_sem, aload_ptr (g.get HK_get0), hlt, i64_suc (show x < 1000000 by omega)]
    refine l73a hq hl hn hbar (n - (x + 1)) (x + 1) (by omega) done v Hc (by omega) g fun v' Hc' y' g' => ?_
    simp [go_sem, i64_suc (show x < 1000000 by omega)]
    refine ih (x + 1) (by omega) _ v' Hc' ?_ g' h
    have : (((List.range' (x + 1) (n - (x + 1))).filter (cop l a b x)).map fun (y : Nat) => ((x : Int), (y : Int))).length ≤ n - (x + 1) := by
      rw [List.length_map]
      exact Nat.le_trans (List.length_filter_le _ _) (by simp)
    rw [List.length_append]; omega

theorem k73 {l : List ZZ} (hq : isP q l) (hl : l.length < 1000) (hn : n ≤ 8) {a b : Nat} (hbar : bar ≤ H.length) (h : Q (.agg [.int .i64 (n : Int), outL 2 (prs (enumR n (cop l a b)))]) H) :
    WpCall E pure base bar 73 [.agg [.int .i64 (n : Int), q], .int .i64 (a : Nat), .int .i64 (b : Nat)] H Q := by
  rw [call73]
  have hb' := bar_ok (pure := pure) hbar
  simp [go_sem, WpFun, c73, hq.frz] at hb' ⊢
  generalize (if pure = true then H.length else bar) = bar' at hb' ⊢
  simp [go_sem, aload, own_get0, own_get, own_set, storeWp, astore, hb', show bar' ≤ H.length + 2 by omega, hq.isTup, fillA, setCells, Ab.part]
  refine l73 hq hl hn hb' n 0 (by omega) [] .nils _ (by simp) Grow.nil fun v' Hc' g => ?_
  obtain ⟨s1, s2⟩ := grow_slot g
  have e4 : ([] ++ (List.range' 0 n).flatMap fun x => ((List.range' (x + 1) (n - (x + 1))).filter (cop l a b x)).map fun (y : Nat) => ((x : Int), (y : Int))) = enumR n (cop l a b) := by rw [enumR, List.range_eq_range']; rfl
  rw [e4] at g
  have ld := aload_ptr (ti := ⟨true, 2⟩) (off := 0) (g.get HK_get2)
  rw [part_agg] at ld
  simp at ld
  simp [go_sem, ld]
  rw [storeWp_ptr (size := 2) (g.get HK_get1) rfl rfl (by omega) (by simp) (by omega) (.inl (by omega))]
  have g2 := g.set (i := H.length + 1) (b := .row 0 [.int .i64 (n : Int), v'] 0 true) (by rw [HK_len]; omega)
  have hl2 : ((HK H n q v').set (H.length + 1) (.row 0 [.int .i64 (n : Int), v'] 0 true)).length = H.length + 3 := by simp [HK_len]
  have e2 : (Hc'.set (H.length + 1) (.row 0 [.int .i64 (n : Int), v'] 0 true))[H.length + 1]? = some (.row 0 [.int .i64 (n : Int), v'] 0 true) := g2.get (by simp [HK, own_set, own_get])
  simp [go_sem, aload_ptr e2, part_agg, setCells]
  obtain ⟨H2, f1, f2, f3, f4⟩ := g2.frz (d := 4) (bar := bar') (by decide) ⟨_, prs_length⟩ prs_plain (by rw [hl2]; omega)
  have e3 : H2.take H.length = H := by
    have := congrArg (List.take H.length) f4
    rw [List.take_take, hl2, Nat.min_eq_left (by omega)] at this
    rw [this]; simp [HK, own_set]
  rw [show 4 + 3 = 7 from rfl] at f1
  simp only [f1]
  simp [go_sem, isP.out.top, e3]
  exact h
end
end Go.Proofs.Ythoogegclpiefaa.Code
end

section
namespace Go.Proofs.Ythoogegclpiefaa.Code
open Go Go.Ab
variable {pure : Bool} {base bar : Nat} {H : Heap} {Q : AV → Heap → Prop}

theorem copies_range {n : Nat} {w : Nat → Nat} {a b : Int} (h : copiesS n w a b = 0) : 0 ≤ a ∧ 0 ≤ b ∧ a < n ∧ b < n ∧ a ≠ b ∧ (w a.toNat).testBit b.toNat = false := by
  unfold copiesS at h
  split at h
  · cases h
  · split at h
    · cases h
    · rename_i h1 h2
      refine ⟨by omega, by omega, by omega, by omega, fun hc => h2 (.inl hc), ?_⟩
      cases hc : (w a.toNat).testBit b.toNat
      · rfl
      · exact absurd (.inr hc) h2

theorem k25 {n a b : Int} {q : AV} {l : List ZZ} (hq : isP q l) (hl : l.length < 1000) (hbar : bar ≤ H.length)
    (h1 : ∀ e, openS n l = .err e → Q (.tup [.agg [.int .i64 0, .nils], .int .i64 e]) H)
    (h2 : ∀ (m : Nat) (w : Nat → Nat), n = m → 1 ≤ m → m ≤ 8 → openS n l = .room w → copiesS m w a b ≠ 0 → Q (.tup [.agg [.int .i64 0, .nils], .int .i64 (copiesS m w a b)]) H)
    (h3 : ∀ (m : Nat) (w : Nat → Nat), n = m → 1 ≤ m → m ≤ 8 → openS n l = .room w → copiesS m w a b = 0 → ∀ v, isP v (houseS m (takeW m w a.toNat b.toNat)) → Q (.tup [.agg [.int .i64 (m : Int), v], .int .i64 0]) H) :
    WpCall E pure base bar 25 [.agg [.int .i64 n, q], .int .i64 a, .int .i64 b] H Q := by
  rw [call25]
  have hb' := bar_ok (pure := pure) hbar
  simp [go_sem, WpFun, c25, hq.frz] at hb' ⊢
  generalize (if pure = true then H.length else bar) = bar' at hb' ⊢
  have ld : aload (H ++ [Blk.row 0 [AV.int IntKind.i64 n, q] 0 true, Blk.row 0 [AV.int IntKind.i64 0, AV.nils] 0 true]) ⟨true, 2⟩ (.ptr H.length 0 0) = some (.agg [.int .i64 n, q]) := by simp [aload, own_get0, Ab.part]
  simp [go_sem, ld, k27 hq hl (show bar' ≤ (H ++ [Blk.row 0 [AV.int IntKind.i64 n, q] 0 true, Blk.row 0 [AV.int IntKind.i64 0, AV.nils] 0 true]).length by simp; omega)]
  cases ho : openS n l with
  | err e =>
    have he : ¬ e = 0 := openS_err ho
    simp [go_sem, errOf, he, fillA, storeWp, astore, own_get, own_set, setCells, aload, Ab.part, hb', show bar' ≤ H.length + 1 by omega]
    exact h1 e ho
  | room w =>
    have hr : within 1 8 n = true := by
      unfold openS at ho
      split at ho
      · assumption
      · cases ho
    simp [within] at hr
    obtain ⟨n, rfl⟩ := Int.eq_ofNat_of_zero_le (show 0 ≤ n by omega)
    obtain ⟨g1, g2, g3, g4, g5, g6⟩ := openS_facts (m := n) rfl ho
    have ldn : aload (H ++ [Blk.row 0 [AV.int IntKind.i64 (n : Int), q] 0 true, Blk.row 0 [AV.int IntKind.i64 0, AV.nils] 0 true]) ⟨false, 1⟩ (.ptr H.length 0 0) = some (.int .i64 (n : Int)) := by simp [aload, own_get0, Ab.part]
    have ldq : aload (H ++ [Blk.row 0 [AV.int IntKind.i64 (n : Int), q] 0 true, Blk.row 0 [AV.int IntKind.i64 0, AV.nils] 0 true]) ⟨false, 1⟩ (.ptr H.length 0 1) = some q := by simp [aload, own_get0, Ab.part]
    have hcs : copiesS n w a b = if a < 0 ∨ b < 0 ∨ (n : Int) ≤ a ∨ (n : Int) ≤ b then 2 else if a = b ∨ (w a.toNat).testBit b.toNat = true then 13 else 0 := rfl
    have hw1 : ∀ x : Int, within 0 ((n : Int) - 1) x = decide (0 ≤ x ∧ x < n) := fun x => by rw [Bool.eq_iff_iff]; simp [within]; omega
    by_cases hin : a < 0 ∨ b < 0 ∨ (n : Int) ≤ a ∨ (n : Int) ≤ b
    · rw [if_pos hin] at hcs
      have := h2 n w rfl g2 g1 ho (by rw [hcs]; decide)
      rw [hcs] at this
      by_cases ha : 0 ≤ a ∧ a < (n : Int)
      · have hbn : ¬ (0 ≤ b ∧ b < (n : Int)) := by omega
        simp [go_sem, errOf, ldn, k72, i64_pred (show n < 1000000 by omega), hw1, ha, hbn, fillA, storeWp, astore, own_get, own_set, setCells, aload, Ab.part, hb', show bar' ≤ H.length + 1 by omega]
        exact this
      · simp [go_sem, errOf, ldn, k72, i64_pred (show n < 1000000 by omega), hw1, ha, fillA, storeWp, astore, own_get, own_set, setCells, aload, Ab.part, hb', show bar' ≤ H.length + 1 by omega]
        exact this
    · rw [if_neg hin] at hcs
      obtain ⟨a, rfl⟩ := Int.eq_ofNat_of_zero_le (show 0 ≤ a by omega)
      obtain ⟨b, rfl⟩ := Int.eq_ofNat_of_zero_le (show 0 ≤ b by omega)
      have ha : a < n := by omega
      have hb : b < n := by omega
      simp only [Int.toNat_natCast] at hcs h3
      have hbit := g4 a b (by omega) (by omega)
      simp only [hbit, natEq] at hcs
      by_cases hab : a = b
      · rw [if_pos (.inl hab)] at hcs
        have := h2 n w rfl g2 g1 ho (by rw [hcs]; decide)
        rw [hcs] at this
        simp [go_sem, errOf, ldn, k72, i64_pred (show n < 1000000 by omega), hw1, natEq, ha, hb, hab, fillA, storeWp, astore, own_get, own_set, setCells, aload, Ab.part, hb', show bar' ≤ H.length + 1 by omega]
        exact this
      · cases hqab : qin l (a : Int) (b : Int)
        · rw [if_neg (by simp [hab, hqab])] at hcs
          have := h3 n w rfl g2 g1 ho hcs
          have hr := openS_room (m := n) rfl ho
          simp [go_sem, errOf, ldn, ldq, ld, k72, i64_pred (show n < 1000000 by omega), hw1, natEq, ha, hb, hab, k65 hq hl, hqab]
          refine k73 hq hl g1 (by simp; omega) ?_
          rw [copied_house hr g1 g4 ha hb hab]
          have hv := isP.out (l := houseS n (takeW n w a b))
          generalize outL 2 (prs (houseS n (takeW n w a b))) = v at hv
          simp [go_sem, storeWp, astore, own_get, own_set, setCells, aload, Ab.part, hb', show bar' ≤ H.length + 1 by omega, hv.frz, hv.top, hv.cells, hv.isTup]
          exact this v hv
        · rw [if_pos (.inr hqab)] at hcs
          have := h2 n w rfl g2 g1 ho (by rw [hcs]; decide)
          rw [hcs] at this
          simp [go_sem, errOf, ldn, ldq, ld, k72, i64_pred (show n < 1000000 by omega), hw1, natEq, ha, hb, hab, k65 hq hl, hqab, fillA, storeWp, astore, own_get, own_set, setCells, hb', show bar' ≤ H.length + 1 by omega]
          simp [go_sem, aload, Ab.part, own_get]
          exact this

theorem k24 {n a b : Int} {q : AV} {l : List ZZ} (hq : isP q l) (hl : l.length < 1000) (hbar : bar ≤ H.length)
    (h1 : ∀ e, openS n l = .err e → Q (.tup [.agg [.int .i64 0, .nils], .int .i64 e]) H)
    (h2 : ∀ (m : Nat) (w : Nat → Nat), n = m → 1 ≤ m → m ≤ 8 → openS n l = .room w → copiesS m w a b ≠ 0 → Q (.tup [.agg [.int .i64 0, .nils], .int .i64 (copiesS m w a b)]) H)
    (h3 : ∀ (m : Nat) (w : Nat → Nat), n = m → 1 ≤ m → m ≤ 8 → openS n l = .room w → copiesS m w a b = 0 → ∀ v, isP v (houseS m (takeW m w a.toNat b.toNat)) → Q (.tup [.agg [.int .i64 (m : Int), v], .int .i64 0]) H) :
    WpCall E pure base bar 24 [.agg [.int .i64 n, q], .int .i64 a, .int .i64 b] H Q := by
  rw [call24]
  have hb' := bar_ok (pure := pure) hbar
  simp [go_sem, WpFun, c24, hq.frz] at hb' ⊢
  generalize (if pure = true then H.length else bar) = bar' at hb' ⊢
  have ld : aload (H ++ [Blk.row 0 [AV.int IntKind.i64 n, q] 0 true, Blk.row 0 [AV.int IntKind.i64 0, AV.nils] 0 true]) ⟨true, 2⟩ (.ptr H.length 0 0) = some (.agg [.int .i64 n, q]) := by simp [aload, own_get0, Ab.part]
  simp [go_sem, ld]
  refine k61 hq hl (by simp; omega) ?_ ?_
  · intro e he
    have he' : ¬ e = 0 := openS_err he
    simp [go_sem, he', fillA, storeWp, astore, own_get, own_set, setCells, aload, Ab.part, hb', show bar' ≤ H.length + 1 by omega]
    exact h1 e he
  · intro m w hm hm1 hm8 hw he
    have e1 : (H ++ [Blk.row 0 [AV.int IntKind.i64 n, q] 0 true, Blk.row 0 [AV.int IntKind.i64 0, AV.nils] 0 true]).length = H.length + 2 := by simp
    have hid : (H ++ [Blk.row 0 [AV.int IntKind.i64 n, q] 0 true, Blk.row 0 [AV.int IntKind.i64 0, AV.nils] 0 true, Blk.row 0 (wcells m w) 0 true])[H.length + 2]? = some (.row 0 (wcells m w) 0 true) := by simp [own_get]
    simp [go_sem]
    refine k69 hid hw hm8 ?_
    by_cases hc : copiesS m w a b = 0
    · obtain ⟨r1, r2, r3, r4, r5, r6⟩ := copies_range hc
      obtain ⟨a, rfl⟩ := Int.eq_ofNat_of_zero_le r1
      obtain ⟨b, rfl⟩ := Int.eq_ofNat_of_zero_le r2
      simp [go_sem, hc]
      refine k70 hid hw hm8 (by omega) (by omega) (by omega) ?_
      simp only [own_set]
      have hr := (openS_room hm he).take (a := a) (b := b) hm8 (by omega) (by omega) (by omega)
      simp [go_sem]
      refine k71 (w := takeW m w a b) (n := m) (fz := 0) (ex := true) (by simp [own_get]) hr.lt hm8 (by simp; omega) ?_
      have hv := isP.out (l := houseS m (takeW m w a b))
      generalize outL 2 (prs (houseS m (takeW m w a b))) = v at hv
      simp [go_sem, storeWp, astore, own_get, own_set, setCells, aload, Ab.part, hb', show bar' ≤ H.length + 1 by omega, hv.frz, hv.top, hv.cells, hv.isTup]
      exact h3 m w hm hm1 hm8 he hc v hv
    · simp [go_sem, hc, fillA, storeWp, astore, own_get, own_set, setCells, aload, Ab.part, hb', show bar' ≤ H.length + 1 by omega]
      exact h2 m w hm hm1 hm8 he hc
end Go.Proofs.Ythoogegclpiefaa.Code
end

section
namespace Go.Proofs.Ythoogegclpiefaa.Code
open Go Go.Ab
variable {pure : Bool} {base bar : Nat} {H : Heap} {Q : AV → Heap → Prop}

theorem l28 {a b : AV} {x y : List ZZ} (ha : isP a x) (hb : isP b y) (hx : x.length < 100000) (hxy : x.length = y.length) {R : PQ} : ∀ (k i : Nat), i + k = x.length →
    (x.drop i ≠ y.drop i → R .ret [(4, .bool false)] H) →
    (x.drop i = y.drop i → R (.exit 0) [(0, a), (1, b), (5, .int .i64 (x.length : Nat)), (14, .bool false)] H) →
    Wp E base bar (.loop c28_l0) [(0, a), (1, b), (5, .int .i64 (i : Nat))] H R := by
  intro k
  induction k with
  | zero =>
    intro i hi h1 h2
    obtain rfl : i = x.length := by omega
    rw [wp_round c28_l0.eq_1]
    simp [go_sem, ha.len]
    exact h2 (by rw [List.drop_length, hxy, List.drop_length])
  | succ k ih =>
    intro i hi h1 h2
    have hlt : i < x.length := by omega
    have hlt2 : i < y.length := by omega
    rw [wp_round c28_l0.eq_1]
    rw [List.drop_eq_getElem_cons hlt, List.drop_eq_getElem_cons hlt2, List.cons.injEq] at h2
    rw [List.drop_eq_getElem_cons hlt, List.drop_eq_getElem_cons hlt2, ne_eq, List.cons.injEq] at h1
    obtain ⟨⟨p1, p2⟩, hp⟩ : ∃ p, x[i] = p := ⟨_, rfl⟩
    obtain ⟨⟨r1, r2⟩, hr⟩ : ∃ p, y[i] = p := ⟨_, rfl⟩
    rw [hp, hr] at h1 h2
    simp only [Prod.mk.injEq] at h1 h2
    by_cases hc : p1 = r1 ∧ p2 = r2
    · simp only [hc, true_and, and_self] at h1 h2
      obtain ⟨rfl, rfl⟩ := hc
      simp [go_sem, hlt, ha.len, ha.ix hlt, hb.ix hlt2, hp, hr, zc, eqWp_flat2, i64_suc (show i < 1000000 by omega)]
      exact ih (i + 1) (by omega) h1 h2
    · have hc' : (p1 == r1 && p2 == r2) = false := by simpa using fun h => by simpa using fun h2 => hc ⟨h, h2⟩
      simp [go_sem, hlt, ha.len, ha.ix hlt, hb.ix hlt2, hp, hr, zc, eqWp_flat2, hc']
      exact h1 (fun he => hc he.1)

theorem k28 {a b : AV} {x y : List ZZ} (ha : isP a x) (hb : isP b y) (hx : x.length < 100000) (h : Q (.bool (decide (x = y))) H) : WpCall E pure base bar 28 [a, b] H Q := by
  rw [call28]
  simp [go_sem, WpFun, c28, ha.frz, hb.frz, ha.len, hb.len]
  by_cases hl : x.length = y.length
  · simp [go_sem, natEq, hl]
    refine l28 ha hb hx hl x.length 0 (by omega) ?_ ?_
    · intro he
      rw [show decide (x = y) = false by simpa using he] at h
      simp [go_sem]
      exact h
    · intro he
      rw [show decide (x = y) = true by simpa using he] at h
      simp [go_sem]
      exact h
  · rw [show decide (x = y) = false by simp; intro hc; exact hl (by rw [hc])] at h
    simp [go_sem, show ¬ ((x.length : Nat) : Int) = (y.length : Nat) by omega]
    exact h

/-- copies, one after the other -/
def runC (n : Nat) : List ZZ → (Nat → Nat) → Opened
  | [], w => .room w
  | p :: r, w => if copiesS n w p.1 p.2 = 0 then runC n r (takeW n w p.1.toNat p.2.toNat) else .err (copiesS n w p.1 p.2)
def growsE (n : Nat) (w0 w : Nat → Nat) : Int := if (oddS n w).isSome = true ∨ quarrelsS n w < quarrelsS n w0 ∨ (largestS n w0).length < (largestS n w).length then 14 else 0
def growsS (n : Nat) (w0 : Nat → Nat) (cs : List ZZ) : Int := match runC n cs w0 with
  | .err e => e
  | .room w => growsE n w0 w

theorem l29 {n : Int} {m : Nat} {q cv : AV} {cs : List ZZ} (hc : isP cv cs) (hcl : cs.length < 1000) (hm : m ≤ 8) (hbar : bar ≤ H.length) {a b : Nat} {R : PQ} :
    ∀ (k i : Nat) (w : Nat → Nat), i + k = cs.length → RoomW m w →
    (∀ e H', runC m (cs.drop i) w = .err e → H'.take H.length = H → R .ret [(4, .int .i64 e)] H') →
    (∀ w', RoomW m w' → runC m (cs.drop i) w = .room w' → R (.exit 0) [(5, .ptr (H.length + 1) 0 0), (7, .int .i64 (a : Nat)), (8, .int .i64 (b : Nat)), (29, cv), (30, .int .i64 (cs.length : Nat)), (31, .int .i64 (cs.length : Nat)), (32, .bool false)] (H ++ [.row 0 [.int .i64 n, q] 0 true, .row 0 (wcells m w') 0 true])) →
    Wp E H.length bar (.loop c29_l0) [(5, .ptr (H.length + 1) 0 0), (7, .int .i64 (a : Nat)), (8, .int .i64 (b : Nat)), (29, cv), (30, .int .i64 (cs.length : Nat)), (31, .int .i64 (i : Nat))] (H ++ [.row 0 [.int .i64 n, q] 0 true, .row 0 (wcells m w) 0 true]) R := by
  intro k
  induction k with
  | zero =>
    intro i w hi hr h1 h2
    obtain rfl : i = cs.length := by omega
    rw [wp_round c29_l0.eq_1]
    simp [go_sem]
    rw [List.drop_length] at h2
    exact h2 w hr rfl
  | succ k ih =>
    intro i w hi hr h1 h2
    have hlt : i < cs.length := by omega
    rw [wp_round c29_l0.eq_1]
    rw [List.drop_eq_getElem_cons hlt] at h1 h2
    obtain ⟨⟨x, y⟩, hp⟩ : ∃ p, cs[i] = p := ⟨_, rfl⟩
    rw [hp] at h1 h2
    simp only [runC] at h1 h2
    have hid : (H ++ [Blk.row 0 [AV.int IntKind.i64 n, q] 0 true, Blk.row 0 (wcells m w) 0 true, Blk.row 0 [.int .i64 x, .int .i64 y] 0 true])[H.length + 1]? = some (.row 0 (wcells m w) 0 true) := by simp [own_get]
    simp [go_sem, hlt, hc.ix hlt, hp, zc, storeWp, astore, own_get, own_set, show bar ≤ H.length + 2 by omega, aload, Ab.part, setCells]
    refine k69 hid hr.lt hm ?_
    by_cases hcp : copiesS m w x y = 0
    · rw [if_pos hcp] at h1 h2
      obtain ⟨r1, r2, r3, r4, r5, r6⟩ := copies_range hcp
      obtain ⟨x, rfl⟩ := Int.eq_ofNat_of_zero_le r1
      obtain ⟨y, rfl⟩ := Int.eq_ofNat_of_zero_le r2
      simp only [Int.toNat_natCast] at h1 h2
      have hr' := hr.take (a := x) (b := y) hm (by omega) (by omega) (by omega)
      simp [go_sem, hcp, own_get, aload, Ab.part]
      refine k70 hid hr.lt hm (by omega) (by omega) (by omega) ?_
      simp only [own_set]
      simp [go_sem, hc.top, i64_suc (show i < 1000000 by omega)]
      exact ih (i + 1) _ (by omega) hr' h1 h2
    · rw [if_neg hcp] at h1
      simp [go_sem, hcp]
      exact h1 _ _ rfl (by simp)

theorem k29 {n : Int} {q cv : AV} {l cs : List ZZ} (hq : isP q l) (hl : l.length < 1000) (hc : isP cv cs) (hcl : cs.length < 1000) (hbar : bar ≤ H.length)
    (h1 : ∀ e, openS n l = .err e → Q (.int .i64 e) H)
    (h2 : ∀ (m : Nat) (w : Nat → Nat), n = m → 1 ≤ m → m ≤ 8 → openS n l = .room w → Q (.int .i64 (growsS m w cs)) H) :
    WpCall E pure base bar 29 [.agg [.int .i64 n, q], cv] H Q := by
  rw [call29]
  have hb' := bar_ok (pure := pure) hbar
  simp [go_sem, WpFun, c29, hq.frz, hc.frz, aload, own_get0, Ab.part] at hb' ⊢
  generalize (if pure = true then H.length else bar) = bar' at hb' ⊢
  refine k61 hq hl (by simp; omega) ?_ ?_
  · intro e he
    have he' : ¬ e = 0 := openS_err he
    simp [go_sem, he']
    exact h1 e he
  · intro m w hm hm1 hm8 hw he
    have hr := openS_room hm he
    have hid : ∀ w, (H ++ [Blk.row 0 [AV.int IntKind.i64 n, q] 0 true, Blk.row 0 (wcells m w) 0 true])[H.length + 1]? = some (.row 0 (wcells m w) 0 true) := fun w => by simp [own_get]
    have hlen : ∀ w, bar' ≤ (H ++ [Blk.row 0 [AV.int IntKind.i64 n, q] 0 true, Blk.row 0 (wcells m w) 0 true]).length := fun w => by simp; omega
    simp [go_sem]
    refine k76 (hid w) hw hm8 (hlen w) ?_
    simp [go_sem]
    refine k77 (hid w) hw hm8 (hlen w) fun bv hbv => ?_
    simp [go_sem, hbv.len, hc.len]
    have hgs : growsS m w cs = match runC m cs w with
      | .err e => e
      | .room w' => growsE m w w' := rfl
    have h2' := h2 m w hm hm1 hm8 he
    refine l29 hc hcl hm8 hb' cs.length 0 w (by omega) hr (fun e H' hrun ht => ?_) (fun w' hr' hrun => ?_)
    · rw [List.drop_zero] at hrun
      simp only [hrun] at hgs
      rw [hgs] at h2'
      simp [go_sem, ht]
      exact h2'
    · rw [List.drop_zero] at hrun
      simp only [hrun] at hgs
      rw [hgs] at h2'
      have hge : growsE m w w' = if (oddS m w').isSome = true ∨ quarrelsS m w' < quarrelsS m w ∨ (largestS m w).length < (largestS m w').length then 14 else 0 := rfl
      simp [go_sem]
      refine k64 (hid w') hr'.lt hm8 (hlen w') ?_
      cases ho : oddS m w' with
      | some t =>
        obtain ⟨a, b, c⟩ := t
        rw [hge, if_pos (.inl (by rw [ho]; rfl))] at h2'
        simp [go_sem]
        exact h2'
      | none =>
        simp only [ho, Option.isSome_none, Bool.false_eq_true, false_or] at hge
        simp [go_sem]
        refine k76 (hid w') hr'.lt hm8 (hlen w') ?_
        by_cases hqq : quarrelsS m w' < quarrelsS m w
        · rw [hge, if_pos (.inl hqq)] at h2'
          simp [go_sem, hqq]
          exact h2'
        · simp [go_sem, hqq]
          refine k77 (hid w') hr'.lt hm8 (hlen w') fun bv' hbv' => ?_
          by_cases hbb : (largestS m w).length < (largestS m w').length
          · rw [hge, if_pos (.inr hbb)] at h2'
            simp [go_sem, hbv'.len, hbb]
            exact h2'
          · rw [hge, if_neg (by simp [hqq, hbb])] at h2'
            simp [go_sem, hbv'.len, hbb]
            exact h2'
end Go.Proofs.Ythoogegclpiefaa.Code
end

section
namespace Go.Proofs.Ythoogegclpiefaa.Code
open Go Go.Ab
variable {pure : Bool} {base bar : Nat} {H : Heap} {Q : AV → Heap → Prop}

/-! sums -/
def sumN (f : Nat → Nat) : Nat → Nat
  | 0 => 0
  | n + 1 => sumN f n + f n
theorem sumN_congr {f g : Nat → Nat} : ∀ {n : Nat}, (∀ x, x < n → f x = g x) → sumN f n = sumN g n
  | 0, _ => rfl
  | n + 1, h => by rw [sumN, sumN, sumN_congr fun x hx => h x (by omega), h n (by omega)]
theorem sumN_add {f g : Nat → Nat} : ∀ {n : Nat}, sumN (fun x => f x + g x) n = sumN f n + sumN g n
  | 0 => rfl
  | n + 1 => by simp only [sumN]; rw [sumN_add]; omega
theorem sumN_zero : ∀ {n : Nat}, sumN (fun _ => 0) n = 0
  | 0 => rfl
  | n + 1 => by rw [sumN, sumN_zero]
theorem sumN_one {a : Nat} : ∀ {n : Nat}, sumN (fun x => if x = a then 1 else 0) n = if a < n then 1 else 0
  | 0 => rfl
  | n + 1 => by
    rw [sumN, sumN_one]
    by_cases h : n = a
    · subst h; simp
    · by_cases h2 : a < n
      · simp [h, h2, show a < n + 1 by omega]
      · simp [h, h2, show ¬ a < n + 1 by omega]
theorem sumN_at {a c : Nat} : ∀ {n : Nat}, sumN (fun x => if x = a then c else 0) n = if a < n then c else 0
  | 0 => rfl
  | n + 1 => by
    rw [sumN, sumN_at]
    by_cases h : n = a
    · subst h; simp
    · by_cases h2 : a < n
      · simp [h, h2, show a < n + 1 by omega]
      · simp [h, h2, show ¬ a < n + 1 by omega]
theorem sumN_le {f : Nat → Nat} {c : Nat} : ∀ {n : Nat}, (∀ x, x < n → f x ≤ c) → sumN f n ≤ n * c
  | 0, _ => by simp [sumN]
  | n + 1, h => by
    have h1 := sumN_le (n := n) (fun x hx => h x (by omega))
    have h2 := h n (by omega)
    rw [sumN, Nat.succ_mul]; omega
theorem foldl_sumN {f : Nat → Nat} : ∀ {n : Nat}, ((List.range n).map f).foldl (· + ·) 0 = sumN f n
  | 0 => rfl
  | n + 1 => by
    rw [List.range_succ, List.map_append, List.foldl_append, foldl_sumN]
    rfl
theorem filter_sumN {p : Nat → Bool} : ∀ {n : Nat}, ((List.range n).filter p).length = sumN (fun x => if p x = true then 1 else 0) n
  | 0 => rfl
  | n + 1 => by
    rw [List.range_succ, List.filter_append, List.length_append, filter_sumN, sumN]
    cases h : p n <;> simp [h]

/-- with how many one quarrels -/
def degW (w : Nat → Nat) (x : Nat) : Nat := (bitsOf (w x)).length
def degSum (n : Nat) (w : Nat → Nat) : Nat := sumN (degW w) n
theorem quarrels_sum {n : Nat} {w : Nat → Nat} : quarrelsS n w = degSum n w / 2 := by
  unfold quarrelsS oftenS sumL
  rw [foldl_sumN]; rfl

theorem degF_sum {m : Nat} : ∀ {l : List ZZ}, (∀ p ∈ l, 0 ≤ p.1 ∧ p.1 < p.2 ∧ p.2 < (m : Int)) → sumN (degF l) m = 2 * l.length
  | [], _ => by
    have : degF [] = fun _ => 0 := by funext x; rfl
    rw [this, sumN_zero]; rfl
  | (a, b) :: r, h => by
    obtain ⟨h1, h2, h3⟩ := h (a, b) (List.mem_cons_self ..)
    simp only at h1 h2 h3
    obtain ⟨a, rfl⟩ := Int.eq_ofNat_of_zero_le h1
    obtain ⟨b, rfl⟩ := Int.eq_ofNat_of_zero_le (show 0 ≤ b by omega)
    have e : degF (((a : Int), (b : Int)) :: r) = fun x => degF r x + ((if x = a then 1 else 0) + (if x = b then 1 else 0)) := by
      funext x
      simp only [degF, List.filter_cons]
      by_cases hx : x = a
      · subst hx
        simp; omega
      · by_cases hy : x = b
        · subst hy
          simp; omega
        · have e1 : ((a : Int) == (x : Int)) = false := by simp; omega
          have e2 : ((b : Int) == (x : Int)) = false := by simp; omega
          simp [hx, hy, e1, e2]
    rw [e, sumN_add, sumN_add, sumN_one, sumN_one, degF_sum fun p hp => h p (List.mem_cons_of_mem _ hp), if_pos (by omega), if_pos (by omega), List.length_cons]
    omega
theorem quarrels_len {n : Int} {m : Nat} {l : List ZZ} {w : Nat → Nat} (hm : n = m) (h : openS n l = .room w) : quarrelsS m w = l.length := by
  obtain ⟨h1, h2, h3, h4, h5, h6⟩ := openS_facts hm h
  have := agree_often hm h
  unfold quarrelsS sumL
  rw [this, foldl_sumN, degF_sum (openF_valid h6)]
  omega

theorem house_len {n : Nat} {w : Nat → Nat} (hn : n ≤ 8) : (houseS n w).length < 1000 := by
  have : (houseS n w).length ≤ n * 8 := by
    have := flatMap_len (m := 8) (f := fun a => above a (bitsOf (w a))) (List.range n) (fun x _ => Nat.le_trans above_len (bits_len _))
    simpa [houseS] using this
  omega

theorem l30 {n : Int} {m : Nat} {q cv : AV} {cs : List ZZ} (hc : isP cv cs) (hcl : cs.length < 1000) (hnm : n = m) (hm1 : 1 ≤ m) (hm : m ≤ 8) (hbar : bar ≤ H.length) {R : PQ} :
    ∀ (k i : Nat) (w : Nat → Nat) (l : List ZZ) (qv : AV), i + k = cs.length → isP qv l → l.length < 1000 → openS n l = .room w →
    (∀ e H', runC m (cs.drop i) w = .err e → H'.take H.length = H → R .ret [(4, .int .i64 e)] H') →
    (∀ w' l' qv', runC m (cs.drop i) w = .room w' → isP qv' l' → l'.length < 1000 → openS n l' = .room w' → R (.exit 0) [(1, cv), (2, .ptr H.length 0 0), (6, .ptr (H.length + 1) 0 0), (7, .int .i64 (cs.length : Nat)), (17, .bool false)] (H ++ [.row 0 [.int .i64 n, q] 0 true, .row 0 [.int .i64 n, qv'] 0 true])) →
    Wp E H.length bar (.loop c30_l0) [(1, cv), (2, .ptr H.length 0 0), (6, .ptr (H.length + 1) 0 0), (7, .int .i64 (i : Nat))] (H ++ [.row 0 [.int .i64 n, q] 0 true, .row 0 [.int .i64 n, qv] 0 true]) R := by
  intro k
  induction k with
  | zero =>
    intro i w l qv hi hq hl ho h1 h2
    obtain rfl : i = cs.length := by omega
    rw [wp_round c30_l0.eq_1]
    simp [go_sem, hc.len]
    rw [List.drop_length] at h2
    exact h2 w l qv rfl hq hl ho
  | succ k ih =>
    intro i w l qv hi hq hl ho h1 h2
    have hlt : i < cs.length := by omega
    have hr := openS_room hnm ho
    rw [wp_round c30_l0.eq_1]
    rw [List.drop_eq_getElem_cons hlt] at h1 h2
    obtain ⟨⟨x, y⟩, hp⟩ : ∃ p, cs[i] = p := ⟨_, rfl⟩
    rw [hp] at h1 h2
    simp only [runC] at h1 h2
    have ld : aload (H ++ [Blk.row 0 [AV.int IntKind.i64 n, q] 0 true, Blk.row 0 [.int .i64 n, qv] 0 true]) ⟨true, 2⟩ (.ptr (H.length + 1) 0 0) = some (.agg [.int .i64 n, qv]) := by simp [aload, own_get, Ab.part]
    simp [go_sem, hlt, hc.len, hc.ix hlt, hp, zc, ld]
    refine k25 hq hl (by simp; omega) (fun e he => by rw [ho] at he; cases he) (fun m' w' hm' _ _ he hcp => ?_) (fun m' w' hm' _ _ he hcp v hv => ?_)
    · rw [ho] at he; cases he
      obtain rfl : m = m' := by omega
      rw [if_neg hcp] at h1
      simp [go_sem, storeWp, astore, own_get, own_set, setCells, show bar ≤ H.length + 1 by omega, hcp, hq.noVec]
      exact h1 _ _ rfl (by simp)
    · rw [ho] at he; cases he
      obtain rfl : m = m' := by omega
      rw [if_pos hcp] at h1 h2
      obtain ⟨r1, r2, r3, r4, r5, r6⟩ := copies_range hcp
      have hr' := hr.take (a := x.toNat) (b := y.toNat) hm (by omega) (by omega) (by omega)
      simp [go_sem, storeWp, astore, own_get, own_set, setCells, show bar ≤ H.length + 1 by omega, hv.cells, hv.isTup, hv.top, hq.noVec, i64_suc (show i < 1000000 by omega)]
      rw [← hnm]
      exact ih (i + 1) _ _ v (by omega) hv (house_len hm) (by rw [hnm]; exact open_house hr' hm1 hm) h1 h2

theorem k30 {n : Int} {q cv : AV} {l cs : List ZZ} (hq : isP q l) (hl : l.length < 1000) (hc : isP cv cs) (hcl : cs.length < 1000) (hbar : bar ≤ H.length)
    (h1 : ∀ e, openS n l = .err e → Q (.int .i64 e) H)
    (h2 : ∀ (m : Nat) (w : Nat → Nat), n = m → 1 ≤ m → m ≤ 8 → openS n l = .room w → Q (.int .i64 (growsS m w cs)) H) :
    WpCall E pure base bar 30 [.agg [.int .i64 n, q], cv] H Q := by
  rw [call30]
  have hb' := bar_ok (pure := pure) hbar
  have e0 : H ++ [.row 0 [.int .i64 n, q] 0 true] = HI H n q := rfl
  simp [go_sem, WpFun, c30, hq.frz, hc.frz, e0, HI_h] at hb' ⊢
  generalize (if pure = true then H.length else bar) = bar' at hb' ⊢
  rw [k27 hq hl (by rw [HI_len]; omega)]
  cases ho : openS n l with
  | err e =>
    simp [go_sem, errOf, openS_err ho, HI]
    exact h1 e ho
  | room w =>
    have hr : within 1 8 n = true := by
      unfold openS at ho
      split at ho
      · assumption
      · cases ho
    simp [within] at hr
    obtain ⟨m, rfl⟩ := Int.eq_ofNat_of_zero_le (show 0 ≤ n by omega)
    have h2' := h2 m w rfl (by omega) (by omega) ho
    have hgs : growsS m w cs = match runC m cs w with
      | .err e => e
      | .room w' => growsE m w w' := rfl
    simp [go_sem, errOf, HI_h, HI_len, storeWp, astore, HI, own_get, own_set, setCells, show bar' ≤ H.length + 1 by omega, hq.cells, hq.isTup, hq.top, aload, own_get0, Ab.part]
    refine l30 hc hcl rfl (by omega) (by omega) hb' cs.length 0 w l q (by omega) hq hl ho (fun e H' hrun ht => ?_) (fun w' l' qv' hrun hq' hl' ho' => ?_)
    · rw [List.drop_zero] at hrun
      simp only [hrun] at hgs
      rw [hgs] at h2'
      simp [go_sem, ht]
      exact h2'
    · rw [List.drop_zero] at hrun
      simp only [hrun] at hgs
      rw [hgs] at h2'
      have hge : growsE m w w' = if (oddS m w').isSome = true ∨ quarrelsS m w' < quarrelsS m w ∨ (largestS m w).length < (largestS m w').length then 14 else 0 := rfl
      rw [agree_odd rfl ho', quarrels_len rfl ho', quarrels_len rfl ho, agree_largest rfl ho, agree_largest rfl ho'] at hge
      have ld : aload (H ++ [Blk.row 0 [AV.int IntKind.i64 (m : Int), q] 0 true, Blk.row 0 [.int .i64 (m : Int), qv'] 0 true]) ⟨true, 2⟩ (.ptr (H.length + 1) 0 0) = some (.agg [.int .i64 (m : Int), qv']) := by simp [aload, own_get, Ab.part]
      have ld2 : aload (H ++ [Blk.row 0 [AV.int IntKind.i64 (m : Int), q] 0 true, Blk.row 0 [.int .i64 (m : Int), qv'] 0 true]) ⟨true, 2⟩ (.ptr H.length 0 0) = some (.agg [.int .i64 (m : Int), q]) := by simp [aload, own_get0, Ab.part]
      have ld3 : aload (H ++ [Blk.row 0 [AV.int IntKind.i64 (m : Int), q] 0 true, Blk.row 0 [.int .i64 (m : Int), qv'] 0 true]) ⟨false, 1⟩ (.ptr (H.length + 1) 0 1) = some qv' := by simp [aload, own_get, Ab.part]
      have ld4 : aload (H ++ [Blk.row 0 [AV.int IntKind.i64 (m : Int), q] 0 true, Blk.row 0 [.int .i64 (m : Int), qv'] 0 true]) ⟨false, 1⟩ (.ptr H.length 0 1) = some q := by simp [aload, own_get0, Ab.part]
      have hlen : bar' ≤ (H ++ [Blk.row 0 [AV.int IntKind.i64 (m : Int), q] 0 true, Blk.row 0 [.int .i64 (m : Int), qv'] 0 true]).length := by rw [List.length_append]; omega
      simp [go_sem, ld]
      refine k68 (m := m) rfl ho' hq' hl' (by simp; omega) ?_
      cases hod : oddR l' m with
      | some t =>
        rw [hge, if_pos (.inl (by rw [hod]; rfl))] at h2'
        simp [go_sem, hq'.noVec, hq.noVec]
        exact h2'
      | none =>
        simp only [hod, Option.isSome_none, Bool.false_eq_true, false_or] at hge
        by_cases hqq : l'.length < l.length
        · rw [hge, if_pos (.inl hqq)] at h2'
          simp [go_sem, hq'.noVec, hq.noVec, ld3, ld4, hq.len, hq'.len, hqq]
          exact h2'
        · simp [go_sem, hq'.noVec, hq.noVec, ld, ld2, ld3, ld4, hq.len, hq'.len, hqq]
          refine k78 (n := m) hq' hl' (by omega) hlen fun v1 hv1 => ?_
          simp [go_sem, hq'.noVec, hq.noVec, ld, ld2, hv1.len]
          refine k78 (n := m) hq hl (by omega) hlen fun v2 hv2 => ?_
          simp [go_sem, hq'.noVec, hq.noVec, hv1.len, hv2.len]
          by_cases hbb : (largestR l m m).length < (largestR l' m m).length
          · rw [hge, if_pos (.inr hbb)] at h2'
            simp [go_sem, hbb]
            exact h2'
          · rw [hge, if_neg (by simp [hqq, hbb])] at h2'
            simp [go_sem, hbb]
            exact h2'
end Go.Proofs.Ythoogegclpiefaa.Code
end

section
namespace Go.Proofs.Ythoogegclpiefaa.Code
open Go Go.Ab
variable {pure : Bool} {base bar : Nat} {H : Heap} {Q : AV → Heap → Prop}

/-! what a copy does to the number of quarrels -/
theorem bits_cut : ∀ s, s < 256 → ∀ b, b < 8 → (bitsOf (clr s (pw b))).length + (if s.testBit b = true then 1 else 0) = (bitsOf s).length := by decide +kernel
theorem bits_put : ∀ s, s < 256 → ∀ b, b < 8 → s.testBit b = false → (bitsOf (bor s (pw b))).length = (bitsOf s).length + 1 := by decide +kernel
theorem deg_col {n x : Nat} {w : Nat → Nat} (h : RoomW n w) (hn : n ≤ 8) : sumN (fun y => if (w y).testBit x = true then 1 else 0) n = degW w x := by
  have e : degW w x = ((List.range n).filter ((w x).testBit ·)).length := by
    unfold degW bitsOf
    obtain ⟨d, hd⟩ : ∃ d, 8 = n + d := ⟨8 - n, by omega⟩
    rw [hd, filter_range_cut d fun c hc1 hc2 => by
      cases hc : (w x).testBit c
      · rfl
      · have := (h.dom x c hc).2; omega]
  rw [e, filter_sumN]
  apply sumN_congr
  intro y _
  rw [h.sym]
theorem deg_row {n a b x : Nat} {w : Nat → Nat} (h : RoomW n w) (hn : n ≤ 8) (ha : a < n) (hb : b < n) (hab : a ≠ b) (hx : x ≠ b) :
    degW (takeW n w a b) x + (if (w x).testBit b = true then 1 else 0) = degW w x + (if (w x).testBit a = true then 1 else 0) := by
  have hc := bits_cut (w x) (h.lt x) b (by omega)
  have hrow : takeW n w a b x = if (w x).testBit a = true then bor (clr (w x) (pw b)) (pw b) else clr (w x) (pw b) := by
    apply Nat.eq_of_testBit_eq
    intro y
    rw [take_bit h hn hab, if_neg hx]
    by_cases hy : y = b
    · subst hy
      rw [if_pos rfl, h.sym a x]
      cases hxa : (w x).testBit a
      · simp [testBit_clr (h.lt x), testBit_pw]
      · simp [testBit_bor, testBit_pw]
    · rw [if_neg hy]
      cases hxa : (w x).testBit a
      · simp [testBit_clr (h.lt x), testBit_pw, Ne.symm hy]
      · simp [testBit_bor, testBit_clr (h.lt x), testBit_pw, Ne.symm hy]
  unfold degW
  rw [hrow]
  cases hxa : (w x).testBit a
  · simp only [Bool.false_eq_true, if_false] at *
    omega
  · simp only [if_true] at *
    rw [bits_put _ (clr_lt (h.lt x)) b (by omega) (by rw [testBit_clr (h.lt x), testBit_pw]; simp)]
    omega
theorem deg_copy {n a b : Nat} {w : Nat → Nat} (h : RoomW n w) (hn : n ≤ 8) (hab : a ≠ b) (hnot : (w a).testBit b = false) : degW (takeW n w a b) b = degW w a := by
  unfold degW
  congr 2
  apply Nat.eq_of_testBit_eq
  intro y
  rw [take_bit h hn hab, if_pos rfl]
  by_cases hy : y = b
  · subst hy; rw [if_pos rfl, hnot]
  · rw [if_neg hy]
theorem deg_take {n a b : Nat} {w : Nat → Nat} (h : RoomW n w) (hn : n ≤ 8) (ha : a < n) (hb : b < n) (hab : a ≠ b) (hnot : (w a).testBit b = false) :
    degSum n (takeW n w a b) + 2 * degW w b = degSum n w + 2 * degW w a := by
  have e : ∀ x, x < n → degW (takeW n w a b) x + ((if (w x).testBit b = true then 1 else 0) + (if x = b then degW w b else 0)) = degW w x + ((if (w x).testBit a = true then 1 else 0) + (if x = b then degW w a else 0)) := fun x hx => by
    by_cases hxb : x = b
    · subst hxb
      rw [deg_copy h hn hab hnot, h.irr, h.sym x a, hnot]
      simp; omega
    · have := deg_row h hn ha hb hab hxb
      simp only [if_neg hxb]
      omega
  have := sumN_congr e
  rw [sumN_add, sumN_add, sumN_add, sumN_add, deg_col h hn, deg_col h hn, sumN_at, sumN_at, if_pos hb, if_pos hb] at this
  unfold degSum
  omega
theorem degSum_le {n : Nat} {w : Nat → Nat} (hn : n ≤ 8) : degSum n w ≤ 64 := by
  have := sumN_le (f := degW w) (c := 8) (n := n) (fun x _ => bits_len _)
  unfold degSum
  have h2 : n * 8 ≤ 8 * 8 := Nat.mul_le_mul_right _ hn
  omega

theorem odd_some {n a b c : Nat} {w : Nat → Nat} (h : RoomW n w) (ho : oddS n w = some (a, b, c)) : a < n ∧ b < n ∧ c < n ∧ a ≠ b ∧ b ≠ c ∧ a ≠ c ∧ (w a).testBit b = false ∧ (w b).testBit c = false ∧ (w a).testBit c = true := by
  unfold oddS at ho
  obtain ⟨l1, a', l2, h1, h2, h3⟩ := List.findSome?_eq_some_iff.1 ho
  have ha : a' < n := List.mem_range.1 (by rw [h1]; simp)
  unfold oddB at h2
  obtain ⟨m1, b', m2, g1, g2, g3⟩ := List.findSome?_eq_some_iff.1 h2
  have hb : b' < n := List.mem_range.1 (by rw [g1]; simp)
  cases hc : oddC n w a' b' with
  | none => rw [hc] at g2; cases g2
  | some c' =>
    rw [hc] at g2
    simp only [Option.map_some, Option.some.injEq, Prod.mk.injEq] at g2
    obtain ⟨rfl, rfl, rfl⟩ := g2
    unfold oddC at hc
    split at hc
    · cases hc
    rename_i hn
    have hmem := List.mem_of_head? hc
    simp only [bitsOf, List.mem_filter, List.mem_range, testBit_band, testBit_all, testBit_clr (h.lt _), Bool.and_eq_true, Bool.not_eq_true', decide_eq_true_eq] at hmem
    obtain ⟨_, ⟨k1, k2⟩, k3⟩ := hmem
    have hab : a' ≠ b' := fun he => hn (.inl he)
    have hq : (w a').testBit b' = false := by
      cases hq : (w a').testBit b'
      · rfl
      · exact absurd (.inr hq) hn
    refine ⟨ha, hb, k3, hab, fun he => ?_, fun he => ?_, hq, k2, k1⟩
    · subst he; rw [hq] at k1; cases k1
    · subst he; rw [h.irr] at k1; cases k1

/-- copies that lead to a parted house -/
def growC (n : Nat) : Nat → (Nat → Nat) → List ZZ
  | 0, _ => []
  | f + 1, w => match oddS n w with
    | none => []
    | some (a, b, c) => if degW w b < degW w a then ((a : Int), (b : Int)) :: growC n f (takeW n w a b) else if degW w b < degW w c then ((c : Int), (b : Int)) :: growC n f (takeW n w c b) else
      ((b : Int), (a : Int)) :: ((b : Int), (c : Int)) :: growC n f (takeW n (takeW n w b a) b c)

/-- each round more quarrels -/
theorem grow_three {n a b c : Nat} {w : Nat → Nat} (h : RoomW n w) (hn : n ≤ 8) (ho : oddS n w = some (a, b, c)) :
    (degW w b < degW w a → degSum n w + 2 ≤ degSum n (takeW n w a b)) ∧ (degW w b < degW w c → degSum n w + 2 ≤ degSum n (takeW n w c b)) ∧
    (¬ degW w b < degW w a → ¬ degW w b < degW w c → degSum n w ≤ degSum n (takeW n w b a) ∧ degSum n w + 2 ≤ degSum n (takeW n (takeW n w b a) b c) ∧ (takeW n w b a b).testBit c = false) := by
  obtain ⟨ha, hb, hc, hab, hbc, hac, q1, q2, q3⟩ := odd_some h ho
  refine ⟨fun hd => ?_, fun hd => ?_, fun hd1 hd2 => ?_⟩
  · have := deg_take h hn ha hb hab q1; omega
  · have := deg_take h hn hc hb (Ne.symm hbc) (by rw [h.sym]; exact q2); omega
  · have e1 := deg_take h hn hb ha (Ne.symm hab) (by rw [h.sym]; exact q1)
    have h' := h.take hn hb ha (Ne.symm hab)
    have q4 : (takeW n w b a b).testBit c = false := by
      rw [take_bit h hn (Ne.symm hab), if_neg (Ne.symm hab), if_neg (Ne.symm hac)]; exact q2
    have e2 := deg_take h' hn hb hc hbc q4
    have d1 := deg_row h hn hb ha (Ne.symm hab) (x := b) (Ne.symm hab)
    have d2 := deg_row h hn hb ha (Ne.symm hab) (x := c) (Ne.symm hac)
    rw [h.irr b, h.sym b a, q1] at d1
    rw [h.sym c a, q3, h.sym c b, q2] at d2
    simp at d1 d2
    exact ⟨by omega, by omega, q4⟩
end Go.Proofs.Ythoogegclpiefaa.Code
end

section
namespace Go.Proofs.Ythoogegclpiefaa.Code
open Go Go.Ab
variable {pure : Bool} {base bar : Nat} {H : Heap} {Q : AV → Heap → Prop}

/-- four blocks: the house that came in, the workroom, its cell, the copies' cell -/
def HG (H : Heap) (n : Int) (q : AV) (m : Nat) (w : Nat → Nat) (v : AV) : Heap := H ++ [.row 0 [.int .i64 n, q] 0 true, .row 0 (wcells m w) 0 true, .row 0 [.ptr (H.length + 1) 0 0] 0 true, .row 0 [v] 0 true]
section
variable {n : Int} {q v v' : AV} {m : Nat} {w w' : Nat → Nat}
theorem HG_len : (HG H n q m w v).length = H.length + 4 := by simp [HG]
theorem HG_get1 : (HG H n q m w v)[H.length + 1]? = some (.row 0 (wcells m w) 0 true) := by simp [HG, own_get]
theorem HG_get2 : (HG H n q m w v)[H.length + 2]? = some (.row 0 [.ptr (H.length + 1) 0 0] 0 true) := by simp [HG, own_get]
theorem HG_get3 : (HG H n q m w v)[H.length + 3]? = some (.row 0 [v] 0 true) := by simp [HG, own_get]
theorem HG_set1 : (HG H n q m w v).set (H.length + 1) (.row 0 (wcells m w') 0 true) = HG H n q m w' v := by simp [HG, own_set]
theorem HG_set3 : (HG H n q m w v).set (H.length + 3) (.row 0 [v'] 0 true) = HG H n q m w v' := by simp [HG, own_set]

theorem k74 (hr : RoomW m w) (hm : m ≤ 8) {a b : Nat} (ha : a < m) (hb : b < m) {done : List ZZ} (hd : done.length ≤ 1000) {Hc : Heap} (g : Grow 2 (prs done) (HG H n q m w v) v Hc) (hbar : bar ≤ H.length)
    (h : ∀ v' Hc', Grow 2 (prs (done ++ [((a : Int), (b : Int))])) (HG H n q m (takeW m w a b) v') v' Hc' → Q (.tup []) Hc') :
    WpCall E false H.length bar 74 [.int .i64 (a : Nat), .int .i64 (b : Nat), .ptr (H.length + 2) 0 0, .ptr (H.length + 3) 0 0] Hc Q := by
  rw [call74]
  simp [go_sem, WpFun, c74, aload_ptr (g.get HG_get2)]
  refine k70 (g.get HG_get1) hr.lt hm (by omega) (by omega) (by omega) ?_
  have g1 := g.set (i := H.length + 1) (b := .row 0 (wcells m (takeW m w a b)) 0 true) (by rw [HG_len]; omega)
  rw [HG_set1] at g1
  simp [go_sem, aload_ptr (g1.get HG_get3), aop, chunks]
  refine g1.pair (p := ((a : Int), (b : Int))) (by rw [HG_len]; omega) (by rw [HG_len]; omega) (by omega) fun v' H' tc g' => ?_
  obtain ⟨s1, s2⟩ := grow_slot g'
  simp [go_sem]
  rw [storeWp_ptr (size := 1) (g'.get HG_get3) s1 (by rw [s2]; rfl) (by omega) (by simp) (by omega) (.inl (by omega))]
  have g2 := g'.set (i := H.length + 3) (b := .row 0 [v'] 0 true) (by rw [HG_len]; omega)
  rw [HG_set3] at g2
  simp only [s2, setCells]
  simp [go_sem]
  exact h v' _ g2

def tailL : ACode → ACode
  | .seq (.label _) b => b
  | .seq _ b => tailL b
  | c => c
theorem find26 : findL c26_s0 0 = some (.seq .skip (tailL c26_s0)) := rfl
theorem oftenS_get {x : Nat} (hx : x < (oftenS m w).length) : (oftenS m w)[x] = degW w x := by simp [oftenS, degW]

theorem l26 (hm : m ≤ 8) (hbar : bar ≤ H.length) {R : PQ} : ∀ (f : Nat) (w : Nat → Nat) (v : AV) (done : List ZZ) (Hc : Heap), RoomW m w → 64 < degSum m w + 2 * f → done.length + 2 * f ≤ 1000 → Grow 2 (prs done) (HG H n q m w v) v Hc →
    (∀ v' w' Hc', Grow 2 (prs (done ++ growC m f w)) (HG H n q m w' v') v' Hc' → R .ret [(2, v'), (3, .int .i64 0)] Hc') →
    Wp E H.length bar (.scope c26_s0 (.seq .skip (tailL c26_s0))) [(4, .ptr (H.length + 2) 0 0), (6, .ptr (H.length + 3) 0 0), (7, .fn 74 [] [.ptr (H.length + 2) 0 0, .ptr (H.length + 3) 0 0])] Hc R := by
  intro f
  induction f with
  | zero =>
    intro w v done Hc hr hf hd g h
    have := degSum_le (w := w) hm
    omega
  | succ f ih =>
    intro w v done Hc hr hf hd g h
    rw [wp_scope]
    have hret : ∀ fr H', gotoWp E H.length bar c26_s0 R .ret fr H' = R .ret fr H' := fun _ _ => rfl
    have hgo : ∀ fr H', gotoWp E H.length bar c26_s0 R (.goto 0) fr H' = Wp E H.length bar (.scope c26_s0 (.seq .skip (tailL c26_s0))) fr H' R := fun _ _ => by
      simp only [gotoWp, find26]
    generalize gotoWp E H.length bar c26_s0 R = G at hret hgo ⊢
    generalize hS : ACode.scope c26_s0 (.seq .skip (tailL c26_s0)) = S at hgo ih
    have hl := g.len
    rw [HG_len] at hl
    simp [go_sem, tailL, c26_s0, aload_ptr (g.get HG_get2)]
    refine k64 (g.get HG_get1) hr.lt hm (by omega) ?_
    have hgc : growC m (f + 1) w = match oddS m w with
      | none => []
      | some (a, b, c) => if degW w b < degW w a then ((a : Int), (b : Int)) :: growC m f (takeW m w a b) else if degW w b < degW w c then ((c : Int), (b : Int)) :: growC m f (takeW m w c b) else
        ((b : Int), (a : Int)) :: ((b : Int), (c : Int)) :: growC m f (takeW m (takeW m w b a) b c) := rfl
    cases ho : oddS m w with
    | none =>
      simp only [ho] at hgc
      rw [hgc, List.append_nil] at h
      simp [go_sem, hret, aload_ptr (g.get HG_get3)]
      exact h v w Hc g
    | some t =>
      obtain ⟨a, b, c⟩ := t
      simp only [ho] at hgc
      obtain ⟨ha, hb, hc, hab, hbc, hac, q1, q2, q3⟩ := odd_some hr ho
      obtain ⟨t1, t2, t3⟩ := grow_three hr hm ho
      have hlen : (oftenS m w).length = m := oftenS_len
      simp [go_sem, aload_ptr (g.get HG_get2)]
      refine k75 (g.get HG_get1) hr.lt hm (by omega) ?_
      have hv := isL.out (l := oftenS m w)
      generalize outL 1 (nats (oftenS m w)) = lv at hv
      have xa : ∀ (H : Heap) (k : IntKind) (K : AV → Heap → List Nat → Prop), ixaSWp 1 (some lv) (some (.int k (a : Int))) H K = K (.fp (.int .i64 (degW w a : Nat))) H [] := fun _ _ _ => by rw [hv.ix (show a < (oftenS m w).length by omega), oftenS_get]
      have xb : ∀ (H : Heap) (k : IntKind) (K : AV → Heap → List Nat → Prop), ixaSWp 1 (some lv) (some (.int k (b : Int))) H K = K (.fp (.int .i64 (degW w b : Nat))) H [] := fun _ _ _ => by rw [hv.ix (show b < (oftenS m w).length by omega), oftenS_get]
      have xc : ∀ (H : Heap) (k : IntKind) (K : AV → Heap → List Nat → Prop), ixaSWp 1 (some lv) (some (.int k (c : Int))) H K = K (.fp (.int .i64 (degW w c : Nat))) H [] := fun _ _ _ => by rw [hv.ix (show c < (oftenS m w).length by omega), oftenS_get]
      by_cases h1 : degW w b < degW w a
      · rw [if_pos h1] at hgc
        simp [go_sem, xa, xb, h1]
        refine k74 hr hm ha hb (by omega) g hbar fun v' Hc' g' => ?_
        simp [go_sem, hgo]
        refine ih _ v' _ Hc' (hr.take hm ha hb hab) (by have := t1 h1; omega) (by simp; omega) g' fun v2 w2 Hc2 g2 => h v2 w2 Hc2 ?_
        rw [hgc]; simpa using g2
      · by_cases h2 : degW w b < degW w c
        · rw [if_neg h1, if_pos h2] at hgc
          simp [go_sem, xa, xb, xc, h1, h2]
          refine k74 hr hm hc hb (by omega) g hbar fun v' Hc' g' => ?_
          simp [go_sem, hgo]
          refine ih _ v' _ Hc' (hr.take hm hc hb (Ne.symm hbc)) (by have := t2 h2; omega) (by simp; omega) g' fun v2 w2 Hc2 g2 => h v2 w2 Hc2 ?_
          rw [hgc]; simpa using g2
        · rw [if_neg h1, if_neg h2] at hgc
          obtain ⟨u1, u2, u3⟩ := t3 h1 h2
          simp [go_sem, xa, xb, xc, h1, h2]
          refine k74 hr hm hb ha (by omega) g hbar fun v' Hc' g' => ?_
          have hr' := hr.take hm hb ha (Ne.symm hab)
          simp [go_sem]
          refine k74 hr' hm hb hc (by simp; omega) g' hbar fun v2 Hc2 g2 => ?_
          simp [go_sem, hgo]
          refine ih _ v2 _ Hc2 (hr'.take hm hb hc hbc) (by omega) (by simp; omega) g2 fun v3 w3 Hc3 g3 => h v3 w3 Hc3 ?_
          rw [hgc]; simpa using g3
end
end Go.Proofs.Ythoogegclpiefaa.Code
end

section
namespace Go.Proofs.Ythoogegclpiefaa.Code
open Go Go.Ab
variable {pure : Bool} {base bar : Nat} {H : Heap} {Q : AV → Heap → Prop}

theorem k26 {n : Int} {q : AV} {l : List ZZ} (hq : isP q l) (hl : l.length < 1000) (hbar : bar ≤ H.length)
    (h1 : ∀ e, openS n l = .err e → Q (.tup [.nils, .int .i64 e]) H)
    (h2 : ∀ (m : Nat) (w : Nat → Nat), n = m → 1 ≤ m → m ≤ 8 → openS n l = .room w → ∀ v, isP v (growC m 33 w) → Q (.tup [v, .int .i64 0]) H) :
    WpCall E pure base bar 26 [.agg [.int .i64 n, q]] H Q := by
  rw [call26]
  have hb' := bar_ok (pure := pure) hbar
  simp [go_sem, WpFun, c26, hq.frz] at hb' ⊢
  generalize (if pure = true then H.length else bar) = bar' at hb' ⊢
  have ld : aload (H ++ [Blk.row 0 [AV.int IntKind.i64 n, q] 0 true]) ⟨true, 2⟩ (.ptr H.length 0 0) = some (.agg [.int .i64 n, q]) := by simp [aload, own_get0, Ab.part]
  have key := fun (m : Nat) (w : Nat → Nat) (hm : m ≤ 8) (hr : RoomW m w) => l26 (H := H) (n := n) (q := q) (m := m) hm hb' (R := retWp 0 H.length bar' [ARes.tmp 2, ARes.tmp 3] Q) 33 w .nils [] _ hr (by omega) (by simp) Grow.nil
  have hret : ∀ R fr H', gotoWp E H.length bar' c26_s0 R .ret fr H' = R .ret fr H' := fun _ _ _ => rfl
  have hret := hret (retWp 0 H.length bar' [ARes.tmp 2, ARes.tmp 3] Q)
  simp only [wp_scope] at key
  generalize gotoWp E H.length bar' c26_s0 (retWp 0 H.length bar' [ARes.tmp 2, ARes.tmp 3] Q) = G at hret key ⊢
  rw [c26_s0.eq_1]
  simp [go_sem, ld]
  refine k61 hq hl (by simp; omega) ?_ ?_
  · intro e he
    simp [go_sem, storeWp, astore, own_get, own_set, setCells, show bar' ≤ H.length + 1 by omega, openS_err he, hret]
    exact h1 e he
  · intro m w hm hm1 hm8 hw he
    have hr := openS_room hm he
    have e0 : ∀ L, H ++ (Blk.row 0 [AV.int IntKind.i64 n, q] 0 true :: Blk.row 0 (wcells m w) 0 true :: L) = H ++ [Blk.row 0 [AV.int IntKind.i64 n, q] 0 true, Blk.row 0 (wcells m w) 0 true] ++ L := fun L => by simp
    have key := key m w hm8 hr
    have lp : aload (HG H n q m w .nils) ⟨false, 1⟩ (.ptr (H.length + 2) 0 0) = some (.ptr (H.length + 1) 0 0) := aload_ptr HG_get2
    simp [go_sem, tailL, c26_s0, lp] at key
    simp [go_sem, storeWp, astore, own_get, own_set, setCells, show bar' ≤ H.length + 2 by omega, aload, Ab.part]
    refine key fun v' w' Hc' g => ?_
    obtain ⟨H2, f1, f2, f3, f4⟩ := g.frz (d := 5) (bar := bar') (by decide) ⟨_, prs_length⟩ prs_plain (by rw [HG_len]; omega)
    rw [show 5 + 3 = 8 from rfl] at f1
    simp only [f1]
    have e3 : H2.take H.length = H := by
      have := congrArg (List.take H.length) f4
      rw [List.take_take, HG_len, Nat.min_eq_left (by omega)] at this
      rw [this]; simp [HG]
    simp [go_sem, isP.out.top, e3]
    exact h2 m w hm hm1 hm8 he _ isP.out

/-! brawls and copies -/
theorem brawl_iff {n s : Nat} {w : Nat → Nat} (h : RoomW n w) (hs : s < 256) : brawlS w s = true ↔ ∀ x y, s.testBit x = true → s.testBit y = true → x ≠ y → (w x).testBit y = true := by
  unfold brawlS
  simp only [List.all_eq_true, beq_iff_eq]
  constructor
  · intro hb x y hx hy hxy
    have hx8 : x < 8 := by
      apply Decidable.byContradiction
      intro hc
      rw [Nat.testBit_lt_two_pow (Nat.lt_of_lt_of_le hs (Nat.pow_le_pow_right (by decide) (Nat.not_lt.1 hc) : 2 ^ 8 ≤ 2 ^ x))] at hx
      cases hx
    have := congrArg (·.testBit y) (hb x (by simp [bitsOf, hx8, hx]))
    simp only [testBit_clr hs, testBit_pw, hy, Bool.true_and, hxy, decide_false, Bool.not_eq_false'] at this
    exact this
  · intro hb x hx
    simp only [bitsOf, List.mem_filter, List.mem_range] at hx
    apply Nat.eq_of_testBit_eq
    intro y
    rw [testBit_clr hs, testBit_pw]
    by_cases hxy : x = y
    · subst hxy; simp [hx.2, h.irr]
    · cases hy : s.testBit y
      · simp [hxy]
      · simp [hxy, hb x y hx.2 hy hxy]

theorem largest_max {n s : Nat} {w : Nat → Nat} (h1 : 1 ≤ s) (h2 : s < pw n) (hb : brawlS w s = true) : (bitsOf s).length ≤ (largestS n w).length := by
  obtain ⟨_, f2, _⟩ := fold_best (w := w) (List.range' 1 (pw n - 1)) []
  have := f2 s (List.mem_range'_1.2 (by omega)) hb
  apply Decidable.byContradiction
  intro hc
  exact this (.inl (by show (largestS n w).length < _; omega))
theorem largest_is {n : Nat} {w : Nat → Nat} : largestS n w = [] ∨ ∃ s, 1 ≤ s ∧ s < pw n ∧ brawlS w s = true ∧ largestS n w = bitsOf s := by
  obtain ⟨f1, _, _⟩ := fold_best (w := w) (List.range' 1 (pw n - 1)) []
  rcases f1 with f1 | ⟨s, hs, hb, he⟩
  · exact .inl f1
  · have := List.mem_range'_1.1 hs
    exact .inr ⟨s, by omega, by omega, hb, he⟩

theorem lt_pw {n s : Nat} (h : ∀ i, s.testBit i = true → i < n) : s < pw n := by
  unfold pw
  apply Nat.lt_pow_two_of_testBit
  intro i hi
  cases hc : s.testBit i
  · rfl
  · have := h i hc; omega
theorem bit_lt {n s i : Nat} (h : s < pw n) (hb : s.testBit i = true) : i < n := by
  apply Decidable.byContradiction
  intro hc
  rw [Nat.testBit_lt_two_pow (Nat.lt_of_lt_of_le h (Nat.pow_le_pow_right (by decide) (Nat.not_lt.1 hc) : 2 ^ n ≤ 2 ^ i))] at hb
  cases hb

theorem largest_take {n a b : Nat} {w : Nat → Nat} (h : RoomW n w) (hn : n ≤ 8) (ha : a < n) (hb : b < n) (hab : a ≠ b) : (largestS n (takeW n w a b)).length ≤ (largestS n w).length := by
  have h' := h.take hn ha hb hab
  have hp := pw_le hn
  rcases largest_is (n := n) (w := takeW n w a b) with he | ⟨s, h1, h2, hs, he⟩
  · rw [he]; simp
  rw [he]
  have h3 := (brawl_iff h' (by omega)).1 hs
  cases hsb : s.testBit b
  · refine largest_max h1 h2 ((brawl_iff h (by omega)).2 fun x y hx hy hxy => ?_)
    have := h3 x y hx hy hxy
    have hxb : x ≠ b := fun hc => by subst hc; rw [hsb] at hx; cases hx
    have hyb : y ≠ b := fun hc => by subst hc; rw [hsb] at hy; cases hy
    rwa [take_bit h hn hab, if_neg hxb, if_neg hyb] at this
  · have hsa : s.testBit a = false := by
      cases hc : s.testBit a
      · rfl
      · have := h3 a b hc hsb hab
        rw [take_bit h hn hab, if_neg hab, if_pos rfl, h.irr] at this
        cases this
    have hc8 : clr s (pw b) < 256 := clr_lt (by omega)
    have ht : bor (clr s (pw b)) (pw a) < 256 := bor_lt hc8 (pw_lt (by omega))
    have hbit : ∀ x, (bor (clr s (pw b)) (pw a)).testBit x = true ↔ (s.testBit x = true ∧ x ≠ b) ∨ x = a := fun x => by
      rw [testBit_bor, testBit_clr (by omega), testBit_pw, testBit_pw]
      by_cases hx : x = a
      · subst hx; simp
      · by_cases hxb : x = b
        · subst hxb; simp [hx, Ne.symm hx]
        · simp [hx, Ne.symm hx, hxb, Ne.symm hxb]
    have hlen : (bitsOf (bor (clr s (pw b)) (pw a))).length = (bitsOf s).length := by
      have e1 := bits_cut s (by omega) b (by omega)
      rw [if_pos hsb] at e1
      rw [bits_put _ hc8 a (by omega) (by rw [testBit_clr (by omega), hsa]; rfl)]
      exact e1
    rw [← hlen]
    refine largest_max ?_ (lt_pw fun i hi => ?_) ((brawl_iff h ht).2 fun x y hx hy hxy => ?_)
    · apply Decidable.byContradiction
      intro hc
      have := (hbit a).2 (.inr rfl)
      rw [show bor (clr s (pw b)) (pw a) = 0 by omega] at this
      simp at this
    · rcases (hbit i).1 hi with ⟨h5, _⟩ | rfl
      · exact bit_lt h2 h5
      · exact ha
    · rcases (hbit x).1 hx with ⟨x1, x2⟩ | rfl
      · rcases (hbit y).1 hy with ⟨y1, y2⟩ | rfl
        · have := h3 x y x1 y1 hxy
          rwa [take_bit h hn hab, if_neg x2, if_neg y2] at this
        · have := h3 x b x1 hsb x2
          rw [take_bit h hn hab, if_neg x2, if_pos rfl] at this
          rw [h.sym]; exact this
      · rcases (hbit y).1 hy with ⟨y1, y2⟩ | rfl
        · have := h3 b y hsb y1 (Ne.symm y2)
          rwa [take_bit h hn hab, if_pos rfl, if_neg y2] at this
        · exact absurd rfl hxy

theorem copies_ok {n a b : Nat} {w : Nat → Nat} (ha : a < n) (hb : b < n) (hab : a ≠ b) (h : (w a).testBit b = false) : copiesS n w (a : Int) (b : Int) = 0 := by
  unfold copiesS
  rw [if_neg (by omega), if_neg]
  simp [h]; omega

theorem run_grow {n : Nat} (hn : n ≤ 8) : ∀ (f : Nat) (w : Nat → Nat), RoomW n w → 64 < degSum n w + 2 * f →
    ∃ w', runC n (growC n f w) w = .room w' ∧ RoomW n w' ∧ oddS n w' = none ∧ degSum n w ≤ degSum n w' ∧ (largestS n w').length ≤ (largestS n w).length
  | 0, w, hr, hf => by have := degSum_le (w := w) hn; omega
  | f + 1, w, hr, hf => by
    simp only [growC]
    cases ho : oddS n w with
    | none => exact ⟨w, rfl, hr, ho, Nat.le_refl _, Nat.le_refl _⟩
    | some t =>
      obtain ⟨a, b, c⟩ := t
      obtain ⟨ha, hb, hc, hab, hbc, hac, q1, q2, q3⟩ := odd_some hr ho
      obtain ⟨t1, t2, t3⟩ := grow_three hr hn ho
      simp only
      by_cases h1 : degW w b < degW w a
      · rw [if_pos h1]
        obtain ⟨w', g1, g2, g3, g4, g5⟩ := run_grow hn f (takeW n w a b) (hr.take hn ha hb hab) (by have := t1 h1; omega)
        refine ⟨w', ?_, g2, g3, by have := t1 h1; omega, Nat.le_trans g5 (largest_take hr hn ha hb hab)⟩
        simp only [runC, copies_ok ha hb hab q1, if_true, Int.toNat_natCast]
        exact g1
      · rw [if_neg h1]
        by_cases h2 : degW w b < degW w c
        · rw [if_pos h2]
          obtain ⟨w', g1, g2, g3, g4, g5⟩ := run_grow hn f (takeW n w c b) (hr.take hn hc hb (Ne.symm hbc)) (by have := t2 h2; omega)
          refine ⟨w', ?_, g2, g3, by have := t2 h2; omega, Nat.le_trans g5 (largest_take hr hn hc hb (Ne.symm hbc))⟩
          simp only [runC, copies_ok hc hb (Ne.symm hbc) (by rw [hr.sym]; exact q2), if_true, Int.toNat_natCast]
          exact g1
        · rw [if_neg h2]
          obtain ⟨u1, u2, u3⟩ := t3 h1 h2
          have hr' := hr.take hn hb ha (Ne.symm hab)
          obtain ⟨w', g1, g2, g3, g4, g5⟩ := run_grow hn f (takeW n (takeW n w b a) b c) (hr'.take hn hb hc hbc) (by omega)
          refine ⟨w', ?_, g2, g3, by omega, Nat.le_trans g5 (Nat.le_trans (largest_take hr' hn hb hc hbc) (largest_take hr hn hb ha (Ne.symm hab)))⟩
          simp only [runC, copies_ok hb ha (Ne.symm hab) (by rw [hr.sym]; exact q1), copies_ok hb hc hbc u3, if_true, Int.toNat_natCast]
          exact g1
theorem grow_len {n : Nat} : ∀ (f : Nat) (w : Nat → Nat), (growC n f w).length ≤ 2 * f
  | 0, w => by simp [growC]
  | f + 1, w => by
    simp only [growC]
    cases oddS n w with
    | none => simp
    | some t =>
      obtain ⟨a, b, c⟩ := t
      simp only
      have h1 := grow_len (n := n) f (takeW n w a b)
      have h2 := grow_len (n := n) f (takeW n w c b)
      have h3 := grow_len (n := n) f (takeW n (takeW n w b a) b c)
      split
      · simp; omega
      · split
        · simp; omega
        · simp; omega

theorem grows_grow {n : Nat} {w : Nat → Nat} (hn : n ≤ 8) (h : RoomW n w) : growsS n w (growC n 33 w) = 0 := by
  obtain ⟨w', g1, g2, g3, g4, g5⟩ := run_grow hn 33 w h (by omega)
  unfold growsS
  rw [g1]
  simp only
  unfold growsE
  rw [if_neg]
  rw [g3, quarrels_sum, quarrels_sum]
  simp
  constructor
  · exact Nat.div_le_div_right g4
  · exact g5
end Go.Proofs.Ythoogegclpiefaa.Code
end

section
namespace Go.Proofs.Ythoogegclpiefaa.Code
open Go Go.Ab
variable {pure : Bool} {base bar : Nat} {H : Heap} {Q : AV → Heap → Prop}

theorem law4 {n a b : Int} {q cv : AV} {l cs : List ZZ} (hq : isP q l) (hc : isP cv cs) :
    WpCall E false 0 0 4 [.agg [.int .i64 n, q], .int .i64 a, .int .i64 b, cv] [] (fun v _ => v = .bool true) := by
  rw [call4]
  have e0 : aload [Blk.row 0 [AV.int IntKind.i64 n, q] 0 true] ⟨true, 2⟩ (.ptr 0 0 0) = some (.agg [.int .i64 n, q]) := rfl
  simp [go_sem, WpFun, c4, hq.frz, hc.frz, e0, k14 hq]
  by_cases hl : 80 < l.length
  · simp [go_sem, hl, show ¬ l.length ≤ 80 by omega, call15]
  · simp [go_sem, hl, hc.len, show l.length ≤ 80 by omega]
    by_cases hcl : 30 < cs.length
    · simp [go_sem, hcl, show ¬ (cs.length : Int) ≤ 30 by omega, show (30 : Int) < (cs.length : Int) by omega, call15]
    · simp [go_sem, hcl, show (cs.length : Int) ≤ 30 by omega, show ¬ (30 : Int) < (cs.length : Int) by omega, e0, storeWp, astore, hq.top]
      have hl2 : l.length < 1000 := by omega
      have hcl2 : cs.length < 1000 := by omega
      have e1 : aload [Blk.row 0 [AV.int IntKind.i64 n, q] 0 true, Blk.row 0 [AV.int IntKind.i64 n, q] 0 true] ⟨true, 2⟩ (.ptr 0 0 0) = some (.agg [.int .i64 n, q]) := rfl
      simp [go_sem, e1]
      cases ho : openS n l with
      | err e =>
        refine k24 hq hl2 (Nat.zero_le _) (fun e' he => ?_) (fun m w _ _ _ he => by rw [ho] at he; cases he) (fun m w _ _ _ he => by rw [ho] at he; cases he)
        rw [ho] at he; cases he
        simp [go_sem, storeWp, astore, aload, Ab.part, setCells]
        refine k25 hq hl2 (Nat.zero_le _) (fun e' he => ?_) (fun m w _ _ _ he => by rw [ho] at he; cases he) (fun m w _ _ _ he => by rw [ho] at he; cases he)
        rw [ho] at he; cases he
        simp [go_sem, storeWp, astore, aload, Ab.part, setCells]
        refine k26 hq hl2 (Nat.zero_le _) (fun e' he => ?_) (fun m w _ _ _ he => by rw [ho] at he; cases he)
        rw [ho] at he; cases he
        simp [go_sem, aload, Ab.part]
        rw [k27 hq hl2 (Nat.zero_le _), ho]
        simp only [errOf]
        simp [go_sem, aload, Ab.part]
        refine k28 .nil .nil (by simp) ?_
        simp [go_sem, aload, Ab.part]
        refine k29 hq hl2 hc hcl2 (Nat.zero_le _) (fun e' he => ?_) (fun m w _ _ _ he => by rw [ho] at he; cases he)
        rw [ho] at he; cases he
        simp [go_sem, aload, Ab.part, hq.noVec, hc.noVec]
        refine k30 hq hl2 hc hcl2 (Nat.zero_le _) (fun e' he => ?_) (fun m w _ _ _ he => by rw [ho] at he; cases he)
        rw [ho] at he; cases he
        have hne := openS_err ho
        simp [go_sem, aload, Ab.part, hq.noVec, hc.noVec, hne, call15]
      | room w0 =>
        obtain ⟨m, hm, h1, h8⟩ : ∃ m : Nat, n = m ∧ 1 ≤ m ∧ m ≤ 8 := by
          have hr : within 1 8 n = true := by
            unfold openS at ho
            split at ho
            · assumption
            · cases ho
          simp [within] at hr
          exact ⟨n.toNat, by omega, by omega, by omega⟩
        have hr := openS_room hm ho
        have hgl := grow_len (n := m) 33 w0
        have hgg := grows_grow h8 hr
        by_cases hcp : copiesS m w0 a b = 0
        · refine k24 hq hl2 (Nat.zero_le _) (fun e' he => by rw [ho] at he; cases he) (fun m' w' hm' _ _ he hc' => absurd (by rw [ho] at he; cases he; obtain rfl : m = m' := (by omega); exact hcp) hc') (fun m' w' hm' _ _ he _ v1 hv1 => ?_)
          rw [ho] at he; cases he
          obtain rfl : m = m' := by omega
          simp [go_sem, storeWp, astore, aload, Ab.part, setCells, hv1.isTup, hv1.cells, hv1.top]
          refine k25 hq hl2 (Nat.zero_le _) (fun e' he => by rw [ho] at he; cases he) (fun m' w' hm' _ _ he hc' => absurd (by rw [ho] at he; cases he; obtain rfl : m = m' := (by omega); exact hcp) hc') (fun m' w' hm' _ _ he _ v2 hv2 => ?_)
          rw [ho] at he; cases he
          obtain rfl : m = m' := by omega
          simp [go_sem, storeWp, astore, aload, Ab.part, setCells, hv2.isTup, hv2.cells, hv2.top]
          refine k26 hq hl2 (Nat.zero_le _) (fun e' he => by rw [ho] at he; cases he) (fun m' w' hm' _ _ he lv hlv => ?_)
          rw [ho] at he; cases he
          obtain rfl : m = m' := by omega
          simp [go_sem, aload, Ab.part]
          rw [k27 hq hl2 (Nat.zero_le _), ho]
          simp only [errOf]
          simp [go_sem, aload, Ab.part]
          refine k28 hv1 hv2 (by first | exact Nat.lt_of_lt_of_le (house_len h8) (by decide) | simp) ?_
          simp [go_sem, aload, Ab.part, hv1.noVec, hv2.noVec, hlv.len, show (((growC m 33 w0).length : Nat) : Int) ≤ 100 by omega, show ¬ (100 : Int) < (((growC m 33 w0).length : Nat) : Int) by omega]
          refine k29 hq hl2 hc hcl2 (Nat.zero_le _) (fun e' he => by rw [ho] at he; cases he) (fun m' w' hm' _ _ he => ?_)
          rw [ho] at he; cases he
          obtain rfl : m = m' := by omega
          simp [go_sem, aload, Ab.part, hq.noVec, hc.noVec]
          refine k30 hq hl2 hc hcl2 (Nat.zero_le _) (fun e' he => by rw [ho] at he; cases he) (fun m' w' hm' _ _ he => ?_)
          rw [ho] at he; cases he
          obtain rfl : m = m' := by omega
          simp [go_sem, aload, Ab.part, hq.noVec, hc.noVec]
          refine k30 hq hl2 hlv (by omega) (Nat.zero_le _) (fun e' he => by rw [ho] at he; cases he) (fun m' w' hm' _ _ he => ?_)
          rw [ho] at he; cases he
          obtain rfl : m = m' := by omega
          rw [hgg]
          simp [go_sem, call15]
        · refine k24 hq hl2 (Nat.zero_le _) (fun e' he => by rw [ho] at he; cases he) (fun m' w' hm' _ _ he hc' => ?_) (fun m' w' hm' _ _ he hc' => absurd hc' (by rw [ho] at he; cases he; obtain rfl : m = m' := (by omega); exact hcp))
          rw [ho] at he; cases he
          obtain rfl : m = m' := by omega
          simp [go_sem, storeWp, astore, aload, Ab.part, setCells]
          refine k25 hq hl2 (Nat.zero_le _) (fun e' he => by rw [ho] at he; cases he) (fun m' w' hm' _ _ he hc' => ?_) (fun m' w' hm' _ _ he hc' => absurd hc' (by rw [ho] at he; cases he; obtain rfl : m = m' := (by omega); exact hcp))
          rw [ho] at he; cases he
          obtain rfl : m = m' := by omega
          have hv1 : isP .nils [] := .nil
          have hv2 : isP .nils [] := .nil
          simp [go_sem, storeWp, astore, aload, Ab.part, setCells]
          refine k26 hq hl2 (Nat.zero_le _) (fun e' he => by rw [ho] at he; cases he) (fun m' w' hm' _ _ he lv hlv => ?_)
          rw [ho] at he; cases he
          obtain rfl : m = m' := by omega
          simp [go_sem, aload, Ab.part]
          rw [k27 hq hl2 (Nat.zero_le _), ho]
          simp only [errOf]
          simp [go_sem, aload, Ab.part]
          refine k28 hv1 hv2 (by first | exact Nat.lt_of_lt_of_le (house_len h8) (by decide) | simp) ?_
          simp [go_sem, aload, Ab.part, hv1.noVec, hv2.noVec, hlv.len, show (((growC m 33 w0).length : Nat) : Int) ≤ 100 by omega, show ¬ (100 : Int) < (((growC m 33 w0).length : Nat) : Int) by omega]
          refine k29 hq hl2 hc hcl2 (Nat.zero_le _) (fun e' he => by rw [ho] at he; cases he) (fun m' w' hm' _ _ he => ?_)
          rw [ho] at he; cases he
          obtain rfl : m = m' := by omega
          simp [go_sem, aload, Ab.part, hq.noVec, hc.noVec]
          refine k30 hq hl2 hc hcl2 (Nat.zero_le _) (fun e' he => by rw [ho] at he; cases he) (fun m' w' hm' _ _ he => ?_)
          rw [ho] at he; cases he
          obtain rfl : m = m' := by omega
          simp [go_sem, aload, Ab.part, hq.noVec, hc.noVec]
          refine k30 hq hl2 hlv (by omega) (Nat.zero_le _) (fun e' he => by rw [ho] at he; cases he) (fun m' w' hm' _ _ he => ?_)
          rw [ho] at he; cases he
          obtain rfl : m = m' := by omega
          rw [hgg]
          simp [go_sem, call15]

theorem copies_true {n a b : Int} {q cv : AV} {l cs : List ZZ} (hq : isP q l) (hc : isP cv cs) : ∃ f H', acall E f 4 [.agg [.int .i64 n, q], .int .i64 a, .int .i64 b, cv] [] = some (.bool true, H') := by
  obtain ⟨f, v, H', h1, rfl⟩ := law4 (n := n) (a := a) (b := b) hq hc
  exact ⟨f, H', h1⟩
end Go.Proofs.Ythoogegclpiefaa.Code
end
