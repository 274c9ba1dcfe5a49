/-
  Lists of numbers as values; rows in memory.
-/
import Derived.Test.YthoogegclpiefaaAbBit
set_option linter.all false
namespace Go.Ab
variable {H : Heap} {bar : Nat} {K : AV → Heap → List Nat → Prop}

/-- a value is a list of numbers -/
def isL (v : AV) (l : List Nat) : Prop := (v = .nils ∧ l = []) ∨ ∃ ex, v = .lst 1 ex (nats l)

theorem isL.nil : isL .nils [] := .inl ⟨rfl, rfl⟩
theorem isL.lst {ex : Bool} {l : List Nat} : isL (.lst 1 ex (nats l)) l := .inr ⟨ex, rfl⟩
theorem isL.out {l : List Nat} : isL (outL 1 (nats l)) l := by
  rw [outL_nats]
  split
  · rename_i h; subst h; exact .inl ⟨rfl, rfl⟩
  · exact .lst
theorem isL.len {v : AV} {l : List Nat} (h : isL v l) : lenWp (some v) H K = K (.int .i64 (l.length : Int)) H [] := by
  rcases h with ⟨rfl, rfl⟩ | ⟨ex, rfl⟩
  · rfl
  · rw [lenWp_lst, nats_length]
theorem isL.frz {v : AV} {l : List Nat} (h : isL v l) {d : Nat} : frz (d + 1) bar H v = some (v, H) := by
  rcases h with ⟨rfl, rfl⟩ | ⟨ex, rfl⟩ <;> rfl
theorem isL.plain {v : AV} {l : List Nat} (h : isL v l) : Plain v := by
  rcases h with ⟨rfl, rfl⟩ | ⟨ex, rfl⟩
  · exact Plain.nils
  · exact Plain.lst
theorem isL.top {v : AV} {l : List Nat} (h : isL v l) : v.top = 0 := by
  rcases h with ⟨rfl, rfl⟩ | ⟨ex, rfl⟩
  · rfl
  · exact tops_nats
theorem isL.isTup {v : AV} {l : List Nat} (h : isL v l) : v.isTup = false := by
  rcases h with ⟨rfl, rfl⟩ | ⟨ex, rfl⟩ <;> rfl
theorem isL.cells {v : AV} {l : List Nat} (h : isL v l) : v.cells = [v] := by
  rcases h with ⟨rfl, rfl⟩ | ⟨ex, rfl⟩ <;> rfl
theorem isL.noVec {v : AV} {l : List Nat} (h : isL v l) : v.noVec = true := by
  rcases h with ⟨rfl, rfl⟩ | ⟨ex, rfl⟩ <;> rfl
theorem nats_get {l : List Nat} {i : Nat} (hi : i < l.length) : (nats l)[i]? = some (.int .i64 ((l[i] : Nat) : Int)) := by
  simp [nats, List.getElem?_eq_getElem hi]
theorem isL.ix {v : AV} {l : List Nat} (h : isL v l) {k : IntKind} {i : Nat} (hi : i < l.length) : ixaSWp 1 (some v) (some (.int k (i : Int))) H K = K (.fp (.int .i64 ((l[i] : Nat) : Int))) H [] := by
  rcases h with ⟨rfl, rfl⟩ | ⟨ex, rfl⟩
  · simp at hi
  · rw [ixaSWp_lst]
    simp only [Int.toNat_natCast, nats_get hi, Option.map_some, valWp_some]
    simp

theorem isL.ix0 {v : AV} {c : Nat} {r : List Nat} (h : isL v (c :: r)) {k : IntKind} : ixaSWp 1 (some v) (some (.int k 0)) H K = K (.fp (.int .i64 (c : Int))) H [] := h.ix (i := 0) (by simp)
theorem aload_ptr {id ver off fz : Nat} {ex : Bool} {cs : List AV} {ti : TI} (h : H[id]? = some (.row ver cs fz ex)) : aload H ti (.ptr id ver off) = part ti cs off := by
  simp [aload, h]
@[go_sem] theorem aload_fp {k : IntKind} {n : Int} {s : Nat} : aload H ⟨false, s⟩ (.fp (.int k n)) = some (.int k n) := rfl
@[go_sem] theorem part_one {cs : List AV} {off s : Nat} : part ⟨false, s⟩ cs off = cs[off]? := by simp [part]
theorem part_agg {cs : List AV} {off s : Nat} : part ⟨true, s⟩ cs off = if off + s ≤ cs.length then some (.agg ((cs.drop off).take s)) else none := by simp [part]

theorem storeWp_ptr {base id ver off size fz : Nat} {ex : Bool} {cs : List AV} {v : AV} (h : H[id]? = some (.row ver cs fz ex)) (hv : v.isTup = false) (hs : v.cells.length = size) (hf : fz ≤ off) (hl : off + size ≤ cs.length)
    (hb : bar ≤ id) (ho : base ≤ id ∨ AV.top.tops v.cells ≤ id + 1) : storeWp base bar size (.ptr id ver off) v H K = K (.tup []) (H.set id (.row ver (setCells cs off v.cells) fz ex)) [id] := by
  simp [storeWp, astore, h, hv, hs, hf, hl, hb, ho]

/-- a row of a number and eight sets -/
def wcells (n : Nat) (w : Nat → Nat) : List AV := .int .i64 (n : Int) :: (List.range 8).map fun a => .int .u8 ((w a : Nat) : Int)
def upd (w : Nat → Nat) (i x : Nat) : Nat → Nat := fun j => if j = i then x else w j
theorem wcells_length {n : Nat} {w : Nat → Nat} : (wcells n w).length = 9 := by simp [wcells]
theorem wcells_n {n : Nat} {w : Nat → Nat} : (wcells n w)[0]? = some (.int .i64 (n : Int)) := rfl
theorem wcells_get {n i : Nat} {w : Nat → Nat} (hi : i < 8) : (wcells n w)[1 + i]? = some (.int .u8 ((w i : Nat) : Int)) := by
  rw [Nat.add_comm]; simp [wcells, hi]
theorem wcells_set {n i x : Nat} {w : Nat → Nat} (hi : i < 8) : setCells (wcells n w) (1 + i) [.int .u8 (x : Int)] = wcells n (upd w i x) := by
  simp only [setCells]
  apply List.ext_getElem?
  intro j
  rw [List.getElem?_set]
  rcases j with _ | j
  · rw [if_neg (by omega)]; rfl
  · by_cases hj : 1 + i = j + 1
    · obtain rfl : i = j := by omega
      rw [if_pos (by omega)]
      simp [wcells, upd, hi]; omega
    · rw [if_neg hj]
      by_cases h8 : j < 8
      · simp [wcells, upd, h8, show ¬ j = i by omega]
      · simp [wcells, h8]
theorem wcells_plain {n : Nat} {w : Nat → Nat} : ∀ c ∈ wcells n w, Plain c := fun c hc => by
  simp only [wcells, List.mem_cons, List.mem_map] at hc
  rcases hc with rfl | ⟨a, _, rfl⟩ <;> exact Plain.int
theorem wcells_tops {n : Nat} {w : Nat → Nat} : AV.top.tops (wcells n w) = 0 := tops_zero fun x hx => by
  simp only [wcells, List.mem_cons, List.mem_map] at hx
  rcases hx with rfl | ⟨a, _, rfl⟩ <;> rfl
theorem set_take {i : Nat} {b : Blk} : (H.set i b).take H.length = H.set i b := List.take_of_length_le (by simp)
theorem set_get {i ver fz : Nat} {ex : Bool} {cs : List AV} {b : Blk} (h : H[i]? = some (.row ver cs fz ex)) : (H.set i b)[i]? = some b := by
  have := (List.getElem?_eq_some_iff.1 h).1
  simp [this]
theorem storeW {base id ver n i x : Nat} {ex : Bool} {w : Nat → Nat} (hid : H[id]? = some (.row ver (wcells n w) 0 ex)) (hi : i < 8) (hb : bar ≤ id) :
    storeWp base bar 1 (.ptr id ver (1 + i)) (.int .u8 (x : Int)) H K = K (.tup []) (H.set id (.row ver (wcells n (upd w i x)) 0 ex)) [id] := by
  rw [storeWp_ptr (size := 1) hid rfl rfl (by omega) (by rw [wcells_length]; omega) hb (.inr (by simp [AV.cells, tops_cons, tops_nil, top_int]))]
  simp only [AV.cells, wcells_set hi]
theorem storeW_zero {base id ver n i : Nat} {ex : Bool} {w : Nat → Nat} (hid : H[id]? = some (.row ver (wcells n w) 0 ex)) (hi : i < 8) (hb : bar ≤ id) :
    storeWp base bar 1 (.ptr id ver (1 + i)) (.int .u8 0) H K = K (.tup []) (H.set id (.row ver (wcells n (upd w i 0)) 0 ex)) [id] := storeW (x := 0) hid hi hb
theorem loadW {id ver n i s : Nat} {ex : Bool} {w : Nat → Nat} {fz : Nat} (hid : H[id]? = some (.row ver (wcells n w) fz ex)) (hi : i < 8) :
    aload H ⟨false, s⟩ (.ptr id ver (1 + i)) = some (.int .u8 ((w i : Nat) : Int)) := by
  rw [aload_ptr hid, part_one, wcells_get hi]
theorem loadN {id ver n s : Nat} {ex : Bool} {w : Nat → Nat} {fz : Nat} (hid : H[id]? = some (.row ver (wcells n w) fz ex)) :
    aload H ⟨false, s⟩ (.ptr id ver 0) = some (.int .i64 (n : Int)) := by
  rw [aload_ptr hid, part_one, wcells_n]
theorem set_row {id ver ver' fz fz' : Nat} {ex ex' : Bool} {cs cs' : List AV} (hid : H[id]? = some (.row ver cs fz ex)) : (H.set id (.row ver' cs' fz' ex'))[id]? = some (.row ver' cs' fz' ex') := set_get hid
theorem set_set {id : Nat} {a b : Blk} : (H.set id a).set id b = H.set id b := by simp
/-- what a call returns, when it is known frozen -/
theorem leave0_of {base : Nat} {vs vs' : List AV} {H' : Heap} (h : frzAll bar H vs = some (vs', H')) (ht : AV.top.tops vs' ≤ base) : leave 0 base bar vs H = some (tupled vs', H'.take base) := by
  rw [leave_0, h, leave0_some, if_pos ht]
/-- a list that a call returns -/
theorem leaveL {base : Nat} {v : AV} {l : List Nat} (h : isL v l) {L : AV → Heap → Prop} {H : Heap} (hk : L v (H.take base)) : outWp (leave 0 base bar [v] H) L := by
  rw [leave_0]
  simp only [frzAll, frz.frzs, frzsW, h.frz, leave0_some, tupled_one]
  rw [if_pos (by simp [tops_cons, tops_nil, h.top])]
  exact hk
@[go_sem] theorem ftop_nil : ftop [] = 0 := (rfl)
@[go_sem] theorem ftop_cons {t : Nat} {v : AV} {r : Frame} : ftop ((t, v) :: r) = max v.top (ftop r) := (rfl)
attribute [go_sem] AV.noVec.noVecs AV.noVec fillA setCells part_agg
end Go.Ab
