/-
  Parts of the proofs about this chapter, joined: contracts of functions and plain laws.
-/
import Derived.Test.YthoogegclpiefaaQ2
set_option linter.all false
section
namespace Go.Proofs.Ythoogegclpiefaa.Code
open Go Go.Ab
variable {pure : Bool} {base bar : Nat} {H : Heap} {Q : AV → Heap → Prop}

/-! rows of sets -/
def ucells (n : Nat) (f : Nat → Nat) : List AV := (List.range n).map fun a => .int .u8 ((f a : Nat) : Int)
theorem ucells_length {n : Nat} {f : Nat → Nat} : (ucells n f).length = n := by simp [ucells]
theorem ucells_get {n i : Nat} {f : Nat → Nat} (hi : i < n) : (ucells n f)[i]? = some (.int .u8 ((f i : Nat) : Int)) := by simp [ucells, hi]
theorem ucells_set {n i x : Nat} {f : Nat → Nat} (hi : i < n) : setCells (ucells n f) i [.int .u8 (x : Int)] = ucells n (upd f i x) := by
  simp only [setCells]
  apply List.ext_getElem?
  intro j
  rw [List.getElem?_set]
  by_cases hj : i = j
  · subst hj; simp [ucells, upd, hi]
  · rw [if_neg hj]
    by_cases h8 : j < n
    · simp [ucells, upd, h8, show ¬ j = i by omega]
    · simp [ucells, h8]
theorem ucells_zero {n : Nat} : ucells n (fun _ => 0) = List.replicate n (.int .u8 0) := by
  apply List.ext_getElem?
  intro j
  by_cases h : j < n <;> simp [ucells, h, List.getElem?_replicate]
theorem loadU {id ver n i s fz : Nat} {ex : Bool} {f : Nat → Nat} (hid : H[id]? = some (.row ver (ucells n f) fz ex)) (hi : i < n) : aload H ⟨false, s⟩ (.ptr id ver i) = some (.int .u8 ((f i : Nat) : Int)) := by
  rw [aload_ptr hid, part_one, ucells_get hi]
theorem storeU {K : AV → Heap → List Nat → Prop} {base id ver n i x fz : Nat} {ex : Bool} {f : Nat → Nat} (hid : H[id]? = some (.row ver (ucells n f) fz ex)) (hi : i < n) (hf : fz ≤ i) (hb : bar ≤ id) :
    storeWp base bar 1 (.ptr id ver i) (.int .u8 (x : Int)) H K = K (.tup []) (H.set id (.row ver (ucells n (upd f i x)) fz ex)) [id] := by
  rw [storeWp_ptr (size := 1) hid rfl rfl hf (by rw [ucells_length]; omega) hb (.inr (by simp [AV.cells, tops_cons, tops_nil, top_int]))]
  simp only [AV.cells, ucells_set hi]

/-! rooms, one person after the other -/
/-- the first rooms that go on from some, k people left, with numbers below m -/
def roomsF (fit : List Nat → Nat → Bool) (m : Nat) : Nat → List Nat → Option (List Nat)
  | 0, b => some b
  | k + 1, b => (List.range m).findSome? fun r => if fit b r = true then roomsF fit m k (b ++ [r]) else none
/-- the same, the next room from r on -/
def srchF (fit : List Nat → Nat → Bool) (m : Nat) : Nat → List Nat → Nat → Option (List Nat)
  | 0, b, _ => some b
  | k + 1, b, r => (List.range' r (m - r)).findSome? fun x => if fit b x = true then roomsF fit m k (b ++ [x]) else none
section
variable {fit : List Nat → Nat → Bool} {m k r : Nat} {b : List Nat}
theorem roomsF_srch : roomsF fit m k b = srchF fit m k b 0 := by cases k <;> simp [roomsF, srchF, List.range_eq_range']
theorem srch_end : srchF fit m (k + 1) b m = none := by simp [srchF]
theorem srch_skip (h : r < m) (hf : fit b r = false) : srchF fit m (k + 1) b r = srchF fit m (k + 1) b (r + 1) := by
  simp only [srchF]
  rw [show m - r = (m - (r + 1)) + 1 by omega, List.range'_succ, List.findSome?_cons]
  simp [hf]
theorem srch_fit (h : r < m) (hf : fit b r = true) : srchF fit m (k + 1) b r = (roomsF fit m k (b ++ [r])).or (srchF fit m (k + 1) b (r + 1)) := by
  simp only [srchF]
  rw [show m - r = (m - (r + 1)) + 1 by omega, List.range'_succ, List.findSome?_cons]
  simp only [hf, if_true]
  cases roomsF fit m k (b ++ [r]) <;> rfl
theorem roomsF_len : ∀ {k : Nat} {b c : List Nat}, roomsF fit m k b = some c → c.length = b.length + k
  | 0, b, c, h => by simp [roomsF] at h; subst h; simp
  | k + 1, b, c, h => by
    simp only [roomsF] at h
    obtain ⟨l1, a, l2, h1, h2, h3⟩ := List.findSome?_eq_some_iff.1 h
    split at h2
    · have := roomsF_len h2; simp at this; omega
    · cases h2
end
def fitW (w : Nat → Nat) (b : List Nat) (r : Nat) : Bool := (List.range b.length).all fun i => b[i]? != some r || !(w b.length).testBit i
def fitR (l : List ZZ) (b : List Nat) (r : Nat) : Bool := (List.range b.length).all fun i => b[i]? != some r || !qin l (i : Int) (b.length : Int)

/-- the sets of those in each room -/
structure RoomsOK (b : List Nat) (s : Nat → Nat) : Prop where
  lt : ∀ r, s r < 256
  bit : ∀ r i, (s r).testBit i = decide (b[i]? = some r)
theorem RoomsOK.nil : RoomsOK [] (fun _ => 0) := ⟨fun _ => by decide, fun r i => by simp⟩
theorem RoomsOK.push {b : List Nat} {s : Nat → Nat} {r : Nat} (h : RoomsOK b s) (h8 : b.length < 8) : RoomsOK (b ++ [r]) (upd s r (bor (s r) (pw b.length))) := by
  refine ⟨upd_lt h.lt (bor_lt (h.lt r) (pw_lt h8)), fun r' i => ?_⟩
  unfold upd
  by_cases hr : r' = r
  · subst hr
    rw [if_pos rfl, testBit_bor, testBit_pw, h.bit]
    by_cases h1 : i < b.length
    · rw [List.getElem?_append_left h1]; simp [show ¬ b.length = i by omega]
    · by_cases h2 : b.length = i
      · subst h2; simp
      · have e : (b ++ [r'])[i]? = none := List.getElem?_eq_none (by simp; omega)
        have e2 : b[i]? = none := List.getElem?_eq_none (by omega)
        simp [h2, e, e2]
  · rw [if_neg hr, h.bit]
    by_cases h1 : i < b.length
    · rw [List.getElem?_append_left h1]
    · have e2 : b[i]? = none := List.getElem?_eq_none (by omega)
      by_cases h2 : b.length = i
      · subst h2; simp; exact fun hc => hr hc.symm
      · have e : (b ++ [r])[i]? = none := List.getElem?_eq_none (by simp; omega)
        simp [e, e2]
theorem RoomsOK.pop {b : List Nat} {s : Nat → Nat} {x : Nat} (h : RoomsOK (b ++ [x]) s) : RoomsOK b (upd s x (clr (s x) (pw b.length))) := by
  refine ⟨upd_lt h.lt (clr_lt (h.lt x)), fun r' i => ?_⟩
  unfold upd
  by_cases hr : r' = x
  · subst hr
    rw [if_pos rfl, testBit_clr (h.lt _), testBit_pw, h.bit]
    by_cases h1 : i < b.length
    · rw [List.getElem?_append_left h1]; simp [show ¬ b.length = i by omega]
    · have e2 : b[i]? = none := List.getElem?_eq_none (by omega)
      by_cases h2 : b.length = i
      · subst h2; simp
      · have e : (b ++ [r'])[i]? = none := List.getElem?_eq_none (by simp; omega)
        simp [e, e2]
  · rw [if_neg hr, h.bit]
    by_cases h1 : i < b.length
    · rw [List.getElem?_append_left h1]
    · have e2 : b[i]? = none := List.getElem?_eq_none (by omega)
      by_cases h2 : b.length = i
      · subst h2; simp; exact fun hc => hr hc.symm
      · have e : (b ++ [x])[i]? = none := List.getElem?_eq_none (by simp; omega)
        simp [e, e2]
theorem fit_iff {b : List Nat} {s w : Nat → Nat} {r : Nat} (h : RoomsOK b s) : fitW w b r = decide (band (s r) (w b.length) = 0) := by
  rw [Bool.eq_iff_iff]
  simp only [fitW, List.all_eq_true, List.mem_range, Bool.or_eq_true, bne_iff_ne, ne_eq, Bool.not_eq_true', decide_eq_true_eq]
  constructor
  · intro hf
    apply Nat.eq_of_testBit_eq
    intro i
    rw [testBit_band, h.bit, Nat.zero_testBit]
    by_cases hi : i < b.length
    · rcases hf i hi with h1 | h1
      · simp [h1]
      · simp [h1]
    · have e2 : b[i]? = none := List.getElem?_eq_none (by omega)
      simp [e2]
  · intro he i hi
    have := congrArg (·.testBit i) he
    simp only [testBit_band, h.bit, Nat.zero_testBit, Bool.and_eq_false_iff, decide_eq_false_iff_not] at this
    exact this

/-- the room of each person: those of b, then r -/
def outF (b : List Nat) (r : Nat) : Nat → Nat := fun i => if i < b.length then b[i]?.getD 0 else if i = b.length then r else 0
theorem outF_at {b : List Nat} {r : Nat} : outF b r b.length = r := by simp [outF]
theorem outF_inc {b : List Nat} {r x : Nat} : upd (outF b r) b.length x = outF b x := by
  funext i
  unfold upd outF
  by_cases h : i = b.length
  · subst h; simp
  · simp [h]
theorem outF_push {b : List Nat} {r : Nat} : outF (b ++ [r]) 0 = outF b r := by
  funext i
  unfold outF
  by_cases h1 : i < b.length
  · simp [h1, show i < b.length + 1 by omega]
  · by_cases h2 : i = b.length
    · subst h2; simp
    · simp [h1, h2, show ¬ i < b.length + 1 by omega]
theorem outF_list {b : List Nat} {r : Nat} : (List.range b.length).map (outF b r) = b := by
  apply List.ext_getElem?
  intro i
  by_cases h : i < b.length
  · simp [outF, h]
  · simp [h]
theorem outF_last {b : List Nat} {x r : Nat} : outF (b ++ [x]) r b.length = x := by simp [outF]

/-- the heap of 'put': the rooms' sets in the caller's block, and each one's room -/
def HR (H : Heap) (rid rv m : Nat) (s : Nat → Nat) (n : Nat) (f : Nat → Nat) : Heap := H.set rid (.row rv (ucells m s) 0 true) ++ [.row 0 (fcells n f) 0 true]
section
variable {rid rv m n id : Nat} {s f s' f' : Nat → Nat} {b : Blk}
theorem HR_out : (HR H rid rv m s n f)[H.length]? = some (.row 0 (fcells n f) 0 true) := by
  unfold HR; rw [List.getElem?_append_right (by simp)]; simp
theorem HR_rid (h : rid < H.length) : (HR H rid rv m s n f)[rid]? = some (.row rv (ucells m s) 0 true) := by
  unfold HR; rw [List.getElem?_append_left (by simpa using h)]; simp [h]
theorem HR_id (h : H[id]? = some b) (hne : id ≠ rid) : (HR H rid rv m s n f)[id]? = some b := by
  have := (List.getElem?_eq_some_iff.1 h).1
  unfold HR; rw [List.getElem?_append_left (by simpa using this), List.getElem?_set, if_neg (Ne.symm hne), h]
theorem HR_setout : (HR H rid rv m s n f).set H.length (.row 0 (fcells n f') 0 true) = HR H rid rv m s n f' := by
  unfold HR; rw [List.set_append_right _ _ (by simp)]; simp
theorem HR_setrid (h : rid < H.length) : (HR H rid rv m s n f).set rid (.row rv (ucells m s') 0 true) = HR H rid rv m s' n f := by
  unfold HR; rw [List.set_append_left _ _ (by simpa using h), set_set]
theorem HR_len : (HR H rid rv m s n f).length = H.length + 1 := by simp [HR]
theorem HR_take : (HR H rid rv m s n f).take H.length = H.set rid (.row rv (ucells m s) 0 true) := by
  unfold HR; rw [List.take_append_of_le_length (by simp), List.take_of_length_le (by simp)]
theorem HR_take2 {b : Blk} : ((HR H rid rv m s n f).set H.length b).take H.length = H.set rid (.row rv (ucells m s) 0 true) := by
  unfold HR; rw [List.set_append_right _ _ (by simp), List.take_append_of_le_length (by simp), List.take_of_length_le (by simp)]
end

section
variable {id ver n rid rv m fz : Nat} {ex : Bool} {w : Nat → Nat} {R : PQ}

theorem l62a {b : List Nat} {s : Nat → Nat} (hid : H[id]? = some (.row ver (wcells n w) fz ex)) (hrid : rid < H.length) (hne : id ≠ rid) (hw : ∀ x, w x < 256) (hn : n ≤ 8) (hm : m ≤ 8) (hbar : bar ≤ H.length) (hs : RoomsOK b s) (hb : b.length < n) {k : Nat} :
    ∀ (d r : Nat), r + d = m → ∀ (tl : List (Nat × AV)), tl = [] ∨ tl = [(20, .bool true)] →
    (srchF (fitW w) m (k + 1) b r = none → R (.exit 2) [(0, .ptr id ver 0), (1, .vec rid rv 0 m 1), (2, .int .i64 (m : Nat)), (8, .vec H.length 0 0 n 1), (9, .int .i64 (b.length : Nat)), (26, .bool false)] (HR H rid rv m s n (outF b m))) →
    (∀ r', r ≤ r' → r' < m → fitW w b r' = true → srchF (fitW w) m (k + 1) b r = srchF (fitW w) m (k + 1) b r' →
      R (.exit 2) [(0, .ptr id ver 0), (1, .vec rid rv 0 m 1), (2, .int .i64 (m : Nat)), (8, .vec H.length 0 0 n 1), (9, .int .i64 (b.length : Nat)), (47, .bool true)] (HR H rid rv m s n (outF b r'))) →
    Wp E base bar (.loop c62_l0) ((0, .ptr id ver 0) :: (1, .vec rid rv 0 m 1) :: (2, .int .i64 (m : Nat)) :: (8, .vec H.length 0 0 n 1) :: (9, .int .i64 (b.length : Nat)) :: tl) (HR H rid rv m s n (outF b r)) R := by
  intro d
  induction d with
  | zero =>
    intro r hr tl htl h1 h2
    obtain rfl : r = m := by omega
    rw [wp_round c62_l0.eq_1]
    have := h1 srch_end
    rcases htl with rfl | rfl <;> (simp [go_sem, hb, loadF HR_out hb, outF_at]; exact this)
  | succ d ih =>
    intro r hr tl htl h1 h2
    have hlt : r < m := by omega
    rw [wp_round c62_l0.eq_1]
    rcases htl with rfl | rfl
    all_goals
      simp [go_sem, hb, loadF HR_out hb, outF_at, hlt, loadU (HR_rid hrid) hlt, loadW (HR_id hid hne) (show b.length < 8 by omega), show b.length < 8 by omega, and_u8 (hs.lt r) (hw b.length)]
      cases hf : fitW w b r
      · have hf' := hf
        rw [fit_iff hs] at hf'
        simp only [decide_eq_false_iff_not] at hf'
        simp [go_sem, hf', hb, loadF HR_out hb, outF_at, i64_suc (show r < 1000000 by omega)]
        have e : ((r : Int) + 1) = ((r + 1 : Nat) : Int) := by omega
        rw [e, storeF HR_out hb (by omega) hbar, outF_inc, HR_setout]
        simp [go_sem]
        refine ih (r + 1) (by omega) [] (.inl rfl) ?_ ?_
        · rw [← srch_skip hlt hf]; exact h1
        · intro r' h3 h4 h5 h6
          exact h2 r' (by omega) h4 h5 (by rw [srch_skip hlt hf]; exact h6)
      · have hf' := hf
        rw [fit_iff hs] at hf'
        simp only [decide_eq_true_eq] at hf'
        simp [go_sem, hf']
        exact h2 r (Nat.le_refl _) hlt hf rfl

theorem l62 (hid : H[id]? = some (.row ver (wcells n w) fz ex)) (hrid : rid < H.length) (hne : id ≠ rid) (hw : ∀ x, w x < 256) (hn : n ≤ 8) (hm : m ≤ 8) (hb1 : bar ≤ rid) :
    ∀ (k : Nat) (b : List Nat), b.length + k = n → (∀ y ∈ b, y < m) → ∀ (d r : Nat), r + d = m → ∀ (s : Nat → Nat), RoomsOK b s →
    (∀ res s', srchF (fitW w) m k b r = some res → R (.exit 0) [(0, .ptr id ver 0), (1, .vec rid rv 0 m 1), (2, .int .i64 (m : Nat)), (8, .vec H.length 0 0 n 1), (9, .int .i64 (n : Nat)), (20, .bool false)] (HR H rid rv m s' n (outF res 0))) →
    (srchF (fitW w) m k b r = none → ∀ s', RoomsOK b s' →
      (b = [] → R .ret [(6, .nils), (7, .bool false)] (HR H rid rv m s' n (outF [] 0))) ∧
      (∀ b' x, b = b' ++ [x] → Wp E H.length bar (.loop c62_l1) [(0, .ptr id ver 0), (1, .vec rid rv 0 m 1), (2, .int .i64 (m : Nat)), (8, .vec H.length 0 0 n 1), (9, .int .i64 (b'.length : Nat))] (HR H rid rv m (upd s' x (clr (s' x) (pw b'.length))) n (outF b' (x + 1))) R)) →
    Wp E H.length bar (.loop c62_l1) [(0, .ptr id ver 0), (1, .vec rid rv 0 m 1), (2, .int .i64 (m : Nat)), (8, .vec H.length 0 0 n 1), (9, .int .i64 (b.length : Nat))] (HR H rid rv m s n (outF b r)) R := by
  intro k
  induction k with
  | zero =>
    intro b hb hbm d r hr s hs h1 h2
    obtain rfl : b.length = n := by omega
    rw [wp_round c62_l1.eq_1]
    simp [go_sem, loadN (HR_id hid hne)]
    have := h1 b s rfl
    have e : fcells b.length (outF b r) = fcells b.length (outF b 0) := by rw [fcells_nats, fcells_nats, outF_list, outF_list]
    unfold HR at this ⊢
    rw [e]; exact this
  | succ k ihk =>
    intro b hb hbm d
    induction d using Nat.strongRecOn with
    | _ d ihd =>
      intro r hr s hs h1 h2
      have hlt : b.length < n := by omega
      rw [wp_round c62_l1.eq_1]
      simp [go_sem, loadN (HR_id hid hne), hlt]
      refine l62a (k := k) hid hrid hne hw hn hm (Nat.le_trans hb1 (Nat.le_of_lt hrid)) hs hlt d r hr _ (.inr rfl) ?_ ?_
      · intro hnone
        obtain ⟨g1, g2⟩ := h2 hnone s hs
        simp [go_sem, hlt, loadF HR_out hlt, outF_at]
        have z : (0 : Int) = ((0 : Nat) : Int) := rfl
        rw [z, storeF HR_out hlt (Nat.zero_le _) (Nat.le_trans hb1 (Nat.le_of_lt hrid)), outF_inc, HR_setout]
        rcases List.eq_nil_or_concat b with rfl | ⟨b', x, rfl⟩
        · simp [go_sem]
          exact g1 rfl
        · simp only [List.concat_eq_append] at *
          have hx := hbm x (by simp)
          have hlb : b'.length + 1 < n := by simpa using hlt
          have e1 : IntKind.i64.wrap ((b'.length : Nat) : Int) = ((b'.length : Nat) : Int) := i64_nat (by omega)
          simp only [List.length_append, List.length_cons, List.length_nil, Nat.zero_add]
          have ne0 : ¬ (((b'.length : Nat) : Int) + 1 = 0) := by omega
          simp only [Int.natCast_zero]
          simp [go_sem, ne0, e1, show b'.length < n from Nat.lt_of_succ_lt hlb, loadF HR_out (show b'.length < n from Nat.lt_of_succ_lt hlb), outF_last, hx, loadU (HR_rid hrid) hx, shl_u8 (show b'.length < 8 by omega), andNot_u8 (hs.lt x) (pw_lt (show b'.length < 8 by omega))]
          rw [storeU (HR_rid hrid) hx (Nat.zero_le _) hb1, HR_setrid hrid]
          have hlb' : b'.length < n := Nat.lt_of_succ_lt hlb
          simp [go_sem, hlb', loadF HR_out hlb', outF_last, i64_suc (show x < 1000000 by omega)]
          rw [show ((x : Int) + 1) = ((x + 1 : Nat) : Int) by omega, storeF HR_out hlb' (Nat.zero_le _) (Nat.le_trans hb1 (Nat.le_of_lt hrid)), outF_push, outF_inc, HR_setout]
          simp [go_sem]
          exact g2 b' x rfl
      · intro r' g1 g2 g3 g4
        have hs' := hs.push (r := r') (by omega)
        simp [go_sem, hlt, loadF HR_out hlt, outF_at, g2, loadU (HR_rid hrid) g2, shl_u8 (show b.length < 8 by omega), or_u8 (hs.lt r') (pw_lt (show b.length < 8 by omega))]
        rw [storeU (HR_rid hrid) g2 (Nat.zero_le _) hb1, HR_setrid hrid]
        simp [go_sem, i64_suc (show b.length < 1000000 by omega)]
        rw [show ((b.length : Int) + 1) = (((b ++ [r']).length : Nat) : Int) by simp, ← outF_push]
        refine ihk (b ++ [r']) (by simp; omega) (fun y hy => ?_) m 0 (by omega) _ hs' (fun res s' he => ?_) (fun he s' hs2 => ⟨fun hc => by simp at hc, fun b' x hx => ?_⟩)
        · rcases List.mem_append.1 hy with hy | hy
          · exact hbm y hy
          · simp at hy; omega
        · refine h1 res s' ?_
          rw [g4, srch_fit g2 g3, roomsF_srch, he]; rfl
        · obtain ⟨rfl, rfl⟩ : b = b' ∧ r' = x := by
            have := List.append_inj' hx rfl
            simpa using this
          refine ihd (m - (r' + 1)) (by omega) (r' + 1) (by omega) _ hs2.pop (fun res s' hr2 => ?_) (fun hr2 s' hs3 => ?_)
          · refine h1 res s' ?_
            rw [g4, srch_fit g2 g3, roomsF_srch, he]; exact hr2
          · refine h2 ?_ s' hs3
            rw [g4, srch_fit g2 g3, roomsF_srch, he]; exact hr2

theorem k62 (hid : H[id]? = some (.row ver (wcells n w) fz ex)) (hrid : H[rid]? = some (.row rv (ucells m (fun _ => 0)) 0 true)) (hne : id ≠ rid) (hw : ∀ x, w x < 256) (hn : n ≤ 8) (hm : m ≤ 8) (hbar : bar ≤ rid)
    (hno : roomsF (fitW w) m n [] = none → ∀ s, Q (.tup [.nils, .bool false]) (H.set rid (.row rv (ucells m s) 0 true)))
    (hyes : ∀ b, roomsF (fitW w) m n [] = some b → ∀ s v, isL v b → Q (.tup [v, .bool true]) (H.set rid (.row rv (ucells m s) 0 true))) :
    WpCall E false base bar 62 [.ptr id ver 0, .vec rid rv 0 m 1, .int .i64 (m : Nat)] H Q := by
  rw [call62]
  have hlt := (List.getElem?_eq_some_iff.1 hrid).1
  have hset : H.set rid (.row rv (ucells m (fun _ => 0)) 0 true) = H := by
    apply List.ext_getElem?
    intro j
    rw [List.getElem?_set]
    by_cases hj : rid = j
    · subst hj; rw [hrid]; simp [hlt]
    · simp [hj]
  simp [go_sem, WpFun, c62, loadN hid, aop, AV.asNat]
  rw [if_pos (show n * 8 ≤ 140737488355328 by omega)]
  have e2 : List.replicate n (AV.int .i64 0) = fcells n (outF [] 0) := by
    rw [← fcells_zero]; congr 1; funext i; simp [outF]
  rw [e2, show H ++ [Blk.row 0 (fcells n (outF [] 0)) 0 true] = HR H rid rv m (fun _ => 0) n (outF [] 0) by unfold HR; rw [hset]]
  simp [go_sem]
  refine l62 hid hlt hne hw hn hm hbar n [] (by simp) (by simp) m 0 (by omega) _ .nil (fun res s' he => ?_) (fun he s' hs => ⟨fun _ => ?_, fun b' x hx => by simp at hx⟩)
  · rw [← roomsF_srch] at he
    have hl := roomsF_len he
    have f := frzF (d := 5) (bar := bar) (H := HR H rid rv m s' n (outF res 0)) (id := H.length) (ver := 0) (n := n) (fz := 0) (ex := true) (f := outF res 0) HR_out (by omega)
    rw [show 5 + 3 = 8 from rfl] at f
    simp [go_sem]
    simp only [f]
    have hv : isL (.lst 1 false (fcells n (outF res 0))) res := by
      have := isL.f (n := n) (f := outF res 0) (ex := false)
      have e : n = res.length := by simpa using hl.symm
      rw [e] at this ⊢
      rw [outF_list] at this
      exact this
    simp [go_sem, hv.top, HR_take2]
    exact hyes res he s' _ hv
  · rw [← roomsF_srch] at he
    simp [go_sem, HR_take]
    exact hno he s'
end

/-- the first of the fewest rooms, as the program has them -/
def roomsS (n : Nat) (w : Nat → Nat) (k : Nat) : List Nat :=
  ((List.range' (n - k) k).findSome? fun m => roomsF (fitW w) m n []).getD (List.range n)

theorem l16a {id ver n fz : Nat} {ex : Bool} {w : Nat → Nat} (hid : H[id]? = some (.row ver (wcells n w) fz ex)) (hw : ∀ x, w x < 256) (hn : n ≤ 8) (hbar : bar ≤ H.length) (hbase : base ≤ H.length) {R : PQ} : ∀ (k m : Nat), m + k = n → 1 ≤ m →
    (∀ b v H', isL v b → (List.range' m k).findSome? (fun m => roomsF (fitW w) m n []) = some b → H'.take base = H.take base → R .ret [(2, v), (3, .int .i64 0)] H') →
    ((List.range' m k).findSome? (fun m => roomsF (fitW w) m n []) = none → R (.exit 0) [(4, .ptr id ver 0), (6, .int .i64 (n : Nat)), (24, .bool false)] H) →
    Wp E base bar (.loop c16_l0) [(4, .ptr id ver 0), (6, .int .i64 (m : Nat))] H R := by
  intro k
  induction k with
  | zero =>
    intro m hm h1 hy hno
    obtain rfl : m = n := by omega
    rw [wp_round c16_l0.eq_1]
    simp [go_sem, loadN hid]
    exact hno rfl
  | succ k ih =>
    intro m hm h1 hy hno
    have hlt : m < n := by omega
    rw [wp_round c16_l0.eq_1]
    simp only [List.range'_succ, List.findSome?_cons] at hy hno
    simp [go_sem, loadN hid, hlt, aop, AV.asNat]
    rw [if_pos (show m ≤ 140737488355328 by omega), ← ucells_zero]
    have hne : id ≠ H.length := by have := (List.getElem?_eq_some_iff.1 hid).1; omega
    have hset : ∀ s, (H ++ [Blk.row 0 (ucells m fun _ => 0) 0 true]).set H.length (.row 0 (ucells m s) 0 true) = H ++ [Blk.row 0 (ucells m s) 0 true] := fun s => by rw [own_set0]; rfl
    simp [go_sem]
    refine k62 (rid := H.length) (rv := 0) (old_get hid) (by rw [own_get0]; rfl) hne hw hn (by omega) hbar (fun he s => ?_) (fun b he s v hv => ?_)
    · simp only [he] at hy hno
      rw [hset]
      have hid' := (List.getElem?_eq_some_iff.1 hid).1
      simp [go_sem, i64_suc (show m < 1000000 by omega), show id + 1 ≤ H.length by omega]
      exact ih (m + 1) (by omega) (by omega) hy hno
    · simp only [he] at hy
      rw [hset]
      simp [go_sem]
      exact hy b v _ hv rfl (by rw [List.take_append_of_le_length hbase])

theorem l16b (H0 : Heap) {n : Nat} (hn : n ≤ 8) (hbar : bar ≤ H0.length) (hbase : base ≤ H0.length) {R : PQ} : ∀ (k i : Nat), i + k = n → ∀ (v : AV) (H : Heap), Grow 1 (nats (List.range i)) H0 v H →
    (∀ v' H', Grow 1 (nats (List.range n)) H0 v' H' → R (.exit 2) [(9, v'), (40, .int .i64 (n : Nat)), (41, .int .i64 (n : Nat)), (42, .bool false)] H') →
    Wp E base bar (.loop c16_l1) [(9, v), (40, .int .i64 (n : Nat)), (41, .int .i64 (i : Nat))] H R := by
  intro k
  induction k with
  | zero =>
    intro i hi v H g h
    obtain rfl : i = n := by omega
    rw [wp_round c16_l1.eq_1]
    simp [go_sem]
    exact h v H g
  | succ k ih =>
    intro i hi v H g h
    have hlt : i < n := by omega
    rw [wp_round c16_l1.eq_1]
    simp [go_sem, hlt, aop, fillA, setCells, chunks, AV.noVec.noVecs, AV.noVec]
    refine g.nat hbar hbase (by simp; omega) fun v' H' tc g' => ?_
    simp [go_sem, i64_suc (show i < 1000000 by omega)]
    refine ih (i + 1) (by omega) v' H' ?_ h
    rw [List.range_succ]; exact g'

theorem k16 {n : Int} {q : AV} {l : List ZZ} (hq : isP q l) (hl : l.length < 1000) (hbar : bar ≤ H.length)
    (h1 : ∀ e, openS n l = .err e → Q (.tup [.nils, .int .i64 e]) H)
    (h2 : ∀ (m : Nat) (w : Nat → Nat), n = m → 1 ≤ m → m ≤ 8 → (∀ x, w x < 256) → openS n l = .room w → ∀ v, isL v (roomsS m w (m - 1)) → Q (.tup [v, .int .i64 0]) H) :
    WpCall E pure base bar 16 [.agg [.int .i64 n, q]] H Q := by
  rw [call16]
  have hb' := bar_ok (pure := pure) hbar
  simp [go_sem, WpFun, c16, hq.frz, aload] at hb' ⊢
  generalize (if pure = true then H.length else bar) = bar' at hb' ⊢
  refine k61 hq hl (by simp; omega) ?_ ?_
  · intro e he
    simp [go_sem, openS_err he]
    exact h1 e he
  · intro m w hm hm1 hm8 hw he
    have hid : (H ++ [Blk.row 0 [AV.int IntKind.i64 n, q] 0 true, Blk.row 0 (wcells m w) 0 true])[H.length + 1]? = some (.row 0 (wcells m w) 0 true) := by simp [own_get]
    have e1 : H ++ [Blk.row 0 [AV.int IntKind.i64 n, q] 0 true] ++ [Blk.row 0 (wcells m w) 0 true] = H ++ [Blk.row 0 [AV.int IntKind.i64 n, q] 0 true, Blk.row 0 (wcells m w) 0 true] := by simp
    simp [go_sem]
    refine l16a hid hw hm8 (by simp; omega) (by simp) (m - 1) 1 (by omega) (by omega) (fun b v H' hv hb ht => ?_) (fun hb => ?_)
    · have ht' : H'.take H.length = H := by rw [ht]; simp
      simp [go_sem, hv.frz, hv.top, ht']
      refine h2 m w hm hm1 hm8 hw he v ?_
      unfold roomsS
      rw [show m - (m - 1) = 1 by omega, hb]
      exact hv
    · simp [go_sem, loadN hid]
      refine l16b _ hm8 (by simp; omega) (by simp) m 0 (by omega) .nils _ .nil fun v' H' g => ?_
      simp [go_sem]
      obtain ⟨H2, f1, f2, f3, f4⟩ := g.frz (d := 5) (bar := bar') (by decide) (Nat.one_dvd _) nats_plain (by simp; omega)
      rw [show 5 + 3 = 8 from rfl] at f1
      simp only [f1]
      have e3 : H2.take H.length = H := by
        have := congrArg (List.take H.length) f4
        rw [List.take_take, Nat.min_eq_left (by simp)] at this
        rw [this]; simp
      have hv := isL.out (l := List.range m)
      simp [go_sem, hv.top, e3]
      refine h2 m w hm hm1 hm8 hw he _ ?_
      unfold roomsS
      rw [show m - (m - 1) = 1 by omega, hb]
      exact hv
end Go.Proofs.Ythoogegclpiefaa.Code
end

section
namespace Go.Proofs.Ythoogegclpiefaa.Code
open Go Go.Ab
variable {pure : Bool} {base bar : Nat} {H : Heap} {Q : AV → Heap → Prop}

/-- a value is a list that is not nil, or nil -/
def isO (v : AV) : Option (List Nat) → Prop
  | none => v = .nils
  | some b => ∃ ex, v = .lst 1 ex (nats b)
theorem eqNil_lst {neg : Bool} {sz : Nat} {ex : Bool} {xs : List AV} {K : AV → Heap → List Nat → Prop} : eqWp neg .nilS (some (.lst sz ex xs)) (some .nils) H K = K (.bool (if neg then true else false)) H [] := (rfl)
theorem eqNil_nil {neg : Bool} {K : AV → Heap → List Nat → Prop} : eqWp neg .nilS (some .nils) (some .nils) H K = K (.bool (if neg then false else true)) H [] := (rfl)

theorem l63a {n : Int} {q : AV} {l : List ZZ} (hq : isP q l) (hl : l.length < 1000) {bv : AV} {b : List Nat} (hb : isL bv b) (hbl : b.length < 1000) {r : Nat} {m : Int} {Hc : Heap} (hp : Pre H n q Hc) {R : PQ} :
    ∀ (k i : Nat) (f : Bool), i + k = b.length →
    (R (.exit 2) [(1, bv), (2, .int .i64 m), (3, .ptr H.length 0 0), (7, .int .i64 (r : Nat)), (8, .bool (f && (List.range' i k).all fun i => b[i]? != some r || !qin l (i : Int) (b.length : Int))), (9, .int .i64 (b.length : Nat)), (25, .bool false)] Hc) →
    Wp E base bar (.loop c63_l0) [(1, bv), (2, .int .i64 m), (3, .ptr H.length 0 0), (7, .int .i64 (r : Nat)), (8, .bool f), (9, .int .i64 (i : Nat))] Hc R := by
  intro k
  induction k with
  | zero =>
    intro i f hi h
    obtain rfl : i = b.length := by omega
    rw [wp_round c63_l0.eq_1]
    simp [go_sem, hb.len]
    simpa using h
  | succ k ih =>
    intro i f hi h
    have hlt : i < b.length := by omega
    rw [wp_round c63_l0.eq_1]
    rw [List.range'_succ, List.all_cons] at h
    cases f
    · simp [go_sem, hlt, hb.len, i64_suc (show i < 1000000 by omega)]
      refine ih (i + 1) false (by omega) ?_
      simpa using h
    · by_cases hr : b[i] = r
      · have e : ((b[i] : Nat) : Int) = (r : Int) := by omega
        simp [go_sem, hlt, hb.len, hb.ix hlt, e, hp.q, k65 hq hl, i64_suc (show i < 1000000 by omega)]
        refine ih (i + 1) (!qin l (i : Int) (b.length : Int)) (by omega) ?_
        have e2 : (some b[i] != some r) = false := by simp [hr]
        simpa [hlt, e2] using h
      · have e : ¬ ((b[i] : Nat) : Int) = (r : Int) := by omega
        simp [go_sem, hlt, hb.len, hb.ix hlt, e, i64_suc (show i < 1000000 by omega)]
        refine ih (i + 1) true (by omega) ?_
        have e2 : (some b[i] != some r) = true := by simp [hr]
        simpa [hlt, e2] using h

def Rec63 (n : Nat) (q : AV) (l : List ZZ) (m k : Nat) : Prop := ∀ (b : List Nat) (bv : AV) (H : Heap) (pure : Bool) (base bar : Nat) (Q : AV → Heap → Prop), isL bv b → b.length + k = n → bar ≤ H.length →
  (∀ v, isO v (roomsF (fitR l) m k b) → Q v H) → WpFun E pure base bar c63 [.agg [.int .i64 (n : Int), q], bv, .int .i64 (m : Int)] H Q

theorem l63 {n : Nat} {q : AV} {l : List ZZ} (hq : isP q l) (hl : l.length < 1000) (hn : n ≤ 8) {bv : AV} {b : List Nat} (hb : isL bv b) {m k : Nat} (hm : m ≤ 100) (hbl : b.length + (k + 1) = n) (hrec : Rec63 n q l m k) (hbar : bar ≤ H.length) {R : PQ} :
    ∀ (d r : Nat), r + d = m → ∀ (Hc : Heap), Pre H n q Hc →
    (∀ v H' c, isO v (some c) → srchF (fitR l) m (k + 1) b r = some c → H'.take H.length = H → R .ret [(6, v)] H') →
    (∀ Hc', srchF (fitR l) m (k + 1) b r = none → Pre H n q Hc' → R (.exit 0) [(1, bv), (2, .int .i64 (m : Nat)), (3, .ptr H.length 0 0), (7, .int .i64 (m : Nat)), (19, .bool false)] Hc') →
    Wp E H.length bar (.loop c63_l1) [(1, bv), (2, .int .i64 (m : Nat)), (3, .ptr H.length 0 0), (7, .int .i64 (r : Nat))] Hc R := by
  intro d
  induction d with
  | zero =>
    intro r hr Hc hp h1 h2
    obtain rfl : r = m := by omega
    rw [wp_round c63_l1.eq_1]
    simp [go_sem]
    exact h2 Hc srch_end hp
  | succ d ih =>
    intro r hr Hc hp h1 h2
    have hlt : r < m := by omega
    have hpl := hp.1
    have hfit : fitR l b r = (List.range' 0 b.length).all fun i => b[i]? != some r || !qin l (i : Int) (b.length : Int) := by rw [fitR, List.range_eq_range']
    rw [wp_round c63_l1.eq_1]
    simp [go_sem, hlt]
    refine l63a hq hl hb (by omega) hp b.length 0 true (by omega) ?_
    rw [← hfit]
    simp only [Bool.true_and]
    cases hf : fitR l b r
    · rw [srch_skip hlt hf] at h1 h2
      simp [go_sem, hb.top, i64_suc (show r < 1000000 by omega)]
      refine ⟨by omega, ih (r + 1) (by omega) Hc hp h1 h2⟩
    · rw [srch_fit hlt hf] at h1 h2
      simp [go_sem, hp.h, aop, chunks, own_get]
      have wrapk : IntKind.i64.wrap (m : Int) = (m : Int) := i64_nat (by omega)
      refine app_lst0 hb (by omega) (fun hb0 => ?_) (fun hb0 => ?_)
      · simp [go_sem, aop, chunks]
        refine app_lst0 (b := [r]) (.inr ⟨true, rfl⟩) (by simp) (fun hc => by simp at hc) (fun _ => ?_)
        have hv2e : ∃ v2, v2 = AV.vec Hc.length 0 0 [r].length 1 := ⟨_, rfl⟩
        obtain ⟨v2, hv2e⟩ := hv2e
        obtain ⟨H2, hH2e⟩ : ∃ H2, H2 = Hc ++ [Blk.row 0 (nats [r]) 0 false] := ⟨_, rfl⟩
        rw [← hv2e, ← hH2e]
        have hs2 : ∀ j, j < Hc.length → H2[j]? = Hc[j]? := fun j hj => by rw [hH2e, List.getElem?_append_left hj]
        have hl2 : Hc.length ≤ H2.length := by rw [hH2e]; simp
        have o2 : Own Hc.length 1 (nats (b ++ [r])) v2 H2 := by
          rw [hv2e, hH2e, hb0]
          exact .inr ⟨Hc.length, 0, 0, by simp [nats], by omega, by simp, by simp [nats], by simp⟩
        clear hv2e hH2e
        have hid2 : ∀ j, idOf v2 = some j → Hc.length ≤ j := fun j hj => (o2.lt hj).1
        obtain ⟨H3, f1, f2, f3, f4⟩ := o2.frz (d := 5) (bar := bar) (by decide) (Nat.one_dvd _) nats_plain (by omega)
        rw [show 5 + 3 = 8 from rfl] at f1
        have same3 : ∀ j, j < Hc.length → H3[j]? = Hc[j]? := fun j hj => by
          rw [f4 j (by intro hc; have := hid2 j hc; omega)]
          exact hs2 j hj
        have ht3 : H3.take Hc.length = Hc := by
          apply List.ext_getElem?
          intro j
          rw [List.getElem?_take]
          by_cases hj : j < Hc.length
          · rw [if_pos hj, same3 j hj]
          · rw [if_neg hj, List.getElem?_eq_none (by omega)]
        have ht4 : H3.take H.length = H := by
          have := congrArg (List.take H.length) ht3
          rw [List.take_take, Nat.min_eq_left (by omega), hp.take] at this
          exact this
        simp [go_sem, call63, hq.frz, f1]
        refine hrec (b ++ [r]) _ H3 true _ bar _ isL.out (by simp; omega) (by omega) fun v hv => ?_
        cases hro : roomsF (fitR l) m k (b ++ [r]) with
        | none =>
          rw [hro] at hv
          obtain rfl : v = .nils := hv
          simp [go_sem, eqNil_nil, hb.top, ht3, i64_suc (show r < 1000000 by omega)]
          rw [hro] at h1 h2
          refine ⟨by omega, ih (r + 1) (by omega) Hc hp h1 h2⟩
        | some c =>
          rw [hro] at hv
          have hv' := hv
          obtain ⟨ex, rfl⟩ := hv
          simp [go_sem, eqNil_lst]
          exact h1 _ H3 c hv' (by rw [hro]; rfl) ht4
      · simp [go_sem, aop, chunks]
        have o1 : Own Hc.length 1 (nats b) (.vec Hc.length 0 0 b.length 1) (Hc ++ [.row 0 (nats b) 0 false]) :=
          .inr ⟨Hc.length, 0, 0, by simpa [nats_eq_nil] using hb0, by omega, by simp, by simp [nats_length], by simp⟩
        refine o1.app (xs := [.int .i64 (r : Int)]) (by simp) (by decide) (Nat.one_dvd _) (fun c hc => by simp [AV.cells] at hc; subst hc; exact Plain.int) rfl (Nat.one_dvd _) (by omega) (by omega) (by simp [nats_length, AV.cells]; omega) fun v2 H2 tc2 o2 k2 => ?_
        have hl2 : Hc.length ≤ H2.length := by have := k2.len; simp at this; omega
        have hid2 : ∀ j, idOf v2 = some j → Hc.length ≤ j := fun j hj => (o2.lt hj).1
        have hs2 : ∀ j, j < Hc.length → H2[j]? = Hc[j]? := fun j hj => by
          rw [k2.same j (by simp; omega) (by simp [idOf]; omega), List.getElem?_append_left hj]
        have hc2 : H.length ∉ tc2 := fun hc => by
          have := k2.tc _ hc
          simp [idOf] at this
          omega
        have o2 : Own Hc.length 1 (nats (b ++ [r])) v2 H2 := by
          rw [nats_append, nats_one]
          simpa [AV.cells] using o2
        have hid2 : ∀ j, idOf v2 = some j → Hc.length ≤ j := fun j hj => (o2.lt hj).1
        obtain ⟨H3, f1, f2, f3, f4⟩ := o2.frz (d := 5) (bar := bar) (by decide) (Nat.one_dvd _) nats_plain (by omega)
        rw [show 5 + 3 = 8 from rfl] at f1
        have same3 : ∀ j, j < Hc.length → H3[j]? = Hc[j]? := fun j hj => by
          rw [f4 j (by intro hc; have := hid2 j hc; omega)]
          exact hs2 j hj
        have ht3 : H3.take Hc.length = Hc := by
          apply List.ext_getElem?
          intro j
          rw [List.getElem?_take]
          by_cases hj : j < Hc.length
          · rw [if_pos hj, same3 j hj]
          · rw [if_neg hj, List.getElem?_eq_none (by omega)]
        have ht4 : H3.take H.length = H := by
          have := congrArg (List.take H.length) ht3
          rw [List.take_take, Nat.min_eq_left (by omega), hp.take] at this
          exact this
        simp [go_sem, hc2, call63, hq.frz, f1]
        refine hrec (b ++ [r]) _ H3 true _ bar _ isL.out (by simp; omega) (by omega) fun v hv => ?_
        cases hro : roomsF (fitR l) m k (b ++ [r]) with
        | none =>
          rw [hro] at hv
          obtain rfl : v = .nils := hv
          simp [go_sem, eqNil_nil, hc2, hb.top, ht3, i64_suc (show r < 1000000 by omega)]
          rw [hro] at h1 h2
          refine ⟨by omega, ih (r + 1) (by omega) Hc hp h1 h2⟩
        | some c =>
          rw [hro] at hv
          have hv' := hv
          obtain ⟨ex, rfl⟩ := hv
          simp [go_sem, eqNil_lst, hc2]
          exact h1 _ H3 c hv' (by rw [hro]; rfl) ht4

theorem isL.ne {v : AV} {b : List Nat} (h : isL v b) (hb : b ≠ []) : isO v (some b) := by
  rcases h with ⟨_, he⟩ | h
  · exact absurd he hb
  · exact h
theorem isO.l {v : AV} {b : List Nat} (h : isO v (some b)) : isL v b := .inr h

theorem f63 {n : Nat} {q : AV} {l : List ZZ} (hq : isP q l) (hl : l.length < 1000) (hn : n ≤ 8) (h1 : 1 ≤ n) {m : Nat} (hm : m ≤ 100) : ∀ k, Rec63 n q l m k
  | 0 => fun b bv H pure base bar Q hb hbl hbar h => by
    have e0 : H ++ [.row 0 [.int .i64 (n : Int), q] 0 true] = HI H n q := rfl
    have e : ((b.length : Nat) : Int) = (n : Int) := by omega
    simp [go_sem, WpFun, c63, e0, hb.len, HI_n, e]
    refine leaveL hb ?_
    rw [show (HI H (n : Int) q).take H.length = H by simp [HI]]
    exact h _ (isL.ne hb (by intro hc; subst hc; simp at hbl; omega))
  | k + 1 => fun b bv H pure base bar Q hb hbl hbar h => by
    have hb' := bar_ok (pure := pure) hbar
    have e0 : H ++ [.row 0 [.int .i64 (n : Int), q] 0 true] = HI H n q := rfl
    have e : ¬ ((b.length : Nat) : Int) = (n : Int) := by omega
    simp [go_sem, WpFun, c63, e0, hb.len, HI_n, e] at hb' ⊢
    rw [roomsF_srch] at h
    refine l63 hq hl hn hb hm hbl (f63 hq hl hn h1 hm k) hb' m 0 (by omega) _ Pre.refl (fun v H' c hv he ht => ?_) (fun Hc' he hp => ?_)
    · simp [go_sem]
      refine leaveL hv.l ?_
      rw [ht]
      exact h v (by rw [he]; exact hv)
    · simp [go_sem, hp.take]
      exact h _ (by rw [he]; rfl)

theorem k63 {n : Nat} {q : AV} {l : List ZZ} (hq : isP q l) (hl : l.length < 1000) (hn : n ≤ 8) (h1 : 1 ≤ n) {m : Nat} (hm : m ≤ 100) (hbar : bar ≤ H.length) (h : ∀ v, isO v (roomsF (fitR l) m n []) → Q v H) :
    WpCall E pure base bar 63 [.agg [.int .i64 (n : Int), q], .nils, .int .i64 (m : Nat)] H Q := by
  rw [call63]
  simp [go_sem, hq.frz]
  exact f63 hq hl hn h1 hm n [] .nils H pure base bar Q .nil (by simp) hbar h

theorem l17 {n : Nat} {q : AV} {l : List ZZ} (hq : isP q l) (hl : l.length < 1000) (hn : n ≤ 8) (h1 : 1 ≤ n) (hex : (roomsF (fitR l) n n []).isSome = true) (hbar : bar ≤ H.length) {R : PQ} :
    ∀ (d m : Nat), m + d = n → ∀ v, isO v (roomsF (fitR l) m n []) → (∀ j, 1 ≤ j → j < m → roomsF (fitR l) j n [] = none) →
    (∀ m' v' b, 1 ≤ m' → m' ≤ n → isL v' b → roomsF (fitR l) m' n [] = some b → (∀ j, 1 ≤ j → j < m' → roomsF (fitR l) j n [] = none) → R (.exit 0) [(1, .ptr H.length 0 0), (5, .int .i64 (m' : Nat)), (6, v'), (16, .bool false)] (HI H n q)) → 1 ≤ m →
    Wp E H.length bar (.loop c17_l0) [(1, .ptr H.length 0 0), (5, .int .i64 (m : Nat)), (6, v)] (HI H n q) R := by
  intro d
  induction d with
  | zero =>
    intro m hm v hv hmin h hm1
    obtain rfl : m = n := by omega
    rw [wp_round c17_l0.eq_1]
    cases hc : roomsF (fitR l) m m [] with
    | none => rw [hc] at hex; cases hex
    | some b =>
      rw [hc] at hv
      have hv' := hv
      obtain ⟨ex, rfl⟩ := hv
      simp [go_sem, eqNil_lst]
      exact h m _ b hm1 (Nat.le_refl _) hv'.l hc hmin
  | succ d ih =>
    intro m hm v hv hmin h hm1
    rw [wp_round c17_l0.eq_1]
    cases hc : roomsF (fitR l) m n [] with
    | none =>
      rw [hc] at hv
      obtain rfl : v = .nils := hv
      simp [go_sem, eqNil_nil, i64_suc (show m < 1000000 by omega), HI_h]
      refine k63 (m := m + 1) hq hl hn h1 (by omega) (by rw [HI_len]; omega) fun v hv => ?_
      simp [go_sem]
      refine ih (m + 1) (by omega) v hv (fun j hj1 hj2 => ?_) h (by omega)
      by_cases hj : j = m
      · subst hj; exact hc
      · exact hmin j hj1 (by omega)
    | some b =>
      rw [hc] at hv
      have hv' := hv
      obtain ⟨ex, rfl⟩ := hv
      simp [go_sem, eqNil_lst]
      exact h m _ b hm1 (by omega) hv'.l hc hmin

theorem k17 {n : Int} {q : AV} {l : List ZZ} (hq : isP q l) (hl : l.length < 1000) (hex : ∀ m : Nat, m ≤ 8 → (roomsF (fitR l) m m []).isSome = true) (hbar : bar ≤ H.length)
    (h1 : ∀ e, openS n l = .err e → Q (.tup [.nils, .int .i64 e]) H)
    (h2 : ∀ (m : Nat) (w : Nat → Nat), n = m → 1 ≤ m → m ≤ 8 → openS n l = .room w → ∀ m' v b, 1 ≤ m' → m' ≤ m → isL v b → roomsF (fitR l) m' m [] = some b → (∀ j, 1 ≤ j → j < m' → roomsF (fitR l) j m [] = none) → Q (.tup [v, .int .i64 0]) H) :
    WpCall E pure base bar 17 [.agg [.int .i64 n, q]] H Q := by
  rw [call17]
  have hb' := bar_ok (pure := pure) hbar
  have e0 : H ++ [.row 0 [.int .i64 n, q] 0 true] = HI H n q := rfl
  simp [go_sem, WpFun, c17, hq.frz, e0, HI_h] at hb' ⊢
  generalize (if pure = true then H.length else bar) = bar' at hb' ⊢
  rw [k27 hq hl (by rw [HI_len]; omega)]
  cases ho : openS n l with
  | err e =>
    simp [go_sem, errOf, openS_err ho, HI]
    exact h1 e ho
  | room w =>
    have hr : within 1 8 n = true := by
      unfold openS at ho
      split at ho
      · assumption
      · cases ho
    simp [within] at hr
    obtain ⟨n, rfl⟩ := Int.eq_ofNat_of_zero_le (show 0 ≤ n by omega)
    simp [go_sem, errOf, HI_h]
    refine k63 (m := 1) hq hl (by omega) (by omega) (by omega) (by rw [HI_len]; omega) fun v hv => ?_
    simp [go_sem]
    refine l17 hq hl (by omega) (by omega) (hex n (by omega)) hb' (n - 1) 1 (by omega) v hv (fun j hj1 hj2 => by omega) (fun m' v' b g1 g2 g3 g4 g5 => ?_) (by omega)
    simp [go_sem, g3.frz, g3.top, HI]
    exact h2 n w rfl (by omega) (by omega) ho m' v' b g1 g2 g3 g4 g5

/-! program and reference agree -/
theorem roomsF_congr {fit fit' : List Nat → Nat → Bool} {m n : Nat} (h : ∀ b r, b.length < n → fit b r = fit' b r) : ∀ k b, b.length + k = n → roomsF fit m k b = roomsF fit' m k b
  | 0, b, _ => rfl
  | k + 1, b, hb => by
    simp only [roomsF]
    congr 1
    funext r
    rw [h b r (by omega), roomsF_congr h k (b ++ [r]) (by simp; omega)]
theorem roomsF_some {fit : List Nat → Nat → Bool} {m n : Nat} (f : Nat → Nat) (hf : ∀ i, i < n → f i < m) (hfit : ∀ i, i < n → fit ((List.range i).map f) (f i) = true) :
    ∀ k i, i + k = n → (roomsF fit m k ((List.range i).map f)).isSome = true
  | 0, i, _ => rfl
  | k + 1, i, hi => by
    simp only [roomsF]
    rw [List.findSome?_isSome_iff]
    refine ⟨f i, List.mem_range.2 (hf i (by omega)), ?_⟩
    rw [if_pos (hfit i (by omega))]
    have := roomsF_some f hf hfit k (i + 1) (by omega)
    rw [List.range_succ, List.map_append] at this
    exact this
theorem fit_agree {l : List ZZ} {w : Nat → Nat} {b : List Nat} {r : Nat} (ht : Tells w l) (hb : b.length < 8) : fitW w b r = fitR l b r := by
  unfold fitW fitR
  rw [Bool.eq_iff_iff, List.all_eq_true, List.all_eq_true]
  have e : ∀ i, i ∈ List.range b.length → (w b.length).testBit i = qin l (i : Int) (b.length : Int) := fun i hi => by
    rw [ht _ _ hb (by have := List.mem_range.1 hi; omega), qin_sym]
  constructor
  · intro h i hi
    have := h i hi
    rwa [e i hi] at this
  · intro h i hi
    have := h i hi
    rwa [← e i hi] at this

theorem fitR_iff {l : List ZZ} {b : List Nat} {r : Nat} : fitR l b r = true ↔ ∀ i, i < b.length → b[i]? = some r → qin l (i : Int) (b.length : Int) = false := by
  unfold fitR
  simp only [List.all_eq_true, List.mem_range, Bool.or_eq_true, bne_iff_ne, ne_eq, Bool.not_eq_true']
  constructor
  · intro h i hi he
    rcases h i hi with h1 | h1
    · exact absurd he h1
    · exact h1
  · intro h i hi
    by_cases he : b[i]? = some r
    · exact .inr (h i hi he)
    · exact .inl he

theorem rooms_exist {l : List ZZ} {n : Nat} : (roomsF (fitR l) n n []).isSome = true := by
  have := roomsF_some (fit := fitR l) (m := n) (n := n) (fun i => i) (fun i hi => hi) (fun i hi => by
    rw [fitR_iff]
    intro j hj he
    simp at hj he
    obtain ⟨_, he⟩ := List.getElem?_eq_some_iff.1 he
    simp at he
    omega) n 0 (by omega)
  simpa using this

/-- where fewer rooms do not do, all quarrel -/
theorem all_quarrel {l : List ZZ} {n : Nat} (h : roomsF (fitR l) (n - 1) n [] = none) : ∀ a b : Nat, a < b → b < n → qin l (a : Int) (b : Int) = true := by
  intro a c hac hcn
  apply Decidable.byContradiction
  intro hq
  have hq : qin l (a : Int) (c : Int) = false := by simpa using hq
  have := roomsF_some (fit := fitR l) (m := n - 1) (n := n) (fun x => if x < c then x else if x = c then a else x - 1) (fun i hi => by
    show (if i < c then i else if i = c then a else i - 1) < n - 1
    split
    · omega
    · split <;> omega) (fun i hi => by
    rw [fitR_iff]
    intro j hj he
    simp only [List.length_map, List.length_range] at hj
    rw [List.getElem?_map, List.getElem?_range hj] at he
    simp only [Option.map_some, Option.some.injEq, List.length_map, List.length_range] at he ⊢
    by_cases h1 : i = c
    · subst h1
      rw [if_pos hj, if_neg (by omega), if_pos rfl] at he
      subst he
      exact hq
    · exfalso
      by_cases h2 : i < c
      · rw [if_pos (by omega), if_pos h2] at he; omega
      · rw [if_neg h2, if_neg h1] at he
        by_cases h3 : j < c
        · rw [if_pos h3] at he; omega
        · rw [if_neg h3] at he
          by_cases h4 : j = c
          · rw [if_pos h4] at he; omega
          · rw [if_neg h4] at he; omega) n 0 (by omega)
  simp [h] at this

theorem srch_skips {fit : List Nat → Nat → Bool} {m k : Nat} {b : List Nat} : ∀ (r : Nat), r ≤ m → (∀ x, x < r → fit b x = false) → srchF fit m (k + 1) b 0 = srchF fit m (k + 1) b r
  | 0, _, _ => rfl
  | r + 1, hr, h => by
    rw [srch_skips r (by omega) (fun x hx => h x (by omega)), srch_skip (by omega) (h r (by omega))]

theorem first_all {l : List ZZ} {n : Nat} (h : ∀ a b : Nat, a < b → b < n → qin l (a : Int) (b : Int) = true) : ∀ k i, i + k = n → roomsF (fitR l) n k (List.range i) = some (List.range n)
  | 0, i, hi => by obtain rfl : i = n := by omega
                   rfl
  | k + 1, i, hi => by
    rw [roomsF_srch, srch_skips i (by omega) (fun x hx => by
      apply Decidable.byContradiction
      intro hc
      have := fitR_iff.1 (by simpa using hc) x (by simpa using hx) (by simp [List.getElem?_range hx])
      rw [List.length_range, h x i hx (by omega)] at this
      cases this), srch_fit (by omega) (by
      rw [fitR_iff]
      intro j hj he
      simp at hj
      rw [List.getElem?_range hj] at he
      simp at he
      omega), ← List.range_succ, first_all h k (i + 1) (by omega)]
    rfl

theorem findSome_first {g : Nat → Option (List Nat)} {b : List Nat} {m' : Nat} : ∀ (k m : Nat), m ≤ m' → m' < m + k → (∀ j, m ≤ j → j < m' → g j = none) → g m' = some b → (List.range' m k).findSome? g = some b
  | 0, m, h1, h2, _, _ => by omega
  | k + 1, m, h1, h2, h3, h4 => by
    rw [List.range'_succ, List.findSome?_cons]
    by_cases hm : m = m'
    · subst hm; rw [h4]
    · rw [h3 m (Nat.le_refl _) (by omega)]
      exact findSome_first k (m + 1) (by omega) (by omega) (fun j hj1 hj2 => h3 j (by omega) hj2) h4
theorem findSome_none {g : Nat → Option (List Nat)} : ∀ (k m : Nat), (∀ j, m ≤ j → j < m + k → g j = none) → (List.range' m k).findSome? g = none
  | 0, m, _ => rfl
  | k + 1, m, h => by
    rw [List.range'_succ, List.findSome?_cons, h m (Nat.le_refl _) (by omega)]
    exact findSome_none k (m + 1) fun j h1 h2 => h j (by omega) (by omega)

theorem agree_rooms {n m' : Nat} {l : List ZZ} {w : Nat → Nat} {b : List Nat} (hn : n ≤ 8) (ht : Tells w l) (h1 : 1 ≤ m') (h2 : m' ≤ n) (hb : roomsF (fitR l) m' n [] = some b) (hmin : ∀ j, 1 ≤ j → j < m' → roomsF (fitR l) j n [] = none) :
    roomsS n w (n - 1) = b := by
  have hg : ∀ m, roomsF (fitW w) m n [] = roomsF (fitR l) m n [] := fun m => roomsF_congr (n := n) (fun b r hb => fit_agree ht (by omega)) n [] (by simp)
  unfold roomsS
  simp only [hg]
  rw [show n - (n - 1) = 1 by omega]
  by_cases hm : m' < n
  · rw [findSome_first (g := fun m => roomsF (fitR l) m n []) (m' := m') (n - 1) 1 h1 (by omega) hmin hb]; rfl
  · obtain rfl : m' = n := by omega
    rw [findSome_none (g := fun m => roomsF (fitR l) m m' []) (m' - 1) 1 (fun j hj1 hj2 => hmin j hj1 (by omega))]
    simp only [Option.getD_none]
    have hall : ∀ a b : Nat, a < b → b < m' → qin l (a : Int) (b : Int) = true := by
      by_cases h8 : m' = 1
      · intro a b h3 h4; omega
      · exact all_quarrel (hmin (m' - 1) (by omega) (by omega))
    have := first_all hall m' 0 (by omega)
    rw [List.range_zero, hb] at this
    exact (Option.some.inj this).symm
end Go.Proofs.Ythoogegclpiefaa.Code
end

section
namespace Go.Proofs.Ythoogegclpiefaa.Code
open Go Go.Ab
variable {pure : Bool} {base bar : Nat} {H : Heap} {Q : AV → Heap → Prop}

/-! three people who prove that a house is not parted -/
def testC (l : List ZZ) (a b c : Nat) : Bool := decide (a ≠ b) && (decide (b ≠ c) && (decide (a ≠ c) && (qin l a c && (!qin l a b && !qin l b c))))
def rowC (l : List ZZ) (a b : Nat) (cs : List Nat) : Option (Nat × Nat × Nat) := cs.findSome? fun c => if testC l a b c = true then some (a, b, c) else none
def rowB (l : List ZZ) (n a : Nat) (bs : List Nat) : Option (Nat × Nat × Nat) := bs.findSome? fun b => rowC l a b (List.range n)
def oddR (l : List ZZ) (n : Nat) : Option (Nat × Nat × Nat) := (List.range n).findSome? fun a => rowB l n a (List.range n)

section
variable {n : Nat} {q : AV} {l : List ZZ} {R : PQ}
theorem l19a (hq : isP q l) (hl : l.length < 1000) (hn : n ≤ 8) {a b : Nat} : ∀ (k c : Nat), c + k = n →
    (∀ a' b' c' : Nat, rowC l a b (List.range' c k) = some (a', b', c') → R .ret [(2, .int .i64 (a' : Nat)), (3, .int .i64 (b' : Nat)), (4, .int .i64 (c' : Nat)), (5, .int .i64 14)] (HI H n q)) →
    (rowC l a b (List.range' c k) = none → R (.exit 4) [(1, .ptr H.length 0 0), (7, .int .i64 (a : Nat)), (8, .int .i64 (b : Nat)), (9, .int .i64 (n : Nat)), (30, .bool false)] (HI H n q)) →
    Wp E H.length bar (.loop c19_l0) [(1, .ptr H.length 0 0), (7, .int .i64 (a : Nat)), (8, .int .i64 (b : Nat)), (9, .int .i64 (c : Nat))] (HI H n q) R := by
  intro k
  induction k with
  | zero =>
    intro c hc h1 h2
    obtain rfl : c = n := by omega
    rw [wp_round c19_l0.eq_1]
    simp [go_sem, HI_n]
    exact h2 rfl
  | succ k ih =>
    intro c hc h1 h2
    have hlt : c < n := by omega
    rw [wp_round c19_l0.eq_1]
    simp only [rowC, List.range'_succ, List.findSome?_cons] at h1 h2
    have go : testC l a b c = false → Wp E H.length bar (.loop c19_l0) [(1, .ptr H.length 0 0), (7, .int .i64 (a : Nat)), (8, .int .i64 (b : Nat)), (9, .int .i64 ((c : Int) + 1))] (HI H n q) R := fun ht => by
      simp only [ht, Bool.false_eq_true, if_false] at h1 h2
      exact ih (c + 1) (by omega) h1 h2
    by_cases h3 : a = b
    · have ht : testC l a b c = false := by simp [testC, h3]
      have := go ht
      subst h3
      simp [go_sem, HI_n, hlt, natEq, i64_suc (show c < 1000000 by omega)]
      exact this
    by_cases h4 : b = c
    · have ht : testC l a b c = false := by simp [testC, h4]
      have := go ht
      subst h4
      simp [go_sem, HI_n, hlt, natEq, h3, i64_suc (show b < 1000000 by omega)]
      exact this
    by_cases h5 : a = c
    · have ht : testC l a b c = false := by simp [testC, h5]
      have := go ht
      subst h5
      simp [go_sem, HI_n, hlt, natEq, h3, h4, i64_suc (show a < 1000000 by omega)]
      exact this
    cases h6 : qin l a c
    · have ht : testC l a b c = false := by simp [testC, h6]
      simp [go_sem, HI_n, HI_q, hlt, natEq, h3, h4, h5, k65 hq hl, h6, i64_suc (show c < 1000000 by omega)]
      exact go ht
    cases h7 : qin l a b
    · cases h8 : qin l b c
      · have ht : testC l a b c = true := by simp [testC, h3, h4, h5, h6, h7, h8]
        simp only [ht, if_true] at h1
        simp [go_sem, HI_n, HI_q, hlt, natEq, h3, h4, h5, k65 hq hl, h6, h7, h8]
        exact h1 a b c rfl
      · have ht : testC l a b c = false := by simp [testC, h8]
        simp [go_sem, HI_n, HI_q, hlt, natEq, h3, h4, h5, k65 hq hl, h6, h7, h8, i64_suc (show c < 1000000 by omega)]
        exact go ht
    · have ht : testC l a b c = false := by simp [testC, h7]
      simp [go_sem, HI_n, HI_q, hlt, natEq, h3, h4, h5, k65 hq hl, h6, h7, i64_suc (show c < 1000000 by omega)]
      exact go ht

theorem l19b (hq : isP q l) (hl : l.length < 1000) (hn : n ≤ 8) {a : Nat} : ∀ (k b : Nat), b + k = n →
    (∀ a' b' c' : Nat, rowB l n a (List.range' b k) = some (a', b', c') → R .ret [(2, .int .i64 (a' : Nat)), (3, .int .i64 (b' : Nat)), (4, .int .i64 (c' : Nat)), (5, .int .i64 14)] (HI H n q)) →
    (rowB l n a (List.range' b k) = none → R (.exit 2) [(1, .ptr H.length 0 0), (7, .int .i64 (a : Nat)), (8, .int .i64 (n : Nat)), (24, .bool false)] (HI H n q)) →
    Wp E H.length bar (.loop c19_l1) [(1, .ptr H.length 0 0), (7, .int .i64 (a : Nat)), (8, .int .i64 (b : Nat))] (HI H n q) R := by
  intro k
  induction k with
  | zero =>
    intro b hb h1 h2
    obtain rfl : b = n := by omega
    rw [wp_round c19_l1.eq_1]
    simp [go_sem, HI_n]
    exact h2 rfl
  | succ k ih =>
    intro b hb h1 h2
    have hlt : b < n := by omega
    rw [wp_round c19_l1.eq_1]
    simp only [rowB, List.range'_succ, List.findSome?_cons, List.range_eq_range'] at h1 h2
    simp [go_sem, HI_n, hlt]
    refine l19a hq hl hn n 0 (by omega) (fun a' b' c' he => ?_) (fun he => ?_)
    · simp only [he] at h1
      simp [go_sem]
      exact h1 a' b' c' rfl
    · simp only [he] at h1 h2
      simp [go_sem, i64_suc (show b < 1000000 by omega)]
      refine ih (b + 1) (by omega) ?_ ?_
      · simpa only [rowB, List.range_eq_range'] using h1
      · simpa only [rowB, List.range_eq_range'] using h2

theorem l19 (hq : isP q l) (hl : l.length < 1000) (hn : n ≤ 8) : ∀ (k a : Nat), a + k = n →
    (∀ a' b' c' : Nat, ((List.range' a k).findSome? fun a => rowB l n a (List.range n)) = some (a', b', c') → R .ret [(2, .int .i64 (a' : Nat)), (3, .int .i64 (b' : Nat)), (4, .int .i64 (c' : Nat)), (5, .int .i64 14)] (HI H n q)) →
    (((List.range' a k).findSome? fun a => rowB l n a (List.range n)) = none → R (.exit 0) [(1, .ptr H.length 0 0), (7, .int .i64 (n : Nat)), (18, .bool false)] (HI H n q)) →
    Wp E H.length bar (.loop c19_l2) [(1, .ptr H.length 0 0), (7, .int .i64 (a : Nat))] (HI H n q) R := by
  intro k
  induction k with
  | zero =>
    intro a ha h1 h2
    obtain rfl : a = n := by omega
    rw [wp_round c19_l2.eq_1]
    simp [go_sem, HI_n]
    exact h2 rfl
  | succ k ih =>
    intro a ha h1 h2
    have hlt : a < n := by omega
    rw [wp_round c19_l2.eq_1]
    simp only [List.range'_succ, List.findSome?_cons] at h1 h2
    simp [go_sem, HI_n, hlt]
    refine l19b hq hl hn n 0 (by omega) (fun a' b' c' he => ?_) (fun he => ?_)
    · rw [← List.range_eq_range'] at he
      simp only [he] at h1
      simp [go_sem]
      exact h1 a' b' c' rfl
    · rw [← List.range_eq_range'] at he
      simp only [he] at h1 h2
      simp [go_sem, i64_suc (show a < 1000000 by omega)]
      exact ih (a + 1) (by omega) h1 h2
end

theorem k19 {n : Int} {q : AV} {l : List ZZ} (hq : isP q l) (hl : l.length < 1000) (hbar : bar ≤ H.length)
    (h1 : ∀ e, openS n l = .err e → Q (.tup [.int .i64 0, .int .i64 0, .int .i64 0, .int .i64 e]) H)
    (h2 : ∀ (m : Nat) (w : Nat → Nat), n = m → 1 ≤ m → m ≤ 8 → openS n l = .room w → oddR l m = none → Q (.tup [.int .i64 0, .int .i64 0, .int .i64 0, .int .i64 0]) H)
    (h3 : ∀ (m : Nat) (w : Nat → Nat), n = m → 1 ≤ m → m ≤ 8 → openS n l = .room w → ∀ a b c : Nat, oddR l m = some (a, b, c) → Q (.tup [.int .i64 (a : Int), .int .i64 (b : Int), .int .i64 (c : Int), .int .i64 14]) H) :
    WpCall E pure base bar 19 [.agg [.int .i64 n, q]] H Q := by
  rw [call19]
  have hb' := bar_ok (pure := pure) hbar
  have e0 : H ++ [.row 0 [.int .i64 n, q] 0 true] = HI H n q := rfl
  simp [go_sem, WpFun, c19, hq.frz, e0, HI_h] at hb' ⊢
  generalize (if pure = true then H.length else bar) = bar' at hb' ⊢
  rw [k27 hq hl (by rw [HI_len]; omega)]
  cases ho : openS n l with
  | err e =>
    simp [go_sem, errOf, openS_err ho, HI]
    exact h1 e ho
  | room w =>
    have hr : within 1 8 n = true := by
      unfold openS at ho
      split at ho
      · assumption
      · cases ho
    simp [within] at hr
    obtain ⟨n, rfl⟩ := Int.eq_ofNat_of_zero_le (show 0 ≤ n by omega)
    simp [go_sem, errOf]
    refine l19 hq hl (by omega) n 0 (by omega) (fun a b c he => ?_) (fun he => ?_)
    · rw [← List.range_eq_range'] at he
      simp [go_sem, HI]
      exact h3 n w rfl (by omega) (by omega) ho a b c he
    · rw [← List.range_eq_range'] at he
      simp [go_sem, HI]
      exact h2 n w rfl (by omega) (by omega) ho he

theorem k68 {n : Int} {m : Nat} {w : Nat → Nat} {q : AV} {l : List ZZ} (hm : n = m) (ho : openS n l = .room w) (hq : isP q l) (hl : l.length < 1000) (hbar : bar ≤ H.length)
    (h : Q (.bool (oddR l m).isNone) H) :
    WpCall E pure base bar 68 [.agg [.int .i64 n, q]] H Q := by
  rw [call68]
  have hb' := bar_ok (pure := pure) hbar
  have e0 : H ++ [.row 0 [.int .i64 n, q] 0 true] = HI H n q := rfl
  simp [go_sem, WpFun, c68, hq.frz, e0, HI_h] at hb' ⊢
  generalize (if pure = true then H.length else bar) = bar' at hb' ⊢
  refine k19 hq hl (by rw [HI_len]; omega) (fun e he => by rw [ho] at he; cases he) (fun m' w' hm' _ _ he hn => ?_) (fun m' w' hm' _ _ he a b c hn => ?_)
  · obtain rfl : m = m' := by omega
    rw [hn] at h
    simp [go_sem, HI]
    exact h
  · obtain rfl : m = m' := by omega
    rw [hn] at h
    simp [go_sem, HI]
    exact h
end Go.Proofs.Ythoogegclpiefaa.Code
end

section
namespace Go.Proofs.Ythoogegclpiefaa.Code
open Go Go.Ab
variable {pure : Bool} {base bar : Nat} {H : Heap} {Q : AV → Heap → Prop}

theorem allL_get : ∀ {vs : List AV} {ls : List (List Nat)}, allL vs ls → ∀ {i : Nat} (hi : i < ls.length), ∃ u, vs[i]? = some u ∧ isL u ls[i]
  | v :: vs, l :: ls, h, 0, hi => ⟨v, rfl, h.1⟩
  | v :: vs, l :: ls, h, i + 1, hi => by
    obtain ⟨u, h1, h2⟩ := allL_get h.2 (i := i) (by simpa using hi)
    exact ⟨u, by simpa using h1, by simpa using h2⟩
  | [], [], _, i, hi => by simp at hi
  | [], _ :: _, h, _, _ => h.elim
  | _ :: _, [], h, _, _ => h.elim
theorem isLL_ix {v : AV} {ls : List (List Nat)} (h : isLL v ls) {i : Nat} (hi : i < ls.length) : ∃ u, isL u ls[i] ∧ ∀ (H : Heap) (k : IntKind) (K : AV → Heap → List Nat → Prop), ixaSWp 1 (some v) (some (.int k (i : Int))) H K = K (.fp u) H [] := by
  rcases h with ⟨_, rfl⟩ | ⟨ex, vs, rfl, ha⟩
  · simp at hi
  · obtain ⟨u, h1, h2⟩ := allL_get ha hi
    refine ⟨u, h2, fun H k K => ?_⟩
    rw [ixaSWp_lst]
    simp [h1, valWp_some]

theorem l23 {a b : AV} {x y : List (List Nat)} (ha : isLL a x) (hb : isLL b y) (hx : x.length < 100000) (hxy : x.length = y.length) (hx2 : ∀ l ∈ x, l.length < 100000) (hy2 : ∀ l ∈ y, l.length < 100000) {R : PQ} : ∀ (k i : Nat), i + k = x.length →
    (x.drop i ≠ y.drop i → R .ret [(4, .bool false)] H) →
    (x.drop i = y.drop i → R (.exit 0) [(0, a), (1, b), (5, .int .i64 (x.length : Nat)), (14, .bool false)] H) →
    Wp E base bar (.loop c23_l0) [(0, a), (1, b), (5, .int .i64 (i : Nat))] H R := by
  intro k
  induction k with
  | zero =>
    intro i hi h1 h2
    obtain rfl : i = x.length := by omega
    rw [wp_round c23_l0.eq_1]
    simp [go_sem, ha.len]
    exact h2 (by rw [List.drop_length, hxy, List.drop_length])
  | succ k ih =>
    intro i hi h1 h2
    have hlt : i < x.length := by omega
    have hlt2 : i < y.length := by omega
    rw [wp_round c23_l0.eq_1]
    rw [List.drop_eq_getElem_cons hlt, List.drop_eq_getElem_cons hlt2, List.cons.injEq] at h2
    rw [List.drop_eq_getElem_cons hlt, List.drop_eq_getElem_cons hlt2, ne_eq, List.cons.injEq] at h1
    obtain ⟨u, hu, hiu⟩ := isLL_ix ha hlt
    obtain ⟨v, hv, hiv⟩ := isLL_ix hb hlt2
    simp [go_sem, hlt, ha.len, hiu, hiv, aload_fpL hu, aload_fpL hv]
    refine k22 hu hv (hx2 _ (List.getElem_mem hlt)) (hy2 _ (List.getElem_mem hlt2)) ?_
    by_cases hc : x[i] = y[i]
    · simp only [hc, true_and] at h1 h2
      simp [go_sem, hu.noVec, hv.noVec, hc, i64_suc (show i < 1000000 by omega)]
      exact ih (i + 1) (by omega) h1 h2
    · simp [go_sem, hu.noVec, hv.noVec, hc]
      exact h1 (fun he => hc he.1)

theorem k23 {a b : AV} {x y : List (List Nat)} (ha : isLL a x) (hb : isLL b y) (hx : x.length < 100000) (hx2 : ∀ l ∈ x, l.length < 100000) (hy2 : ∀ l ∈ y, l.length < 100000) (h : Q (.bool (decide (x = y))) H) : WpCall E pure base bar 23 [a, b] H Q := by
  rw [call23]
  simp [go_sem, WpFun, c23, ha.frz, hb.frz, ha.len, hb.len]
  by_cases hl : x.length = y.length
  · simp [go_sem, natEq, hl]
    refine l23 ha hb hx hl hx2 hy2 x.length 0 (by omega) ?_ ?_
    · intro he
      rw [show decide (x = y) = false by simpa using he] at h
      simp [go_sem]
      exact h
    · intro he
      rw [show decide (x = y) = true by simpa using he] at h
      simp [go_sem]
      exact h
  · rw [show decide (x = y) = false by simp; intro hc; exact hl (by rw [hc])] at h
    simp [go_sem, show ¬ ((x.length : Nat) : Int) = (y.length : Nat) by omega]
    exact h

/-! groups -/
theorem tz8_pos : ∀ s, s < 256 → s ≠ 0 → tz8 s < 8 := by decide +kernel
def groupsW (w : Nat → Nat) : Nat → Nat → List (List Nat)
  | 0, _ => []
  | f + 1, left => if left = 0 then [] else bitsOf (clr left (w (tz8 left))) :: groupsW w f (clr left (clr left (w (tz8 left))))
theorem bits_clr {s g : Nat} (hs : s < 256) : bitsOf (clr s g) = (bitsOf s).filter fun i => !g.testBit i := by
  unfold bitsOf
  rw [List.filter_filter]
  congr 1
  funext i
  rw [testBit_clr hs, Bool.and_comm]
theorem tz8_bit : ∀ s, s < 256 → s ≠ 0 → s.testBit (tz8 s) = true := by decide +kernel
theorem bits_zero_iff : ∀ s, s < 256 → bitsOf s = [] → s = 0 := by decide +kernel

theorem l20 {id ver n fz : Nat} {ex : Bool} {w : Nat → Nat} (hid : H[id]? = some (.row ver (wcells n w) fz ex)) (hw : ∀ x, w x < 256) (hself : ∀ x, x < 8 → (w x).testBit x = false) {k0 : Nat} (hk0 : k0 ≤ H.length) (hidk : id < k0) (hbar : bar ≤ k0) (hbase : base ≤ k0) {R : PQ} :
    ∀ (f left : Nat) (acc : List (List Nat)) (vs : List AV) (ov : AV) (Hc : Heap), left < 256 → (bitsOf left).length ≤ f → Hc.length ≥ k0 → (∀ j, j < k0 → Hc[j]? = H[j]?) → Own k0 1 vs ov Hc → allL vs acc → acc.length + f ≤ 1000 →
    (∀ vs' ov' Hc', (∀ j, j < k0 → Hc'[j]? = H[j]?) → Hc'.length ≥ k0 → Own k0 1 vs' ov' Hc' → allL vs' (acc ++ groupsW w f left) → R (.exit 0) [(4, .ptr id ver 0), (10, ov'), (11, .int .u8 0), (37, .bool false)] Hc') →
    Wp E base bar (.loop c20_l0) [(4, .ptr id ver 0), (10, ov), (11, .int .u8 (left : Nat))] Hc R := by
  intro f
  induction f with
  | zero =>
    intro left acc vs ov Hc hleft hf hlen hsame ho ha hal h
    have h0 : left = 0 := bits_zero_iff left hleft (List.length_eq_zero_iff.1 (by omega))
    subst h0
    rw [wp_round c20_l0.eq_1]
    simp [go_sem]
    exact h vs ov Hc hsame hlen ho (by simpa [groupsW] using ha)
  | succ f ih =>
    intro left acc vs ov Hc hleft hf hlen hsame ho ha hal h
    rw [wp_round c20_l0.eq_1]
    by_cases h0 : left = 0
    · subst h0
      simp [go_sem]
      exact h vs ov Hc hsame hlen ho (by simpa [groupsW] using ha)
    · have hz := tz8_pos left hleft h0
      have hid' : Hc[id]? = some (.row ver (wcells n w) fz ex) := by rw [hsame id hidk, hid]
      have hne : ¬ ((left : Nat) : Int) = 0 := by omega
      have hg : clr left (w (tz8 left)) < 256 := clr_lt hleft
      have hgb : (clr left (w (tz8 left))).testBit (tz8 left) = true := by rw [testBit_clr hleft, tz8_bit left hleft h0, hself _ hz]; rfl
      simp only [groupsW, if_neg h0] at h
      generalize hgr : clr left (w (tz8 left)) = g at hg hgb h
      have hlt : (bitsOf (clr left g)).length < (bitsOf left).length := by
        rw [bits_clr hleft]
        rw [List.length_filter_lt_length_iff_exists]
        refine ⟨tz8 left, ?_, by simp [hgb]⟩
        simp [bitsOf, hz, tz8_bit left hleft h0]
      simp [go_sem, hne, h0, k66 hleft, hz, loadW hid' hz, andNot_u8 hleft (hw (tz8 left)), hgr]
      refine k67 hg (by omega) ?_
      have hv := isL.out (l := bitsOf g)
      generalize outL 1 (nats (bitsOf g)) = v at hv
      simp [go_sem, hv.isTup, hv.cells, hv.frz, aop, fillA, setCells, chunks]
      refine ho.app (bytes := 24) (xs := [v]) (by omega) (by decide) (Nat.one_dvd _) (fun c hc => by simp [hv.cells] at hc; subst hc; exact hv.plain) (by simp [hv.cells, AV.noVec.noVecs, hv.noVec]) (Nat.one_dvd _) (by omega) (by omega) (by
        simp [hv.cells, ha.length]; omega) fun v2 H2 tc2 o2 k2 => ?_
      simp [hv.cells] at o2
      have hs2 : ∀ j, j < k0 → H2[j]? = H[j]? := fun j hj => by
        rw [k2.same j (by omega) (fun hc => by have := (ho.lt hc).1; omega), hsame j hj]
      have hl2 := k2.len
      simp [go_sem, andNot_u8 hleft hg]
      refine ih (clr left g) (acc ++ [bitsOf g]) _ _ _ (clr_lt hleft) (by omega) (by omega) hs2 o2 (ha.append ⟨hv, trivial⟩) (by simp; omega) ?_
      simpa using h

theorem k20 {n : Int} {q : AV} {l : List ZZ} (hq : isP q l) (hl : l.length < 1000) (hbar : bar ≤ H.length)
    (hself : ∀ (m : Nat) (w : Nat → Nat), n = m → openS n l = .room w → ∀ x, x < 8 → (w x).testBit x = false)
    (h1 : ∀ e, openS n l = .err e → Q (.tup [.nils, .int .i64 e]) H)
    (h2 : ∀ (m : Nat) (w : Nat → Nat), n = m → 1 ≤ m → m ≤ 8 → openS n l = .room w → ∀ t, oddS m w = some t → Q (.tup [.nils, .int .i64 13]) H)
    (h3 : ∀ (m : Nat) (w : Nat → Nat), n = m → 1 ≤ m → m ≤ 8 → openS n l = .room w → oddS m w = none → ∀ v, isLL v (groupsW w 8 (pw m - 1)) → Q (.tup [v, .int .i64 0]) H) :
    WpCall E pure base bar 20 [.agg [.int .i64 n, q]] H Q := by
  rw [call20]
  have hb' := bar_ok (pure := pure) hbar
  simp [go_sem, WpFun, c20, hq.frz, aload] at hb' ⊢
  generalize (if pure = true then H.length else bar) = bar' at hb' ⊢
  refine k61 hq hl (by simp; omega) ?_ ?_
  · intro e he
    simp [go_sem, openS_err he]
    exact h1 e he
  · intro m w hm hm1 hm8 hw he
    have hid : (H ++ [Blk.row 0 [AV.int IntKind.i64 n, q] 0 true, Blk.row 0 (wcells m w) 0 true])[H.length + 1]? = some (.row 0 (wcells m w) 0 true) := by simp [own_get]
    simp [go_sem]
    refine k64 hid hw hm8 (by simp; omega) ?_
    cases ho : oddS m w with
    | some t =>
      obtain ⟨a, b, c⟩ := t
      simp [go_sem]
      exact h2 m w hm hm1 hm8 he _ ho
    | none =>
      have hp := pw_le hm8
      have hp1 : 1 ≤ pw m := Nat.one_le_two_pow
      simp [go_sem, loadN hid, all_shl hm8, all_sub hm8]
      refine l20 (k0 := H.length + 2) hid hw (hself m w hm he) (by simp) (by omega) (by omega) (by omega) 8 (pw m - 1) [] [] .nils _ (by omega) (bits_len _) (by simp) (fun _ _ => rfl) Own.nil trivial (by simp) fun vs' ov' Hc' hs hlen ho' ha' => ?_
      obtain ⟨H2, f1, f2, f3, f4⟩ := ho'.frz (d := 5) (bar := bar') (by decide) (Nat.one_dvd _) ha'.plain (by omega)
      rw [show 5 + 3 = 8 from rfl] at f1
      have e3 : H2.take H.length = H := by
        apply List.ext_getElem?
        intro j
        rw [List.getElem?_take]
        by_cases hj : j < H.length
        · rw [if_pos hj, f4 j (fun hc => by have := (ho'.lt hc).1; omega), hs j (by omega), List.getElem?_append_left hj]
        · rw [if_neg hj, List.getElem?_eq_none (by omega)]
      have hv := isLL.out ha'
      simp [go_sem, f1, hv.top, e3]
      exact h3 m w hm hm1 hm8 he ho _ (by simpa using hv)

def grp (l : List ZZ) (n a : Nat) : List Nat := (List.range n).filter fun (b : Nat) => !qin l (a : Int) (b : Int)
def grpO (l : List ZZ) (n a : Nat) : Option (List Nat) := if (grp l n a).head? = some a then some (grp l n a) else none
def groupsR (l : List ZZ) (n : Nat) : List (List Nat) := (List.range n).filterMap (grpO l n)

theorem l21a {n a : Nat} {q : AV} {l : List ZZ} (hq : isP q l) (hl : l.length < 1000) (hn : n ≤ 8) {ov : AV} {k0 : Nat} (hk : H.length + 1 ≤ k0) {H0 : Heap} (hp0 : Pre H n q H0) (hbar : bar ≤ k0) (hbase : base ≤ k0) {R : PQ} :
    ∀ (k b : Nat) (g : List Nat) (gv : AV) (Hc : Heap), b + k = n → g.length ≤ b → k0 ≤ Hc.length → (∀ j, j < k0 → Hc[j]? = H0[j]?) → Own k0 1 (nats g) gv Hc →
    (∀ gv' Hc', k0 ≤ Hc'.length → (∀ j, j < k0 → Hc'[j]? = H0[j]?) → Own k0 1 (nats (g ++ (List.range' b k).filter fun (b : Nat) => !qin l (a : Int) (b : Int))) gv' Hc' →
      R (.exit 2) [(1, .ptr H.length 0 0), (5, ov), (6, .int .i64 (a : Nat)), (7, gv'), (8, .int .i64 (n : Nat)), (30, .bool false)] Hc') →
    Wp E base bar (.loop c21_l0) [(1, .ptr H.length 0 0), (5, ov), (6, .int .i64 (a : Nat)), (7, gv), (8, .int .i64 (b : Nat))] Hc R := by
  intro k
  induction k with
  | zero =>
    intro b g gv Hc hb hg hlen hs ho h
    obtain rfl : b = n := by omega
    have hp : Pre H b q Hc := ⟨by omega, fun j hj => by rw [hs j (by omega), hp0.2 j hj]⟩
    rw [wp_round c21_l0.eq_1]
    simp [go_sem, hp.n]
    exact h gv Hc hlen hs (by simpa using ho)
  | succ k ih =>
    intro b g gv Hc hb hg hlen hs ho h
    have hlt : b < n := by omega
    have hp : Pre H n q Hc := ⟨by omega, fun j hj => by rw [hs j (by omega), hp0.2 j hj]⟩
    rw [wp_round c21_l0.eq_1]
    simp only [List.range'_succ, List.filter_cons] at h
    cases hq1 : qin l (a : Int) (b : Int)
    · simp only [hq1, Bool.not_false, if_true] at h
      simp [go_sem, hp.n, hp.q, hlt, k65 hq hl, hq1, aop, fillA, setCells, chunks, AV.noVec.noVecs, AV.noVec]
      refine ho.app (bytes := 8) (xs := [.int .i64 (b : Int)]) (by omega) (by decide) (Nat.one_dvd _) (fun c hc => by simp [AV.cells] at hc; subst hc; exact Plain.int) rfl (Nat.one_dvd _) (by omega) (by omega) (by
        simp [AV.cells, nats_length]; omega) fun v2 H2 tc2 o2 k2 => ?_
      simp [go_sem, i64_suc (show b < 1000000 by omega)]
      refine ih (b + 1) (g ++ [b]) v2 H2 (by omega) (by simp; omega) (by have := k2.len; omega) (fun j hj => ?_) (by simpa [nats_append, nats_one, AV.cells] using o2) (by simpa using h)
      rw [k2.same j (by omega) (fun hc => by have := (ho.lt hc).1; omega), hs j hj]
    · simp only [hq1, Bool.not_true, Bool.false_eq_true, if_false] at h
      simp [go_sem, hp.n, hp.q, hlt, k65 hq hl, hq1, i64_suc (show b < 1000000 by omega)]
      exact ih (b + 1) g gv Hc (by omega) (by omega) hlen hs ho h

theorem l21 {n : Nat} {q : AV} {l : List ZZ} (hq : isP q l) (hl : l.length < 1000) (hn : n ≤ 8) (hself : ∀ x : Nat, x < n → qin l (x : Int) (x : Int) = false) (hbar : bar ≤ H.length) {R : PQ} :
    ∀ (k a : Nat) (acc : List (List Nat)) (vs : List AV) (ov : AV) (Hc : Heap), a + k = n → acc.length ≤ a → Pre H n q Hc → Own (H.length + 1) 1 vs ov Hc → allL vs acc →
    (∀ vs' ov' Hc', Pre H n q Hc' → Own (H.length + 1) 1 vs' ov' Hc' → allL vs' (acc ++ (List.range' a k).filterMap (grpO l n)) → R (.exit 0) [(1, .ptr H.length 0 0), (5, ov'), (6, .int .i64 (n : Nat)), (24, .bool false)] Hc') →
    Wp E H.length bar (.loop c21_l1) [(1, .ptr H.length 0 0), (5, ov), (6, .int .i64 (a : Nat))] Hc R := by
  intro k
  induction k with
  | zero =>
    intro a acc vs ov Hc ha hal hp ho hv h
    obtain rfl : a = n := by omega
    rw [wp_round c21_l1.eq_1]
    simp [go_sem, hp.n]
    exact h vs ov Hc hp ho (by simpa using hv)
  | succ k ih =>
    intro a acc vs ov Hc ha hal hp ho hv h
    have hlt : a < n := by omega
    have hpl := hp.1
    rw [wp_round c21_l1.eq_1]
    simp only [List.range'_succ, List.filterMap_cons] at h
    simp [go_sem, hp.n, hlt]
    refine l21a (k0 := Hc.length) hq hl hn (by omega) hp (by omega) (by omega) n 0 [] .nils Hc (by omega) (by simp) (Nat.le_refl _) (fun _ _ => rfl) Own.nil fun gv Hd hlen hs hg => ?_
    have hgr : ([] ++ (List.range' 0 n).filter fun (b : Nat) => !qin l (a : Int) (b : Int)) = grp l n a := by rw [grp, List.range_eq_range']; rfl
    rw [hgr] at hg
    have hmem : a ∈ grp l n a := by simp [grp, hlt, hself a hlt]
    have hp' : Pre H n q Hd := ⟨by omega, fun j hj => by rw [hs j (by omega), hp.2 j hj]⟩
    have ho' : Own (H.length + 1) 1 vs ov Hd := ho.mono fun j hj => hs j (ho.lt hj).2
    have hgO : grpO l n a = if (grp l n a).head? = some a then some (grp l n a) else none := rfl
    have hgl : (grp l n a).length ≤ 8 := Nat.le_trans (List.length_filter_le _ _) (by simp; omega)
    generalize grp l n a = g at hg hmem hgO hgl
    cases g with
    | nil => simp at hmem
    | cons x r =>
      obtain ⟨hc, _⟩ | ⟨id, ver, fz, g1, g2, g3, rfl, g5⟩ := hg
      · simp [nats] at hc
      · have hload : ∀ s, aload Hd ⟨false, s⟩ (.ptr id ver 0) = some (.int .i64 (x : Int)) := fun s => by rw [aload_ptr g5, part_one]; rfl
        have hgv : Own Hc.length 1 (nats (x :: r)) (.vec id ver 0 ((nats (x :: r)).length / 1) 1) Hd := .inr ⟨id, ver, fz, g1, g2, g3, rfl, g5⟩
        simp [go_sem, hload]
        by_cases hx : x = a
        · subst hx
          simp only [List.head?_cons, if_true] at hgO
          simp only [hgO] at h
          obtain ⟨H3, f1, f2, f3, f4⟩ := hgv.frz (d := 5) (bar := bar) (by decide) (Nat.one_dvd _) nats_plain (by omega)
          rw [show 5 + 3 = 8 from rfl] at f1
          simp at f1
          have hvg := isL.out (l := x :: r)
          generalize outL 1 (nats (x :: r)) = gl at f1 hvg
          have hpos : 0 < (nats (x :: r)).length := by simp [nats]
          simp [go_sem, hpos, aop, f1, hvg.cells, fillA, setCells, chunks]
          have hs3 : ∀ j, j < Hc.length → H3[j]? = Hc[j]? := fun j hj => by
            rw [f4 j (by intro hc; simp [idOf] at hc; omega), hs j hj]
          have ho3 : Own (H.length + 1) 1 vs ov H3 := ho.mono fun j hj => hs3 j (ho.lt hj).2
          refine ho3.app (bytes := 24) (xs := [gl]) (by omega) (by decide) (Nat.one_dvd _) (fun c hc => by simp [hvg.cells] at hc; subst hc; exact hvg.plain) (by simp [hvg.cells, AV.noVec.noVecs, hvg.noVec]) (Nat.one_dvd _) (by omega) (by omega) (by
            simp [hvg.cells, hv.length]; omega) fun v2 H4 tc2 o4 k4 => ?_
          simp [hvg.cells] at o4
          have hp4 : Pre H n q H4 := hp.next (by have := k4.len; omega) fun j hj => by
            rw [k4.same j (by omega) (fun hc => by have := (ho.lt hc).1; omega), hs3 j (by omega)]
          simp [go_sem, i64_suc (show x < 1000000 by omega)]
          refine ih (x + 1) (acc ++ [x :: r]) _ _ _ (by omega) (by simp; omega) hp4 o4 (hv.append ⟨hvg, trivial⟩) ?_
          simpa using h
        · have hpos : 0 < (nats (x :: r)).length := by simp [nats]
          have hgN : grpO l n a = none := by rw [hgO]; simp [hx]
          simp only [hgN] at h
          simp [hpos, natEq, hx, i64_suc (show a < 1000000 by omega)]
          exact ih (a + 1) acc vs ov Hd (by omega) (by omega) hp' ho' hv h

theorem k21 {n : Int} {q : AV} {l : List ZZ} (hq : isP q l) (hl : l.length < 1000) (hbar : bar ≤ H.length)
    (hself : ∀ (m : Nat) (w : Nat → Nat), n = m → openS n l = .room w → ∀ x : Nat, x < m → qin l (x : Int) (x : Int) = false)
    (h1 : ∀ e, openS n l = .err e → Q (.tup [.nils, .int .i64 e]) H)
    (h2 : ∀ (m : Nat) (w : Nat → Nat), n = m → 1 ≤ m → m ≤ 8 → openS n l = .room w → (oddR l m).isNone = false → Q (.tup [.nils, .int .i64 13]) H)
    (h3 : ∀ (m : Nat) (w : Nat → Nat), n = m → 1 ≤ m → m ≤ 8 → openS n l = .room w → (oddR l m).isNone = true → ∀ v, isLL v (groupsR l m) → Q (.tup [v, .int .i64 0]) H) :
    WpCall E pure base bar 21 [.agg [.int .i64 n, q]] H Q := by
  rw [call21]
  have hb' := bar_ok (pure := pure) hbar
  have e0 : H ++ [.row 0 [.int .i64 n, q] 0 true] = HI H n q := rfl
  simp [go_sem, WpFun, c21, hq.frz, e0, HI_h] at hb' ⊢
  generalize (if pure = true then H.length else bar) = bar' at hb' ⊢
  rw [k27 hq hl (by rw [HI_len]; omega)]
  cases ho : openS n l with
  | err e =>
    simp [go_sem, errOf, openS_err ho, HI]
    exact h1 e ho
  | room w =>
    have hr : within 1 8 n = true := by
      unfold openS at ho
      split at ho
      · assumption
      · cases ho
    simp [within] at hr
    obtain ⟨n, rfl⟩ := Int.eq_ofNat_of_zero_le (show 0 ≤ n by omega)
    simp [go_sem, errOf, HI_h]
    refine k68 (m := n) rfl ho hq hl (by rw [HI_len]; omega) ?_
    cases hodd : (oddR l n).isNone
    · simp [go_sem, HI]
      exact h2 n w rfl (by omega) (by omega) ho hodd
    · simp [go_sem]
      refine l21 hq hl (by omega) (hself n w rfl ho) hb' n 0 [] [] .nils _ (by omega) (by simp) Pre.refl Own.nil trivial fun vs' ov' Hc' hp' ho' ha' => ?_
      obtain ⟨H2, f1, f2, f3, f4⟩ := ho'.frz (d := 5) (bar := bar') (by decide) (Nat.one_dvd _) ha'.plain (by omega)
      rw [show 5 + 3 = 8 from rfl] at f1
      have e3 : H2.take H.length = H := by
        refine Eq.trans ?_ hp'.take
        apply List.ext_getElem?
        intro j
        rw [List.getElem?_take, List.getElem?_take]
        by_cases hj : j < H.length
        · rw [if_pos hj, if_pos hj, f4 j (fun hc => by have := (ho'.lt hc).1; omega)]
        · rw [if_neg hj, if_neg hj]
      have hv := isLL.out ha'
      simp [go_sem, f1, hv.top, e3]
      refine h3 n w rfl (by omega) (by omega) ho hodd _ ?_
      rw [List.nil_append, ← List.range_eq_range'] at hv
      exact hv
end Go.Proofs.Ythoogegclpiefaa.Code
end

section
namespace Go.Proofs.Ythoogegclpiefaa.Code
open Go Go.Ab

theorem findSome_congr {α β : Type} {f g : α → Option β} : ∀ {l : List α}, (∀ x ∈ l, f x = g x) → l.findSome? f = l.findSome? g
  | [], _ => rfl
  | x :: r, h => by
    rw [List.findSome?_cons, List.findSome?_cons, h x (List.mem_cons_self ..), findSome_congr fun y hy => h y (List.mem_cons_of_mem _ hy)]
theorem find_congr {α : Type} {f g : α → Bool} : ∀ {l : List α}, (∀ x ∈ l, f x = g x) → l.find? f = l.find? g
  | [], _ => rfl
  | x :: r, h => by
    rw [List.find?_cons, List.find?_cons, h x (List.mem_cons_self ..), find_congr fun y hy => h y (List.mem_cons_of_mem _ hy)]
theorem rowC_find {l : List ZZ} {a b : Nat} : ∀ {cs : List Nat}, rowC l a b cs = (cs.find? (testC l a b)).map fun c => (a, b, c)
  | [] => rfl
  | c :: r => by
    have := rowC_find (l := l) (a := a) (b := b) (cs := r)
    simp only [rowC] at this ⊢
    rw [List.findSome?_cons, List.find?_cons]
    cases testC l a b c
    · simpa using this
    · rfl
theorem find_range_cut {p : Nat → Bool} {m : Nat} : ∀ (d : Nat), (∀ c, m ≤ c → c < m + d → p c = false) → (List.range (m + d)).find? p = (List.range m).find? p
  | 0, _ => rfl
  | d + 1, h => by
    rw [← Nat.add_assoc, List.range_succ, List.find?_append, find_range_cut d fun c h1 h2 => h c h1 (by omega)]
    have : [m + d].find? p = none := by simp [h (m + d) (by omega) (by omega)]
    rw [this, Option.or_none]
theorem filter_range_cut {p : Nat → Bool} {m : Nat} : ∀ (d : Nat), (∀ c, m ≤ c → c < m + d → p c = false) → (List.range (m + d)).filter p = (List.range m).filter p
  | 0, _ => rfl
  | d + 1, h => by
    rw [← Nat.add_assoc, List.range_succ, List.filter_append, filter_range_cut d fun c h1 h2 => h c h1 (by omega)]
    have : [m + d].filter p = [] := by simp [h (m + d) (by omega) (by omega)]
    rw [this, List.append_nil]

theorem testBit_all {m i : Nat} : (pw m - 1).testBit i = decide (i < m) := by unfold pw; exact Nat.testBit_two_pow_sub_one ..

theorem agree_odd {n : Int} {m : Nat} {l : List ZZ} {w : Nat → Nat} (hm : n = m) (h : openS n l = .room w) : oddS m w = oddR l m := by
  obtain ⟨h1, h2, h3, h4, h5, h6⟩ := openS_facts hm h
  have hself : ∀ x : Nat, qin l (x : Int) (x : Int) = false := fun x => no_self h6
  unfold oddS oddR
  apply findSome_congr
  intro a ha
  have ha := List.mem_range.1 ha
  unfold oddB rowB
  apply findSome_congr
  intro b hb
  have hb := List.mem_range.1 hb
  rw [rowC_find]
  congr 1
  unfold oddC
  by_cases hc : a = b ∨ (w a).testBit b = true
  · rw [if_pos hc]
    symm
    rw [List.find?_eq_none]
    intro c hc'
    rcases hc with rfl | hc
    · simp [testC]
    · rw [h4 a b (by omega) (by omega)] at hc
      simp [testC, hc]
  · rw [if_neg hc]
    have hab : a ≠ b := fun he => hc (.inl he)
    have hq : qin l (a : Int) (b : Int) = false := by
      rw [← h4 a b (by omega) (by omega)]
      cases he : (w a).testBit b
      · rfl
      · exact absurd (.inr he) hc
    unfold bitsOf
    rw [List.head?_filter]
    obtain ⟨d, hd⟩ : ∃ d, 8 = m + d := ⟨8 - m, by omega⟩
    rw [hd, find_range_cut d (fun c hc1 hc2 => by rw [testBit_band, testBit_all]; simp; omega)]
    apply find_congr
    intro c hc'
    have hcm := List.mem_range.1 hc'
    rw [testBit_band, testBit_all, testBit_clr (h3 a), h4 a c (by omega) (by omega), h4 b c (by omega) (by omega)]
    unfold testC
    rw [hq]
    cases hac : qin l (a : Int) (c : Int)
    · simp
    · have e1 : b ≠ c := fun he => by subst he; rw [hac] at hq; cases hq
      have e2 : a ≠ c := fun he => by subst he; rw [hself] at hac; cases hac
      simp [hab, e1, e2, hcm]

theorem parted_trans {l : List ZZ} {m : Nat} (h : oddR l m = none) {a b c : Nat} (ha : a < m) (hb : b < m) (hc : c < m) (h1 : qin l (a : Int) (b : Int) = false) (h2 : qin l (b : Int) (c : Int) = false)
    (hself : ∀ x : Nat, qin l (x : Int) (x : Int) = false) : qin l (a : Int) (c : Int) = false := by
  have e1 := List.findSome?_eq_none_iff.1 h a (List.mem_range.2 ha)
  have e2 := List.findSome?_eq_none_iff.1 e1 b (List.mem_range.2 hb)
  rw [rowC_find] at e2
  have e3 := List.find?_eq_none.1 (Option.map_eq_none_iff.1 e2) c (List.mem_range.2 hc)
  by_cases hab : a = b
  · subst hab; exact h2
  by_cases hbc : b = c
  · subst hbc; exact h1
  by_cases hac : a = c
  · subst hac; exact hself a
  simp only [testC, hab, hbc, hac, h1, h2] at e3
  simp only [decide_not, Bool.not_false, Bool.and_true, decide_eq_true_eq] at e3
  have e4 : ¬ a = b → ¬ b = c → ¬ a = c → qin l (a : Int) (c : Int) = false := by simpa using e3
  exact e4 hab hbc hac

theorem groups_step {l : List ZZ} {m : Nat} {w : Nat → Nat} (hm : m ≤ 8) (hw : ∀ x, w x < 256) (ht : Tells w l) (hself : ∀ x : Nat, qin l (x : Int) (x : Int) = false) (h : oddR l m = none) :
    ∀ (k a f left : Nat), a + k = m → k ≤ f → left < 256 → (∀ x, left.testBit x = true ↔ x < m ∧ ∀ y : Nat, y < a → qin l (y : Int) (x : Int) = true) → groupsW w f left = (List.range' a k).filterMap (grpO l m)
  | 0, a, f, left, ha, hf, hl, hb => by
    obtain rfl : a = m := by omega
    have h0 : left = 0 := by
      apply Nat.eq_of_testBit_eq
      intro i
      rw [Nat.zero_testBit]
      apply Decidable.byContradiction
      intro hc
      have := (hb i).1 (by simpa using hc)
      have := this.2 i this.1
      rw [hself] at this; cases this
    subst h0
    cases f <;> simp [groupsW]
  | k + 1, a, f, left, ha, hf, hl, hb => by
    have ham : a < m := by omega
    rw [List.range'_succ, List.filterMap_cons]
    have hmem : ∀ x : Nat, x ∈ grp l m a ↔ x < m ∧ qin l (a : Int) (x : Int) = false := fun x => by simp [grp]
    cases hbit : left.testBit a
    · -- somebody before is in this group
      have : ¬ ∀ y : Nat, y < a → qin l (y : Int) (a : Int) = true := fun hc => by
        have := (hb a).2 ⟨ham, hc⟩
        rw [hbit] at this; cases this
      obtain ⟨y, hy⟩ := Classical.not_forall.1 this
      obtain ⟨hy1, hy2⟩ := Classical.not_imp.1 hy
      have hy2 : qin l (y : Int) (a : Int) = false := by simpa using hy2
      have hgo : grpO l m a = none := by
        unfold grpO
        rw [if_neg]
        intro hc
        have hy3 : y ∈ grp l m a := (hmem y).2 ⟨by omega, by rw [qin_sym]; exact hy2⟩
        have hsorted : (grp l m a).Pairwise (· < ·) := List.pairwise_lt_range.filter _
        cases hg : grp l m a with
        | nil => rw [hg] at hc; simp at hc
        | cons x r =>
          rw [hg] at hc hy3 hsorted
          simp at hc
          subst hc
          rcases List.mem_cons.1 hy3 with rfl | hy3
          · omega
          · have := (List.pairwise_cons.1 hsorted).1 y hy3
            omega
      rw [hgo]
      refine groups_step hm hw ht hself h k (a + 1) f left (by omega) (by omega) hl fun x => ?_
      rw [hb x]
      constructor
      · rintro ⟨g1, g2⟩
        refine ⟨g1, fun z hz => ?_⟩
        by_cases hza : z = a
        · subst hza
          apply Decidable.byContradiction
          intro hc
          have := parted_trans h (show y < m by omega) ham g1 hy2 (by simpa using hc) hself
          rw [g2 y hy1] at this; cases this
        · exact g2 z (by omega)
      · rintro ⟨g1, g2⟩
        exact ⟨g1, fun z hz => g2 z (by omega)⟩
    · have hfirst := (hb a).1 hbit
      have htz : tz8 left = a := by
        unfold tz8
        have : (List.range 8).find? (left.testBit ·) = some a := by
          rw [List.find?_range_eq_some]
          refine ⟨hbit, by simp; omega, fun j hj => ?_⟩
          have : ¬ left.testBit j = true := fun hc => by
            have := ((hb j).1 hc).2 j hj
            rw [hself] at this; cases this
          simpa using this
        rw [this]; rfl
      have hne : left ≠ 0 := by intro hc; subst hc; simp at hbit
      obtain ⟨f, rfl⟩ : ∃ f', f = f' + 1 := ⟨f - 1, by omega⟩
      simp only [groupsW, if_neg hne, htz]
      have hgb : ∀ x, (clr left (w a)).testBit x = true ↔ x < m ∧ qin l (a : Int) (x : Int) = false := fun x => by
        rw [testBit_clr hl, Bool.and_eq_true, hb x]
        constructor
        · rintro ⟨⟨g1, g2⟩, g3⟩
          rw [ht a x (by omega) (by omega)] at g3
          exact ⟨g1, by simpa using g3⟩
        · rintro ⟨g1, g2⟩
          refine ⟨⟨g1, fun y hy => ?_⟩, by rw [ht a x (by omega) (by omega), g2]; rfl⟩
          apply Decidable.byContradiction
          intro hc
          have := parted_trans h (show y < m by omega) g1 ham (by simpa using hc) (by rw [qin_sym]; exact g2) hself
          rw [hfirst.2 y hy] at this; cases this
      have hgl : bitsOf (clr left (w a)) = grp l m a := by
        unfold bitsOf grp
        obtain ⟨d, hd⟩ : ∃ d, 8 = m + d := ⟨8 - m, by omega⟩
        rw [hd, filter_range_cut d (fun c hc1 hc2 => by
          apply Decidable.byContradiction
          intro hc
          have := ((hgb c).1 (by simpa using hc)).1
          omega)]
        apply List.filter_congr
        intro x hx
        have hx := List.mem_range.1 hx
        rw [Bool.eq_iff_iff, hgb x]
        simp [hx]
      have hgo : grpO l m a = some (grp l m a) := by
        unfold grpO
        rw [if_pos]
        unfold grp
        rw [List.head?_filter, List.find?_range_eq_some]
        refine ⟨by simp [hself a], by simpa using ham, fun j hj => ?_⟩
        have := hfirst.2 j hj
        rw [qin_sym] at this
        simp [this]
      rw [hgl, hgo]
      congr 1
      refine groups_step hm hw ht hself h k (a + 1) f _ (by omega) (by omega) (clr_lt hl) fun x => ?_
      rw [testBit_clr hl, Bool.and_eq_true, hb x]
      constructor
      · rintro ⟨⟨g1, g2⟩, g3⟩
        refine ⟨g1, fun y hy => ?_⟩
        by_cases hya : y = a
        · subst hya
          apply Decidable.byContradiction
          intro hc
          have := (hgb x).2 ⟨g1, by simpa using hc⟩
          rw [this] at g3; cases g3
        · exact g2 y (by omega)
      · rintro ⟨g1, g2⟩
        refine ⟨⟨g1, fun y hy => g2 y (by omega)⟩, ?_⟩
        have := g2 a (by omega)
        cases hc : (clr left (w a)).testBit x
        · rfl
        · have := ((hgb x).1 hc).2
          rw [g2 a (by omega)] at this; cases this

theorem agree_groups {n : Int} {m : Nat} {l : List ZZ} {w : Nat → Nat} (hm : n = m) (h : openS n l = .room w) (ho : oddR l m = none) : groupsW w 8 (pw m - 1) = groupsR l m := by
  obtain ⟨h1, h2, h3, h4, h5, h6⟩ := openS_facts hm h
  have hp := pw_le h1
  have hp1 : 1 ≤ pw m := Nat.one_le_two_pow
  have := groups_step h1 h3 h4 (fun x => no_self h6) ho m 0 8 (pw m - 1) (by omega) h1 (by omega) fun x => by rw [testBit_all]; simp
  rw [this, groupsR, List.range_eq_range']
end Go.Proofs.Ythoogegclpiefaa.Code
end

section
namespace Go.Proofs.Ythoogegclpiefaa.Code
open Go Go.Ab
variable {pure : Bool} {base bar : Nat} {H : Heap} {Q : AV → Heap → Prop}

theorem groupsR_small {l : List ZZ} {m : Nat} (hm : m ≤ 8) : (groupsR l m).length ≤ 8 ∧ ∀ x ∈ groupsR l m, x.length ≤ 8 := by
  refine ⟨Nat.le_trans (List.length_filterMap_le _ _) (by simpa using hm), fun x hx => ?_⟩
  obtain ⟨a, _, h⟩ := List.mem_filterMap.1 hx
  unfold grpO at h
  split at h
  · cases h
    exact Nat.le_trans (List.length_filter_le _ _) (by simpa using hm)
  · cases h

theorem law3 {n : Int} {q : AV} {l : List ZZ} (hq : isP q l) :
    WpCall E false 0 0 3 [.agg [.int .i64 n, q]] [] (fun v _ => v = .bool true) := by
  rw [call3]
  have e0 : aload [Blk.row 0 [AV.int IntKind.i64 n, q] 0 true] ⟨true, 2⟩ (.ptr 0 0 0) = some (.agg [.int .i64 n, q]) := rfl
  simp [go_sem, WpFun, c3, hq.frz, e0, k14 hq]
  by_cases hl : 80 < l.length
  · simp [go_sem, hl, call15]
  · simp [go_sem, hl, e0, storeWp, astore, hq.top]
    have hl2 : l.length < 1000 := by omega
    have e1 : aload [Blk.row 0 [AV.int IntKind.i64 n, q] 0 true, Blk.row 0 [AV.int IntKind.i64 n, q] 0 true] ⟨true, 2⟩ (.ptr 0 0 0) = some (.agg [.int .i64 n, q]) := rfl
    have e2 : aload [Blk.row 0 [AV.int IntKind.i64 n, q] 0 true, Blk.row 0 [AV.int IntKind.i64 n, q] 0 true] ⟨true, 2⟩ (.ptr 1 0 0) = some (.agg [.int .i64 n, q]) := rfl
    have hself : ∀ (m : Nat) (w : Nat → Nat), n = m → openS n l = .room w → ∀ x, x < 8 → (w x).testBit x = false := fun m w hm ho x hx => by
      obtain ⟨_, _, _, g4, _, g6⟩ := openS_facts hm ho
      rw [g4 x x hx hx]; exact no_self g6
    have hself2 : ∀ (m : Nat) (w : Nat → Nat), n = m → openS n l = .room w → ∀ x : Nat, x < m → qin l (x : Int) (x : Int) = false := fun m w hm ho x hx => by
      obtain ⟨_, _, _, _, _, g6⟩ := openS_facts hm ho
      exact no_self g6
    simp [go_sem, e1, e2]
    cases ho : openS n l with
    | err e =>
      refine k16 hq hl2 (by simp) (fun e' he => ?_) (fun m w _ _ _ _ he => by rw [ho] at he; cases he)
      rw [ho] at he; cases he
      simp [go_sem, e1, e2]
      refine k17 hq hl2 (fun m _ => rooms_exist) (by simp) (fun e' he => ?_) (fun m w _ _ _ he => by rw [ho] at he; cases he)
      rw [ho] at he; cases he
      simp [go_sem, e1, e2]
      refine k18 hq hl2 (by simp) (fun e' he => ?_) (fun m w _ _ _ _ he => by rw [ho] at he; cases he) (fun m w _ _ _ _ he => by rw [ho] at he; cases he)
      rw [ho] at he; cases he
      simp [go_sem, e1, e2]
      refine k19 hq hl2 (by simp) (fun e' he => ?_) (fun m w _ _ _ he => by rw [ho] at he; cases he) (fun m w _ _ _ he => by rw [ho] at he; cases he)
      rw [ho] at he; cases he
      simp [go_sem, e1, e2]
      refine k20 hq hl2 (by simp) hself (fun e' he => ?_) (fun m w _ _ _ he => by rw [ho] at he; cases he) (fun m w _ _ _ he => by rw [ho] at he; cases he)
      rw [ho] at he; cases he
      simp [go_sem, e1, e2]
      refine k21 hq hl2 (by simp) hself2 (fun e' he => ?_) (fun m w _ _ _ he => by rw [ho] at he; cases he) (fun m w _ _ _ he => by rw [ho] at he; cases he)
      rw [ho] at he; cases he
      simp [go_sem, e1, e2]
      refine k22 isL.nil isL.nil (by simp) (by simp) ?_
      simp [go_sem, e1, e2]
      refine k23 (x := []) (y := []) (.inl ⟨rfl, rfl⟩) (.inl ⟨rfl, rfl⟩) (by simp) (by simp) (by simp) ?_
      simp [go_sem, e1, e2, call15]
    | room w0 =>
      refine k16 hq hl2 (by simp) (fun e' he => by rw [ho] at he; cases he) (fun m w hm h1 h8 hw he va hva => ?_)
      have he0 := he
      rw [ho] at he
      cases he
      obtain ⟨g1, g2, g3, g4, g5, g6⟩ := openS_facts hm ho
      simp [go_sem, e1, e2]
      refine k17 hq hl2 (fun m _ => rooms_exist) (by simp) (fun e' he => by rw [ho] at he; cases he) (fun m' w' hm' _ _ he' mm vb b hb1 hb2 hvb hb3 hb4 => ?_)
      obtain rfl : m = m' := by omega
      have hag := agree_rooms h8 g4 hb1 hb2 hb3 hb4
      rw [hag] at hva
      have hbl := roomsF_len hb3
      simp at hbl
      simp [go_sem, e1, e2]
      have hodd := agree_odd hm ho
      cases hoo : oddR l m with
      | none =>
        rw [hoo] at hodd
        refine k18 hq hl2 (by simp) (fun e' he => by rw [ho] at he; cases he) (fun m' w' hm' _ _ _ he' hn => ?_) (fun m' w' hm' _ _ _ he' a b c hn => ?_)
        · simp [go_sem, e1, e2]
          refine k19 hq hl2 (by simp) (fun e' he => by rw [ho] at he; cases he) (fun m' w' hm' _ _ he' hn => ?_) (fun m' w' hm' _ _ he' a b c hn => ?_)
          · simp [go_sem, e1, e2]
            refine k20 hq hl2 (by simp) hself (fun e' he => by rw [ho] at he; cases he) (fun m' w' hm' _ _ he' t hn => ?_) (fun m2 w2 hm2 _ _ he2 _ vc hvc => ?_)
            · rw [ho] at he'; cases he'
              obtain rfl : m = m' := by omega
              rw [hodd] at hn; cases hn
            · rw [ho] at he2; cases he2
              obtain rfl : m = m2 := by omega
              simp [go_sem, e1, e2]
              refine k21 hq hl2 (by simp) hself2 (fun e' he => by rw [ho] at he; cases he) (fun m' w' hm' _ _ he' hn => ?_) (fun m3 w3 hm3 _ _ he3 _ vd hvd => ?_)
              · obtain rfl : m = m' := by omega
                rw [hoo] at hn; cases hn
              · obtain rfl : m = m3 := by omega
                rw [agree_groups hm ho hoo] at hvc
                obtain ⟨s1, s2⟩ := groupsR_small (l := l) h8
                simp [go_sem, e1, e2]
                refine k22 hva hvb (by omega) (by omega) ?_
                simp [go_sem, e1, e2, hva.noVec, hvb.noVec]
                refine k23 hvc hvd (by omega) (fun x hx => by have := s2 x hx; omega) (fun x hx => by have := s2 x hx; omega) ?_
                simp [go_sem, e1, e2, call15]
          · obtain rfl : m = m' := by omega
            rw [hoo] at hn; cases hn
        · rw [ho] at he'; cases he'
          obtain rfl : m = m' := by omega
          rw [hodd] at hn; cases hn
      | some t =>
        obtain ⟨a, b', c⟩ := t
        rw [hoo] at hodd
        refine k18 hq hl2 (by simp) (fun e' he => by rw [ho] at he; cases he) (fun m' w' hm' _ _ _ he' hn => ?_) (fun m' w' hm' _ _ _ he' a1 b1 c1 hn => ?_)
        · rw [ho] at he'; cases he'
          obtain rfl : m = m' := by omega
          rw [hodd] at hn; cases hn
        · rw [ho] at he'; cases he'
          obtain rfl : m = m' := by omega
          rw [hodd] at hn; cases hn
          simp [go_sem, e1, e2]
          refine k19 hq hl2 (by simp) (fun e' he => by rw [ho] at he; cases he) (fun m' w' hm' _ _ he' hn => ?_) (fun m' w' hm' _ _ he' a1 b1 c1 hn => ?_)
          · obtain rfl : m = m' := by omega
            rw [hoo] at hn; cases hn
          · obtain rfl : m = m' := by omega
            rw [hoo] at hn; cases hn
            simp [go_sem, e1, e2]
            refine k20 hq hl2 (by simp) hself (fun e' he => by rw [ho] at he; cases he) (fun m' w' hm' _ _ he' t hn => ?_) (fun m2 w2 hm2 _ _ he2 hn vc hvc => ?_)
            · simp [go_sem, e1, e2]
              refine k21 hq hl2 (by simp) hself2 (fun e' he => by rw [ho] at he; cases he) (fun m' w' hm' _ _ he' hn => ?_) (fun m3 w3 hm3 _ _ he3 hn vd hvd => ?_)
              · simp [go_sem, e1, e2]
                refine k22 hva hvb (by omega) (by omega) ?_
                simp [go_sem, e1, e2, hva.noVec, hvb.noVec]
                refine k23 (x := []) (y := []) (.inl ⟨rfl, rfl⟩) (.inl ⟨rfl, rfl⟩) (by simp) (by simp) (by simp) ?_
                simp [go_sem, e1, e2, call15]
              · obtain rfl : m = m3 := by omega
                rw [hoo] at hn; cases hn
            · rw [ho] at he2; cases he2
              obtain rfl : m = m2 := by omega
              rw [hodd] at hn; cases hn

theorem rooms_true {n : Int} {q : AV} {l : List ZZ} (hq : isP q l) : ∃ f H', acall E f 3 [.agg [.int .i64 n, q]] [] = some (.bool true, H') := by
  obtain ⟨f, v, H', h1, rfl⟩ := law3 (n := n) hq
  exact ⟨f, H', h1⟩
end Go.Proofs.Ythoogegclpiefaa.Code
end
