/-
  Part of the proved evaluator, or answers that it computed.
-/
import Derived.Test.YtihdlpeghlhnoaaGreatDoorAbOps
set_option linter.all false
namespace Go.Ab
variable {P : Program}

theorem setCells_length : ∀ (vs cs : List AV) (off : Nat), (setCells cs off vs).length = cs.length
  | [], _, _ => rfl
  | v :: r, cs, off => by simp [setCells, setCells_length r]

theorem setCells_get : ∀ (vs cs : List AV) (off i : Nat), off + vs.length ≤ cs.length →
    (setCells cs off vs)[i]? = if off ≤ i ∧ i < off + vs.length then vs[i - off]? else cs[i]?
  | [], cs, off, i, _ => by
    rw [if_neg (by simp only [List.length_nil]; omega), setCells]
  | v :: r, cs, off, i, hl => by
    simp only [List.length_cons] at hl
    rw [setCells, setCells_get r _ _ _ (by simp; omega)]
    by_cases h1 : i = off
    · subst h1
      have h2 : ¬ (i + 1 ≤ i ∧ i < i + 1 + r.length) := by omega
      have h3 : i ≤ i ∧ i < i + (v :: r).length := by simp
      rw [if_neg h2, if_pos h3]
      simp [show i < cs.length by omega]
    · by_cases h2 : off + 1 ≤ i ∧ i < off + 1 + r.length
      · have h3 : off ≤ i ∧ i < off + (v :: r).length := by simp; omega
        rw [if_pos h2, if_pos h3]
        have : i - off = (i - (off + 1)) + 1 := by omega
        rw [this]; simp
      · have h3 : ¬ (off ≤ i ∧ i < off + (v :: r).length) := by simp; omega
        rw [if_neg h2, if_neg h3, List.getElem?_set_ne (by omega)]

theorem tops_set : ∀ (cs : List AV) (i : Nat) (v : AV), AV.top.tops (cs.set i v) ≤ max (AV.top.tops cs) v.top
  | [], _, _ => by simp [AV.top.tops]
  | c :: r, 0, v => by simp [AV.top.tops]; omega
  | c :: r, i + 1, v => by
    have := tops_set r i v
    simp only [List.set_cons_succ, AV.top.tops]; omega

theorem tops_setCells : ∀ (vs cs : List AV) (off : Nat), AV.top.tops (setCells cs off vs) ≤ max (AV.top.tops cs) (AV.top.tops vs)
  | [], _, _ => by simp [setCells, AV.top.tops]
  | v :: r, cs, off => by
    have h1 := tops_setCells r (cs.set off v) (off + 1)
    have h2 := tops_set cs off v
    simp only [setCells, AV.top.tops]; omega

theorem setRow_set {w : World} {g : Nat} {c c' : Array Value} {t : TypeId} {fr : Nat × Nat} (h : w.heap[g]? = some (.cells c t fr)) : (w.setRow g c').heap = w.heap.setIfInBounds g (.cells c' t fr) := by
  obtain ⟨hlt, hv⟩ := Array.getElem?_eq_some_iff.1 h
  apply Array.ext
  · simp [World.setRow]
  · intro i h1 h2
    have h2' : i < w.heap.size := by simpa using h2
    rw [Array.getElem_setIfInBounds h2']
    simp only [World.setRow, Array.getElem_modify]
    by_cases hi : g = i
    · subst hi
      simp only [if_true, hv]
    · simp [hi]

/-- cells laid over a row -/
theorem seg_get (l us : List Value) (k i : Nat) (hl : k + us.length ≤ l.length) :
    (l.take k ++ us ++ l.drop (k + us.length))[i]? = if k ≤ i ∧ i < k + us.length then us[i - k]? else l[i]? := by
  have hk : (l.take k).length = k := by simp; omega
  by_cases h1 : i < k
  · rw [if_neg (by omega), List.append_assoc, List.getElem?_append_left (by omega), List.getElem?_take, if_pos h1]
  · by_cases h2 : i < k + us.length
    · rw [if_pos ⟨by omega, h2⟩, List.append_assoc, List.getElem?_append_right (by omega), hk, List.getElem?_append_left (by omega)]
    · rw [if_neg (by omega), List.getElem?_append_right (by simp; omega), List.getElem?_drop]
      congr 1
      simp; omega

/-- a write of cells into a block -/
theorem write_good {base bar : Nat} {Γ : Ctx} {H : Heap} (s : Sim Γ H) {id ver fz off : Nat} {ex : Bool} {cs vs : List AV} {us : List Value} (hid : H[id]? = some (.row ver cs fz ex))
    (hvs : VRs Γ vs us) (h1 : ∀ c ∈ vs, c.one = true) (hfz : fz ≤ off) (hle : off + vs.length ≤ cs.length) (hbar : bar ≤ id) (htop : base ≤ id ∨ AV.top.tops vs ≤ id + 1)
    {c : Array Value} {t : TypeId} (e3 : Γ.w.heap[Γ.ρ id]? = some (.cells c t (0, 0))) :
    Good base bar [id] Γ { Γ with w := Γ.w.setRow (Γ.ρ id) (c.toList.take (Γ.δ id + off) ++ us ++ c.toList.drop (Γ.δ id + off + us.length)).toArray } H (H.set id (.row ver (setCells cs off vs) fz ex)) := by
  obtain ⟨ver1, cs1, fz1, ex1, e1, e2, c', t', e3', e4, e5, e6, e7, e8⟩ := s.row id _ hid
  simp only [Blk.row.injEq] at e1
  obtain ⟨rfl, rfl, rfl, rfl⟩ := e1
  rw [e3] at e3'
  simp only [Option.some.injEq, Obj.cells.injEq] at e3'
  obtain ⟨rfl, rfl, _⟩ := e3'
  refine Good.set (c := c) (t := t) s hid e3 (setRow_set e3) rfl rfl rfl (setCells_length _ _ _) (by simp [← hvs.1]; omega) (fun i hi => ?_) hbar ?_ (fun i x hx => ?_)
  · have := seg_get c.toList us (Γ.δ id + off) i (by simp [← hvs.1]; omega)
    simp only [List.getElem?_toArray]
    rw [this, if_neg (by omega)]; simp
  · have := tops_setCells vs cs off
    rcases htop with h | h
    · exact .inl h
    · right; omega
  · rw [setCells_get _ _ _ _ hle] at hx
    have hseg := seg_get c.toList us (Γ.δ id + off) (Γ.δ id + i) (by simp [← hvs.1]; omega)
    simp only [List.getElem?_toArray]
    rw [hseg]
    by_cases hc : off ≤ i ∧ i < off + vs.length
    · rw [if_pos hc] at hx
      rw [if_pos (by rw [← hvs.1]; omega), show Γ.δ id + i - (Γ.δ id + off) = i - off by omega]
      obtain ⟨v, h2, h3⟩ := hvs.get hx
      exact ⟨h1 x (List.mem_of_getElem? hx), v, h2, h3⟩
    · rw [if_neg hc] at hx
      rw [if_neg (by rw [← hvs.1]; omega)]
      obtain ⟨h2, v, h3, h4⟩ := e7 i x hx
      exact ⟨h2, v, by simpa using h3, h4⟩

theorem ones_of {Γ : Ctx} {vs : List AV} {us : List Value} (hvs : VRs Γ vs us) (h1 : ∀ c ∈ vs, c.one = true) : ∀ u ∈ us, u.oneCell' = true := fun u hu => by
  obtain ⟨i, hi, rfl⟩ := List.getElem_of_mem hu
  have hi' : i < vs.length := by rw [hvs.1]; exact hi
  exact oneCell_of (hvs.2 i _ _ (List.getElem?_eq_getElem hi') (List.getElem?_eq_getElem hi)) (h1 _ (List.getElem_mem hi'))

theorem write_sound {base bar : Nat} {Γ : Ctx} {H : Heap} (s : Sim Γ H) {id ver fz off : Nat} {ex : Bool} {cs vs : List AV} {us : List Value} (hid : H[id]? = some (.row ver cs fz ex))
    (hvs : VRs Γ vs us) (h1 : ∀ c ∈ vs, c.one = true) (hfz : fz ≤ off) (hle : off + vs.length ≤ cs.length) (hbar : bar ≤ id) (htop : base ≤ id ∨ AV.top.tops vs ≤ id + 1) :
    ∃ w', (storeCells ⟨Γ.ρ id, Γ.δ id + off, none⟩ us).run P Γ.w = .ok () w' ∧ Good base bar [id] Γ { Γ with w := w' } H (H.set id (.row ver (setCells cs off vs) fz ex)) := by
  obtain ⟨ver1, cs1, fz1, ex1, e1, e2, c, t, e3, e4, e5, e6, e7, e8⟩ := s.row id _ hid
  have hcl : Γ.δ id + cs.length ≤ c.size := by
    simp only [Blk.row.injEq] at e1
    obtain ⟨rfl, rfl, rfl, rfl⟩ := e1
    exact e5
  have hst := run_storeCells_at P (Γ.ρ id) (Γ.δ id + off) t us 0 c Γ.w e3 (by rw [← hvs.1]; omega) (ones_of hvs h1)
  simp only [Nat.add_zero] at hst
  exact ⟨_, hst, write_good s hid hvs h1 hfz hle hbar htop e3⟩

theorem notTup_iff {v : AV} (h : v.isTup = false) : ∀ l, v ≠ .tup l := by
  intro l e; subst e; simp [AV.isTup] at h

theorem astore_sound {base bar : Nat} {Γ : Ctx} {H H' : Heap} (s : Sim Γ H) {t : TypeId} {size i : Nat} {p v : AV} {pu vu : Value} (ht : sizeT P t = some size) (hp : VR Γ p pu) (hv : VR Γ v vu)
    (hnt : ∀ l, v ≠ .tup l) (h : astore base bar H size p v = some (H', i)) :
    ∃ w', (Instr.storeAt t pu vu).run P Γ.w = .ok () w' ∧ Good base bar [i] Γ { Γ with w := w' } H H' := by
  cases hp with
  | ptr id ver off a hn hle ha =>
    simp only [astore] at h
    split at h
    · rename_i ver' cs fz ex hid
      split at h
      · rename_i hc
        obtain ⟨rfl, hsz, hfz, hlen, hbar, htop⟩ := hc
        simp only [Option.some.injEq, Prod.mk.injEq] at h
        obtain ⟨rfl, rfl⟩ := h
        obtain ⟨ver1, cs1, fz1, ex1, e1, e2, _⟩ := s.row id _ hid
        simp only [Blk.row.injEq] at e1
        obtain ⟨rfl, _⟩ := e1
        obtain ⟨hvs, h1⟩ := hv.cells hnt
        obtain ⟨w', hw, g⟩ := write_sound (P := P) (base := base) (bar := bar) s hid hvs h1 hfz (by rw [hsz]; exact hlen) hbar htop
        rw [ha e2]
        refine ⟨w', ?_, g⟩
        have hs : vu.cells.size = size := by rw [← hsz, hvs.1]; simp
        simp [Instr.storeAt, Instr.sureAddr, storeVar, run_size ht, hs, hw]
      · cases h
    · cases h
  | _ => simp [astore] at h

theorem alloc_sound {base bar : Nat} {Γ : Ctx} {H : Heap} (s : Sim Γ H) (hbase : base ≤ H.length) (hbar : bar ≤ H.length) {t : TypeId} {x : AV} {u : Value} (hx : VR Γ x u) (hnt : ∀ l, x ≠ .tup l) :
    ∃ Δ a, (newVar t u).run P Γ.w = .ok a Δ.w ∧ VR Δ (.ptr H.length 0 0) (.pointer (some a)) ∧ Good base bar [] Γ Δ H (H ++ [.row 0 x.cells 0 true]) := by
  obtain ⟨hvs, h1⟩ := hx.cells hnt
  have g := Good.push (base := base) (bar := bar) (w' := Γ.w.alloc (.cells u.cells t)) (cs := x.cells) (c := u.cells) (t := t) (ex := true) s hbase hbar rfl rfl rfl rfl (by rw [hvs.1]; simp) (fun _ => by rw [hvs.1]; simp)
    (fun i c hc => by
      obtain ⟨v, h2, h3⟩ := hvs.get hc
      exact ⟨h1 c (List.mem_of_getElem? hc), v, by simpa using h2, h3⟩)
  refine ⟨_, ⟨Γ.w.heap.size, 0, none⟩, rfl, ?_, g⟩
  refine .ptr _ _ _ _ (by simp [Ctx.push, s.n]) (by simp) (fun _ => by simp [Ctx.push, Ctx.δ, s.n])

end Go.Ab
