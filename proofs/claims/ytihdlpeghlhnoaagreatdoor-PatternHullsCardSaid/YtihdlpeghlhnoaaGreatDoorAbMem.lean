/-
  Part of the proved evaluator, or answers that it computed.
-/
import Derived.Test.YtihdlpeghlhnoaaGreatDoorAbSim
set_option linter.all false
namespace Go.Ab

/-- the blocks below k name no block from k on -/
def WF (k : Nat) (H : Heap) : Prop := ∀ (i : Nat) (b : Blk), i < k → H[i]? = some b → b.top ≤ k

structure Good (base bar : Nat) (tc : List Nat) (Γ Δ : Ctx) (H H' : Heap) : Prop where
  sim : Sim Δ H'
  evo : Evo Γ Δ
  wf : ∀ k, k ≤ base → WF k H → WF k H'
  bar : ∀ i, i < bar → H'[i]? = H[i]?
  tc : ∀ i, i < H.length → i ∉ tc → H'[i]? = H[i]?
  len : H.length ≤ H'.length

theorem Good.refl {base bar : Nat} {tc : List Nat} {Γ : Ctx} {H : Heap} (s : Sim Γ H) : Good base bar tc Γ Γ H H :=
  ⟨s, Evo.refl Γ, fun _ _ h => h, fun _ _ => rfl, fun _ _ _ => rfl, Nat.le_refl _⟩

theorem Good.trans {base bar : Nat} {tc tc' : List Nat} {Γ Δ Θ : Ctx} {H H' H'' : Heap} (h : Good base bar tc Γ Δ H H') (k : Good base bar tc' Δ Θ H' H'') : Good base bar (tc ++ tc') Γ Θ H H'' :=
  ⟨k.sim, h.evo.trans k.evo, fun i hi hw => k.wf i hi (h.wf i hi hw), fun i hi => (k.bar i hi).trans (h.bar i hi),
    fun i hi hn => (k.tc i (Nat.lt_of_lt_of_le hi h.len) (fun hc => hn (by simp [hc]))).trans (h.tc i hi (fun hc => hn (by simp [hc]))), Nat.le_trans h.len k.len⟩

theorem Good.any {base bar : Nat} {tc tc' : List Nat} {Γ Δ : Ctx} {H H' : Heap} (h : Good base bar tc Γ Δ H H') (hs : ∀ i ∈ tc, i < H.length → i ∈ tc') : Good base bar tc' Γ Δ H H' :=
  ⟨h.sim, h.evo, h.wf, h.bar, fun i hi hn => h.tc i hi (fun hc => hn (hs i hc hi)), h.len⟩

theorem Good.all {base bar : Nat} {tc : List Nat} {Γ Δ : Ctx} {H H' : Heap} (h : Good base bar tc Γ Δ H H') : Good base bar (List.range H.length) Γ Δ H H' :=
  h.any fun i _ hi => by simpa using hi

theorem Sim.lt {Γ : Ctx} {H : Heap} (s : Sim Γ H) {id : Nat} (hi : id < H.length) : Γ.ρ id < Γ.w.heap.size := by
  have h := s.blk id _ (List.getElem?_eq_getElem hi)
  cases hb : H[id] with
  | row ver cs fz ex =>
    rw [hb] at h
    obtain ⟨_, c, t, h, _⟩ := h
    exact (Array.getElem?_eq_some_iff.1 h).1
  | map es =>
    rw [hb] at h
    obtain ⟨_, c, t, h, _⟩ := h
    exact (Array.getElem?_eq_some_iff.1 h).1

theorem cell_iff {w : World} {b o : Nat} {c : Array Value} {t : TypeId} {fr : Nat × Nat} (h : w.heap[b]? = some (.cells c t fr)) : w.cell? ⟨b, o, none⟩ = c[o]? := by
  simp [World.cell?, h]

/-! ## a draw -/
theorem Good.drew {base bar : Nat} {Γ : Ctx} {H : Heap} {w' : World} (s : Sim Γ H) (hh : w'.heap = Γ.w.heap) (ho : w'.os = Γ.w.os) (ht : w'.tape = Γ.w.tape) (hu : w'.output = Γ.w.output) :
    Good base bar [] Γ { Γ with w := w' } H H := by
  have e : Evo Γ { Γ with w := w' } := ⟨Nat.le_refl _, fun _ _ => Nat.le_refl _, fun _ _ _ => ⟨rfl, rfl⟩, fun i hi => .inl ⟨hi, rfl⟩, fun b o h => ⟨h, by simp [World.cell?, hh]⟩, fun _ _ h => .inl h,
    fun b _ _ => by simp [hh], by simp [hh], ho, ht, hu⟩
  refine ⟨⟨s.n, fun id b hb => ?_, s.inj, fun b o h => by simpa [hh] using s.imm b o h, s.glob.mono e⟩, e, fun _ _ h => h, fun _ _ => rfl, fun _ _ _ => rfl, Nat.le_refl _⟩
  exact (s.blk id b hb).mono e rfl rfl (by simp [hh]) (fun _ h => h)

/-! ## a new block -/
def Ctx.push (Γ : Ctx) (w' : World) (sz : Nat × Nat) : Ctx :=
  { w := w', n := Γ.n + 1, ρ := fun i => if i = Γ.n then Γ.w.heap.size else Γ.ρ i, ver := fun i => if i = Γ.n then 0 else Γ.ver i,
    bsz := fun i => if i = Γ.n then sz else Γ.bsz i, I := Γ.I }

theorem Evo.push {Γ : Ctx} {w' : World} {o : Obj} {sz : Nat × Nat} (himm : ∀ b o, Γ.I b o → b < Γ.w.heap.size)
    (hh : w'.heap = Γ.w.heap.push o) (ho : w'.os = Γ.w.os) (ht : w'.tape = Γ.w.tape) (hu : w'.output = Γ.w.output) : Evo Γ (Γ.push w' sz) where
  n := by simp [Ctx.push]
  ver i hi := by simp [Ctx.push, Nat.ne_of_lt hi]
  same i hi _ := by simp [Ctx.push, Nat.ne_of_lt hi]
  ρ i hi := by
    simp only [Ctx.push] at hi ⊢
    by_cases h : i = Γ.n
    · right; simp [h]
    · left; exact ⟨by omega, by simp [h]⟩
  I b o h := ⟨h, by
    have := himm b o h
    simp only [Ctx.push, World.cell?, hh]
    rw [Array.getElem?_push_lt this, Array.getElem?_eq_getElem this]⟩
  newI b o h := .inl h
  frame b hb _ := by
    simp only [Ctx.push, hh]
    rw [Array.getElem?_push_lt hb, Array.getElem?_eq_getElem hb]
  size := by simp [Ctx.push, hh]
  os := ho
  tape := ht
  output := hu

theorem Good.pushB {base bar : Nat} {Γ : Ctx} {H : Heap} {w' : World} {nb : Blk} {ob : Obj} {sz : Nat × Nat} (s : Sim Γ H) (hbase : base ≤ H.length) (hbar : bar ≤ H.length)
    (hh : w'.heap = Γ.w.heap.push ob) (ho : w'.os = Γ.w.os) (ht : w'.tape = Γ.w.tape) (hu : w'.output = Γ.w.output)
    (hnb : Evo Γ (Γ.push w' sz) → BlkOK (Γ.push w' sz) H.length nb) :
    Good base bar [] Γ (Γ.push w' sz) H (H ++ [nb]) := by
  have e := Evo.push (sz := sz) s.imm hh ho ht hu
  have hn := s.n
  refine ⟨⟨by simp [Ctx.push, hn], fun id b hb => ?_, fun i j hi hj hij => ?_, fun b o h => ?_, s.glob.mono e⟩, e, fun k hk hw i b hi hb => ?_, fun i hi => ?_, fun i hi _ => ?_, by simp⟩
  · rcases Nat.lt_or_ge id H.length with hlt | hge
    · rw [List.getElem?_append_left hlt] at hb
      have hne : id ≠ Γ.n := by omega
      refine (s.blk id b hb).mono e (by simp [Ctx.push, hne]) (by simp [Ctx.push, hne]) ?_ (by simp [Ctx.push, hne])
      have hl := s.lt hlt
      simp only [Ctx.push, hne, if_false, hh]
      rw [Array.getElem?_push_lt hl, ← Array.getElem?_eq_getElem hl]
    · rw [List.getElem?_append_right hge] at hb
      have hid : id = H.length := by
        have : id - H.length < [nb].length := (List.getElem?_eq_some_iff.1 hb).1
        simp at this; omega
      subst hid
      simp at hb
      subst hb
      exact hnb e
  · simp at hi hj
    simp only [Ctx.push] at hij
    by_cases h1 : i = Γ.n <;> by_cases h2 : j = Γ.n
    · omega
    · simp only [h1, h2, if_true, if_false] at hij
      have := s.lt (id := j) (by omega)
      omega
    · simp only [h1, h2, if_true, if_false] at hij
      have := s.lt (id := i) (by omega)
      omega
    · simp only [h1, h2, if_false] at hij
      exact s.inj i j (by omega) (by omega) hij
  · have := s.imm b o h
    simp [Ctx.push, hh]; omega
  · rw [List.getElem?_append_left (by omega)] at hb
    exact hw i b hi hb
  · rw [List.getElem?_append_left (by omega)]
  · rw [List.getElem?_append_left hi]

theorem Good.push {base bar : Nat} {Γ : Ctx} {H : Heap} {w' : World} {cs : List AV} {c : Array Value} {t : TypeId} {ex : Bool} (s : Sim Γ H) (hbase : base ≤ H.length) (hbar : bar ≤ H.length)
    (hh : w'.heap = Γ.w.heap.push (.cells c t (0, 0))) (ho : w'.os = Γ.w.os) (ht : w'.tape = Γ.w.tape) (hu : w'.output = Γ.w.output)
    (hle : cs.length ≤ c.size) (hex : ex = true → cs.length = c.size) (hv : ∀ (i : Nat) (x : AV), cs[i]? = some x → x.one = true ∧ ∃ v, c[i]? = some v ∧ VR Γ x v) :
    Good base bar [] Γ (Γ.push w' (c.size, 0)) H (H ++ [.row 0 cs 0 ex]) := by
  refine Good.pushB s hbase hbar hh ho ht hu fun e => ?_
  have hn := s.n
  have hd : (Γ.push w' (c.size, 0)).δ H.length = 0 := by simp [Ctx.δ, Ctx.push, hn]
  refine ⟨by simp [Ctx.push, hn], c, t, by simp [Ctx.push, hn, hh], by simp [Ctx.push, hn], by rw [hd, Nat.zero_add]; exact hle, by rw [hd, Nat.zero_add]; exact hex, fun i x hx => ?_, fun o _ hI => ?_⟩
  · rw [hd, Nat.zero_add]
    obtain ⟨h9, v, h10, h11⟩ := hv i x hx
    exact ⟨h9, v, h10, h11.mono e⟩
  · have := s.imm _ _ hI
    simp [Ctx.push, hn] at this

theorem Good.pushMap {base bar : Nat} {Γ : Ctx} {H : Heap} {w' : World} {k : Nat} (s : Sim Γ H) (hbase : base ≤ H.length) (hbar : bar ≤ H.length)
    (hh : w'.heap = Γ.w.heap.push (.map #[] k)) (ho : w'.os = Γ.w.os) (ht : w'.tape = Γ.w.tape) (hu : w'.output = Γ.w.output) :
    Good base bar [] Γ (Γ.push w' (0, 0)) H (H ++ [.map []]) := by
  refine Good.pushB s hbase hbar hh ho ht hu fun e => ?_
  have hn := s.n
  refine ⟨by simp [Ctx.push, hn], #[], k, by simp [Ctx.push, hn, hh], rfl, fun i x hx => by simp at hx, fun o hI => ?_⟩
  have := s.imm _ _ hI
  simp [Ctx.push, hn] at this

/-! ## a block is changed in place -/
theorem Good.set {base bar : Nat} {Γ : Ctx} {H : Heap} {w' : World} {id ver fz : Nat} {ex : Bool} {cs cs' : List AV} {c c' : Array Value} {t : TypeId} (s : Sim Γ H)
    (hid : H[id]? = some (.row ver cs fz ex)) (hc : Γ.w.heap[Γ.ρ id]? = some (.cells c t (0, 0)))
    (hh : w'.heap = Γ.w.heap.setIfInBounds (Γ.ρ id) (.cells c' t (0, 0))) (ho : w'.os = Γ.w.os) (ht : w'.tape = Γ.w.tape) (hu : w'.output = Γ.w.output)
    (hl : cs'.length = cs.length) (hs : c'.size = c.size) (hfz : ∀ i, i < Γ.δ id + fz → c'[i]? = c[i]?) (hbar : bar ≤ id) (htop : base ≤ id ∨ AV.top.tops cs' ≤ max (AV.top.tops cs) (id + 1))
    (hv : ∀ (i : Nat) (x : AV), cs'[i]? = some x → x.one = true ∧ ∃ v, c'[Γ.δ id + i]? = some v ∧ VR Γ x v) :
    Good base bar [id] Γ { Γ with w := w' } H (H.set id (.row ver cs' fz ex)) := by
  have hlt : id < H.length := (List.getElem?_eq_some_iff.1 hid).1
  have hρ := s.lt hlt
  obtain ⟨ver1, cs1, fz1, ex1, e1, e2, c1, t1, e3, e4, e5, e6, e7, e8⟩ := s.row id _ hid
  simp only [Blk.row.injEq] at e1
  obtain ⟨rfl, rfl, rfl, rfl⟩ := e1
  rw [hc] at e3
  simp only [Option.some.injEq, Obj.cells.injEq] at e3
  obtain ⟨rfl, rfl, _⟩ := e3
  have hcell : ∀ b o, Γ.I b o → w'.cell? ⟨b, o, none⟩ = Γ.w.cell? ⟨b, o, none⟩ := fun b o hI => by
    by_cases hb : b = Γ.ρ id
    · subst hb
      have hlo : o < Γ.δ id + fz := by
        rcases Nat.lt_or_ge o (Γ.δ id + fz) with h | h
        · exact h
        · exact absurd hI (e8 o h)
      rw [cell_iff hc, cell_iff (c := c') (t := t) (fr := (0, 0)) (by simp [hh, hρ])]
      exact hfz o hlo
    · simp only [World.cell?, hh]
      rw [Array.getElem?_setIfInBounds_ne (Ne.symm hb)]
  have e : Evo Γ { Γ with w := w' } := ⟨Nat.le_refl _, fun _ _ => Nat.le_refl _, fun _ _ _ => ⟨rfl, rfl⟩, fun i hi => .inl ⟨hi, rfl⟩, fun b o h => ⟨h, hcell b o h⟩, fun _ _ h => .inl h,
    fun b _ hb => by simp only [hh]; rw [Array.getElem?_setIfInBounds_ne (hb id (by rw [s.n]; exact hlt))], by simp [hh], ho, ht, hu⟩
  refine ⟨⟨by simp [s.n], fun i b hb => ?_, fun i j hi hj hij => s.inj i j (by simpa using hi) (by simpa using hj) hij, fun b o h => by simpa [hh] using s.imm b o h, s.glob.mono e⟩, e,
    fun k hk hw i b hi hb => ?_, fun i hi => ?_, fun i hi hn => ?_, by simp⟩
  · by_cases hii : i = id
    · subst hii
      rw [List.getElem?_set_self hlt] at hb
      simp only [Option.some.injEq] at hb
      subst hb
      refine ⟨e2, c', t, by simp [hh, hρ], by simp [hs, e4], by show Γ.δ i + cs'.length ≤ c'.size; omega, fun h => by show Γ.δ i + cs'.length = c'.size; rw [hl, hs]; exact e6 h, fun j x hx => ?_, e8⟩
      obtain ⟨h9, v, h10, h11⟩ := hv j x hx
      exact ⟨h9, v, h10, h11.mono e⟩
    · rw [List.getElem?_set_ne (Ne.symm hii)] at hb
      have hil : i < H.length := (List.getElem?_eq_some_iff.1 hb).1
      refine (s.blk i b hb).mono e rfl rfl ?_ (fun _ h => h)
      simp only [hh]
      rw [Array.getElem?_setIfInBounds_ne (fun he => hii (s.inj _ _ hlt hil he).symm)]
  · by_cases hii : i = id
    · subst hii
      rw [List.getElem?_set_self hlt] at hb
      simp only [Option.some.injEq] at hb
      subst hb
      have h0 := hw i _ hi hid
      simp only [Blk.top] at h0 ⊢
      rcases htop with h | h <;> omega
    · rw [List.getElem?_set_ne (Ne.symm hii)] at hb
      exact hw i b hi hb
  · rw [List.getElem?_set_ne (by omega)]
  · rw [List.getElem?_set_ne (by simp at hn; omega)]

theorem Good.setMap {base bar : Nat} {Γ : Ctx} {H : Heap} {w' : World} {id k k' : Nat} {es es' : List (AV × AV)} {c c' : Array MapEntry} (s : Sim Γ H)
    (hid : H[id]? = some (.map es)) (hc : Γ.w.heap[Γ.ρ id]? = some (.map c k))
    (hh : w'.heap = Γ.w.heap.setIfInBounds (Γ.ρ id) (.map c' k')) (ho : w'.os = Γ.w.os) (ht : w'.tape = Γ.w.tape) (hu : w'.output = Γ.w.output) (hbar : bar ≤ id)
    (hl : c'.size = es'.length) (hv : ∀ (i : Nat) (p : AV × AV), es'[i]? = some p → (p.1.top = 0 ∧ p.2.top = 0) ∧ ∃ e, c'[i]? = some e ∧ VR Γ p.1 e.key ∧ VR Γ p.2 e.val) :
    Good base bar [id] Γ { Γ with w := w' } H (H.set id (.map es')) := by
  have hlt : id < H.length := (List.getElem?_eq_some_iff.1 hid).1
  have hρ := s.lt hlt
  obtain ⟨e2, c1, t1, e3, e4, e5, e8⟩ := s.blk id _ hid
  have hcell : ∀ b o, Γ.I b o → w'.cell? ⟨b, o, none⟩ = Γ.w.cell? ⟨b, o, none⟩ := fun b o hI => by
    have hb : b ≠ Γ.ρ id := fun hb => by subst hb; exact e8 o hI
    simp only [World.cell?, hh]
    rw [Array.getElem?_setIfInBounds_ne (Ne.symm hb)]
  have e : Evo Γ { Γ with w := w' } := ⟨Nat.le_refl _, fun _ _ => Nat.le_refl _, fun _ _ _ => ⟨rfl, rfl⟩, fun i hi => .inl ⟨hi, rfl⟩, fun b o h => ⟨h, hcell b o h⟩, fun _ _ h => .inl h,
    fun b _ hb => by simp only [hh]; rw [Array.getElem?_setIfInBounds_ne (hb id (by rw [s.n]; exact hlt))], by simp [hh], ho, ht, hu⟩
  refine ⟨⟨by simp [s.n], fun i b hb => ?_, fun i j hi hj hij => s.inj i j (by simpa using hi) (by simpa using hj) hij, fun b o h => by simpa [hh] using s.imm b o h, s.glob.mono e⟩, e,
    fun k hk hw i b hi hb => ?_, fun i hi => ?_, fun i hi hn => ?_, by simp⟩
  · by_cases hii : i = id
    · subst hii
      rw [List.getElem?_set_self hlt] at hb
      simp only [Option.some.injEq] at hb
      subst hb
      refine ⟨e2, c', k', by simp [hh, hρ], hl, fun j p hp => ?_, e8⟩
      obtain ⟨h9, v, h10, h11, h12⟩ := hv j p hp
      exact ⟨h9, v, h10, h11.mono e, h12.mono e⟩
    · rw [List.getElem?_set_ne (Ne.symm hii)] at hb
      have hil : i < H.length := (List.getElem?_eq_some_iff.1 hb).1
      refine (s.blk i b hb).mono e rfl rfl ?_ (fun _ h => h)
      simp only [hh]
      rw [Array.getElem?_setIfInBounds_ne (fun he => hii (s.inj _ _ hlt hil he).symm)]
  · by_cases hii : i = id
    · subst hii
      rw [List.getElem?_set_self hlt] at hb
      simp only [Option.some.injEq] at hb
      subst hb
      exact Nat.zero_le _
    · rw [List.getElem?_set_ne (Ne.symm hii)] at hb
      exact hw i b hi hb
  · rw [List.getElem?_set_ne (by omega)]
  · rw [List.getElem?_set_ne (by simp at hn; omega)]

/-! ## more cells of a block are frozen -/
def Ctx.freeze (Γ : Ctx) (id m : Nat) : Ctx := { Γ with I := fun b o => Γ.I b o ∨ (b = Γ.ρ id ∧ o < Γ.δ id + m) }

theorem Good.freeze {base bar : Nat} {Γ : Ctx} {H : Heap} {id ver fz m : Nat} {ex : Bool} {cs : List AV} (s : Sim Γ H) (hid : H[id]? = some (.row ver cs fz ex)) (hbar : bar ≤ id) :
    Good base bar [id] Γ (Γ.freeze id m) H (H.set id (.row ver cs (max fz m) ex)) := by
  have hlt : id < H.length := (List.getElem?_eq_some_iff.1 hid).1
  have hρ := s.lt hlt
  have e : Evo Γ (Γ.freeze id m) := ⟨Nat.le_refl _, fun _ _ => Nat.le_refl _, fun _ _ _ => ⟨rfl, rfl⟩, fun i hi => .inl ⟨hi, rfl⟩, fun b o h => ⟨.inl h, rfl⟩,
    fun b o h => by
      rcases h with h | ⟨h, _⟩
      · exact .inl h
      · exact .inr (.inr ⟨id, by rw [s.n]; exact hlt, h.symm⟩),
    fun b _ _ => rfl, Nat.le_refl _, rfl, rfl, rfl⟩
  refine ⟨⟨by simp [Ctx.freeze, s.n], fun i b hb => ?_, fun i j hi hj hij => s.inj i j (by simpa using hi) (by simpa using hj) hij, fun b o h => ?_, s.glob.mono e⟩, e,
    fun k hk hw i b hi hb => ?_, fun i hi => ?_, fun i hi hn => ?_, by simp⟩
  · by_cases hii : i = id
    · subst hii
      rw [List.getElem?_set_self hlt] at hb
      simp only [Option.some.injEq] at hb
      obtain ⟨ver1, cs1, fz1, ex1, e1, e2, c1, t1, e3, e4, e5, e6, e7, e8⟩ := s.row i _ hid
      simp only [Blk.row.injEq] at e1
      obtain ⟨rfl, rfl, rfl, rfl⟩ := e1
      subst hb
      refine ⟨e2, c1, t1, e3, e4, e5, e6, fun j x hx => ?_, fun o ho h => ?_⟩
      · obtain ⟨h9, v, h10, h11⟩ := e7 j x hx
        exact ⟨h9, v, h10, h11.mono e⟩
      · have ho : Γ.δ i + max fz m ≤ o := ho
        rcases h with h | ⟨_, h⟩
        · exact e8 o (by omega) h
        · omega
    · rw [List.getElem?_set_ne (Ne.symm hii)] at hb
      have hil : i < H.length := (List.getElem?_eq_some_iff.1 hb).1
      refine (s.blk i b hb).mono e rfl rfl rfl (fun o h => ?_)
      rcases h with h | ⟨h, _⟩
      · exact h
      · exact absurd (s.inj _ _ hil hlt h) hii
  · rcases h with h | ⟨h, _⟩
    · exact s.imm b o h
    · rw [h]; exact hρ
  · by_cases hii : i = id
    · subst hii
      rw [List.getElem?_set_self hlt] at hb
      simp only [Option.some.injEq] at hb
      subst hb
      have := hw i _ hi hid
      simpa only [Blk.top] using this
    · rw [List.getElem?_set_ne (Ne.symm hii)] at hb
      exact hw i b hi hb
  · rw [List.getElem?_set_ne (by omega)]
  · rw [List.getElem?_set_ne (by simp at hn; omega)]

/-! ## a block gets a new version: in place, or elsewhere -/
def Ctx.renew (Γ : Ctx) (w' : World) (id r : Nat) (sz : Nat × Nat) : Ctx :=
  { Γ with w := w', ρ := fun i => if i = id then r else Γ.ρ i, ver := fun i => if i = id then Γ.ver id + 1 else Γ.ver i, bsz := fun i => if i = id then sz else Γ.bsz i }

theorem Good.renew {base bar : Nat} {Γ : Ctx} {H : Heap} {w' : World} {id ver fz fz' r d : Nat} {ex ex' : Bool} {cs cs' : List AV} {c c' : Array Value} {t t' : TypeId} (s : Sim Γ H)
    (hid : H[id]? = some (.row ver cs fz ex)) (hc : Γ.w.heap[Γ.ρ id]? = some (.cells c t (0, 0)))
    (hh : (r = Γ.ρ id ∧ w'.heap = Γ.w.heap.setIfInBounds (Γ.ρ id) (.cells c' t' (0, 0)) ∧ (∀ i, i < Γ.δ id + fz → c'[i]? = c[i]?) ∧ Γ.δ id + fz ≤ d + fz') ∨ (r = Γ.w.heap.size ∧ w'.heap = Γ.w.heap.push (.cells c' t' (0, 0))))
    (ho : w'.os = Γ.w.os) (ht : w'.tape = Γ.w.tape) (hu : w'.output = Γ.w.output)
    (hl : d + cs'.length ≤ c'.size) (hex : ex' = true → d + cs'.length = c'.size) (hbar : bar ≤ id) (htop : base ≤ id ∨ AV.top.tops cs' ≤ max (AV.top.tops cs) (id + 1))
    (hv : ∀ (i : Nat) (x : AV), cs'[i]? = some x → x.one = true ∧ ∃ v, c'[d + i]? = some v ∧ VR Γ x v) :
    Good base bar [id] Γ (Γ.renew w' id r (c'.size, d)) H (H.set id (.row (ver + 1) cs' fz' ex')) := by
  have hlt : id < H.length := (List.getElem?_eq_some_iff.1 hid).1
  have hρ := s.lt hlt
  obtain ⟨ver1, cs1, fz1, ex1, e1, e2, c1, t1, e3, e4, e5, e6, e7, e8⟩ := s.row id _ hid
  simp only [Blk.row.injEq] at e1
  obtain ⟨rfl, rfl, rfl, rfl⟩ := e1
  rw [hc] at e3
  simp only [Option.some.injEq, Obj.cells.injEq] at e3
  obtain ⟨rfl, rfl, _⟩ := e3
  have hsize : Γ.w.heap.size ≤ w'.heap.size := by rcases hh with ⟨_, h, _⟩ | ⟨_, h⟩ <;> simp [h]
  have hother : ∀ b, b < Γ.w.heap.size → b ≠ Γ.ρ id → w'.heap[b]? = Γ.w.heap[b]? := fun b hb hne => by
    rcases hh with ⟨_, h, _⟩ | ⟨_, h⟩
    · rw [h, Array.getElem?_setIfInBounds_ne (Ne.symm hne)]
    · rw [h, Array.getElem?_push_lt hb, Array.getElem?_eq_getElem hb]
  have hnew : w'.heap[r]? = some (.cells c' t' (0, 0)) := by
    rcases hh with ⟨rfl, h, _⟩ | ⟨rfl, h⟩
    · simp [h, hρ]
    · simp [h]
  have hcell : ∀ b o, Γ.I b o → w'.cell? ⟨b, o, none⟩ = Γ.w.cell? ⟨b, o, none⟩ := fun b o hI => by
    have hb0 := s.imm b o hI
    by_cases hb : b = Γ.ρ id
    · subst hb
      have hlo : o < Γ.δ id + fz := by
        rcases Nat.lt_or_ge o (Γ.δ id + fz) with h | h
        · exact h
        · exact absurd hI (e8 o h)
      rcases hh with ⟨rfl, h, h', _⟩ | ⟨rfl, h⟩
      · rw [cell_iff hc, cell_iff hnew]
        exact h' o hlo
      · simp only [World.cell?, h]
        rw [Array.getElem?_push_lt hb0, Array.getElem?_eq_getElem hb0]
    · simp only [World.cell?, hother b hb0 hb]
  have hr : r = Γ.ρ id ∨ Γ.w.heap.size ≤ r := by rcases hh with ⟨rfl, _⟩ | ⟨rfl, _⟩ <;> simp
  have hnI : ∀ o, d + fz' ≤ o → ¬ Γ.I r o := fun o hf hI => by
    rcases hh with ⟨rfl, _, _, h⟩ | ⟨rfl, _⟩
    · exact e8 o (by omega) hI
    · have := s.imm _ _ hI; omega
  have e : Evo Γ (Γ.renew w' id r (c'.size, d)) := by
    refine ⟨Nat.le_refl _, fun i _ => ?_, fun i hi h => ?_, fun i hi => ?_, fun b o h => ⟨h, hcell b o h⟩, fun _ _ h => .inl h, fun b hb hne => hother b hb (fun h => hne id (by rw [s.n]; exact hlt) h.symm), hsize, ho, ht, hu⟩
    · simp only [Ctx.renew]; split <;> simp_all
    · simp only [Ctx.renew] at h ⊢
      by_cases hii : i = id
      · simp [hii] at h
      · simp [hii]
    · simp only [Ctx.renew] at hi ⊢
      by_cases hii : i = id
      · subst hii
        simp only [if_true]
        rcases hr with h | h
        · exact .inl ⟨hi, h⟩
        · exact .inr h
      · simp [hii]; exact .inl hi
  refine ⟨⟨by simp [Ctx.renew, s.n], fun i b hb => ?_, fun i j hi hj hij => ?_, fun b o h => Nat.lt_of_lt_of_le (s.imm b o h) hsize, s.glob.mono e⟩, e,
    fun k hk hw i b hi hb => ?_, fun i hi => ?_, fun i hi hn => ?_, by simp⟩
  · by_cases hii : i = id
    · subst hii
      rw [List.getElem?_set_self hlt] at hb
      simp only [Option.some.injEq] at hb
      subst hb
      have hd : (Γ.renew w' i r (c'.size, d)).δ i = d := by simp [Ctx.δ, Ctx.renew]
      refine ⟨by simp [Ctx.renew, e2], c', t', by simpa [Ctx.renew] using hnew, by simp [Ctx.renew], by rw [hd]; exact hl, by rw [hd]; exact hex, fun j x hx => ?_, by rw [hd]; simpa [Ctx.renew] using hnI⟩
      rw [hd]
      obtain ⟨h9, v, h10, h11⟩ := hv j x hx
      exact ⟨h9, v, h10, h11.mono e⟩
    · rw [List.getElem?_set_ne (Ne.symm hii)] at hb
      have hil : i < H.length := (List.getElem?_eq_some_iff.1 hb).1
      refine (s.blk i b hb).mono e (by simp [Ctx.renew, hii]) (by simp [Ctx.renew, hii]) ?_ (by simp [Ctx.renew, hii])
      simp only [Ctx.renew, hii, if_false]
      rw [hother _ (s.lt hil) (fun he => hii (s.inj _ _ hil hlt he))]
  · simp only [List.length_set] at hi hj
    simp only [Ctx.renew] at hij
    have key : ∀ k, k < H.length → k ≠ id → Γ.ρ k ≠ r := fun k hk hne he => by
      rcases hr with h | h
      · exact hne (s.inj _ _ hk hlt (he.trans h))
      · have := s.lt hk; omega
    by_cases h1 : i = id <;> by_cases h2 : j = id
    · omega
    · simp only [h1, h2, if_true, if_false] at hij; exact absurd hij.symm (key j hj h2)
    · simp only [h1, h2, if_true, if_false] at hij; exact absurd hij (key i hi h1)
    · simp only [h1, h2, if_false] at hij; exact s.inj i j hi hj hij
  · by_cases hii : i = id
    · subst hii
      rw [List.getElem?_set_self hlt] at hb
      simp only [Option.some.injEq] at hb
      subst hb
      have h0 := hw i _ hi hid
      simp only [Blk.top] at h0 ⊢
      rcases htop with h | h <;> omega
    · rw [List.getElem?_set_ne (Ne.symm hii)] at hb
      exact hw i b hi hb
  · rw [List.getElem?_set_ne (by omega)]
  · rw [List.getElem?_set_ne (by simp at hn; omega)]

/-! ## blocks from k on are dropped -/
theorem Good.cut {base bar : Nat} {tc : List Nat} {Γ Δ : Ctx} {H H' : Heap} (g : Good base bar tc Γ Δ H H') (h0 : Γ.n = H.length) (k : Nat) (hk : H.length ≤ k) (hw : WF k H') (hkl : k ≤ H'.length) (hbk : bar ≤ k) :
    Good base bar tc Γ (Δ.cut k) H (H'.take k) := by
  obtain ⟨s, e, wf, hb, ht, hl⟩ := g
  have hn := s.n
  refine ⟨⟨by simp [Ctx.cut]; omega, fun i b hb => ?_, fun i j hi hj hij => ?_, s.imm, s.glob.cut⟩, ⟨?_, e.ver, e.same, fun i hi => ?_, e.I, e.newI, e.frame, e.size, e.os, e.tape, e.output⟩,
    fun m hm hwm i b hi hb => ?_, fun i hi => ?_, fun i hi hn => ?_, by simp; omega⟩
  · rw [List.getElem?_take] at hb
    split at hb
    · rename_i hik
      exact (s.blk i b hb).cut (hw i b hik hb)
    · cases hb
  · simp at hi hj
    exact s.inj i j (by omega) (by omega) hij
  · simp only [Ctx.cut]; omega
  · exact e.ρ i (by simp only [Ctx.cut] at hi; omega)
  · rw [List.getElem?_take] at hb
    split at hb
    · exact wf m hm hwm i b hi hb
    · cases hb
  · rw [List.getElem?_take, if_pos (by omega), hb i hi]
  · rw [List.getElem?_take, if_pos (by omega), ht i hi hn]

end Go.Ab
