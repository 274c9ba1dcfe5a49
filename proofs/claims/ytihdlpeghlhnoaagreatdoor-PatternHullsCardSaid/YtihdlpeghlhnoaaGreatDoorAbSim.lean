/-
  Part of the proved evaluator, or answers that it computed.
-/
import Derived.Test.YtihdlpeghlhnoaaGreatDoorAbExec
import Derived.Calls
import Derived.Laws.AppendOwn
import Derived.Laws.Append
import Derived.Laws.CopyRow
import Derived.Laws.Cells
import Derived.Laws.Rows
set_option linter.all false
namespace Go.Ab

/-- values that lie in one cell -/
def AV.one : AV → Bool
  | .agg _ | .tup _ => false
  | _ => true

/-- how the evaluator's memory lies in a world; of each block: how large it is there, and from which cell on it is ours -/
structure Ctx where
  w : World
  n : Nat
  ρ : Nat → Nat
  ver : Nat → Nat
  bsz : Nat → Nat × Nat
  I : Nat → Nat → Prop

/-- from which cell on a block is ours -/
def Ctx.δ (Γ : Ctx) (id : Nat) : Nat := (Γ.bsz id).2

inductive VR (Γ : Ctx) : AV → Value → Prop
  | int (k : IntKind) (n : Int) : VR Γ (.int k n) (.int k n)
  | bool (b : Bool) : VR Γ (.bool b) (.bool b)
  | str (s : ByteArray) : VR Γ (.str s) (.string s)
  | nilp : VR Γ .nilp (.pointer none)
  | nils : VR Γ .nils (.slice none 0 0)
  | nilm : VR Γ .nilm (.map none)
  | nilf : VR Γ .nilf .nilFunc
  | nili : VR Γ .nili .nilIface
  | agg (cs : List AV) (vs : Array Value) (hl : cs.length = vs.size) (h1 : ∀ c ∈ cs, c.one = true)
      (h : ∀ (i : Nat) (c : AV) (v : Value), cs[i]? = some c → vs[i]? = some v → VR Γ c v) : VR Γ (.agg cs) (.agg vs)
  | tup (cs : List AV) (vs : Array Value) (hl : cs.length = vs.size)
      (h : ∀ (i : Nat) (c : AV) (v : Value), cs[i]? = some c → vs[i]? = some v → VR Γ c v) : VR Γ (.tup cs) (.tuple vs)
  | lst (sz : Nat) (ex : Bool) (xs : List AV) (b o cap : Nat) (f : Nat → Nat → Value) (hlc : xs.length ≤ cap) (hex : ex = true → cap = xs.length)
      (hsz : ∀ x ∈ xs, x.cells.length = sz ∧ ∀ c ∈ x.cells, c.one = true)
      (hcell : ∀ (i : Nat) (x : AV) (j : Nat) (c : AV), xs[i]? = some x → x.cells[j]? = some c → Γ.w.cell? ⟨b, o + i * sz + j, none⟩ = some (f i j) ∧ Γ.I b (o + i * sz + j))
      (hv : ∀ (i : Nat) (x : AV) (j : Nat) (c : AV), xs[i]? = some x → x.cells[j]? = some c → VR Γ c (f i j)) :
      VR Γ (.lst sz ex xs) (.slice (some ⟨b, o, none⟩) xs.length cap)
  | emp (sz : Nat) (ex : Bool) (a : Addr) (cap : Nat) (hex : ex = true → cap = 0) : VR Γ (.lst sz ex []) (.slice (some a) 0 cap)
  | fp (x : AV) (b o : Nat) (f : Nat → Value) (h1 : ∀ c ∈ x.cells, c.one = true)
      (hcell : ∀ (j : Nat) (c : AV), x.cells[j]? = some c → Γ.w.cell? ⟨b, o + j, none⟩ = some (f j) ∧ Γ.I b (o + j))
      (hv : ∀ (j : Nat) (c : AV), x.cells[j]? = some c → VR Γ c (f j)) : VR Γ (.fp x) (.pointer (some ⟨b, o, none⟩))
  | ptr (id ver off : Nat) (a : Addr) (hn : id < Γ.n) (hle : ver ≤ Γ.ver id) (h : Γ.ver id = ver → a = ⟨Γ.ρ id, Γ.δ id + off, none⟩) : VR Γ (.ptr id ver off) (.pointer (some a))
  | vec (id ver off len sz : Nat) (a : Addr) (cap : Nat) (hn : id < Γ.n) (hle : ver ≤ Γ.ver id)
      (h : Γ.ver id = ver → a = ⟨Γ.ρ id, Γ.δ id + off, none⟩ ∧ Γ.δ id + off + cap * sz = (Γ.bsz id).1 ∧ len ≤ cap) : VR Γ (.vec id ver off len sz) (.slice (some a) len cap)
  | fn (f : FuncId) (xs ys : List AV) (us vs : Array Value) (hl : xs.length = us.size) (hl' : ys.length = vs.size)
      (h : ∀ (i : Nat) (c : AV) (v : Value), xs[i]? = some c → us[i]? = some v → VR Γ c v)
      (h' : ∀ (i : Nat) (c : AV) (v : Value), ys[i]? = some c → vs[i]? = some v → VR Γ c v) : VR Γ (.fn f xs ys) (.func (.func f) us vs)
  | ifc (t : TypeId) (x : AV) (v : Value) (h : VR Γ x v) : VR Γ (.ifc t x) (.iface t v)
  | dead (a : Option Addr) (n c : Nat) : VR Γ .dead (.slice a n c)
  | mp (id r : Nat) (hn : id < Γ.n) (h : Γ.ver id = 0 → r = Γ.ρ id) : VR Γ (.mp id) (.map (some r))

/-- what may come of a context in a run -/
structure Evo (Γ Δ : Ctx) : Prop where
  n : Γ.n ≤ Δ.n
  ver : ∀ i, i < Γ.n → Γ.ver i ≤ Δ.ver i
  same : ∀ i, i < Γ.n → Δ.ver i = Γ.ver i → Δ.ρ i = Γ.ρ i ∧ Δ.bsz i = Γ.bsz i
  ρ : ∀ i, i < Δ.n → (i < Γ.n ∧ Δ.ρ i = Γ.ρ i) ∨ Γ.w.heap.size ≤ Δ.ρ i
  I : ∀ b o, Γ.I b o → Δ.I b o ∧ Δ.w.cell? ⟨b, o, none⟩ = Γ.w.cell? ⟨b, o, none⟩
  newI : ∀ b o, Δ.I b o → Γ.I b o ∨ Γ.w.heap.size ≤ b ∨ ∃ i, i < Γ.n ∧ Γ.ρ i = b
  frame : ∀ b, b < Γ.w.heap.size → (∀ i, i < Γ.n → Γ.ρ i ≠ b) → Δ.w.heap[b]? = Γ.w.heap[b]?
  size : Γ.w.heap.size ≤ Δ.w.heap.size
  os : Δ.w.os = Γ.w.os
  tape : Δ.w.tape = Γ.w.tape
  output : Δ.w.output = Γ.w.output

theorem Evo.refl (Γ : Ctx) : Evo Γ Γ :=
  ⟨Nat.le_refl _, fun _ _ => Nat.le_refl _, fun _ _ _ => ⟨rfl, rfl⟩, fun _ h => .inl ⟨h, rfl⟩, fun _ _ h => ⟨h, rfl⟩, fun _ _ h => .inl h, fun _ _ _ => rfl, Nat.le_refl _, rfl, rfl, rfl⟩

theorem Evo.trans {Γ Δ Θ : Ctx} (h : Evo Γ Δ) (k : Evo Δ Θ) : Evo Γ Θ where
  n := Nat.le_trans h.n k.n
  ver i hi := Nat.le_trans (h.ver i hi) (k.ver i (Nat.lt_of_lt_of_le hi h.n))
  same i hi e := by
    have h1 := h.ver i hi
    have h2 := k.ver i (Nat.lt_of_lt_of_le hi h.n)
    have e1 : Δ.ver i = Γ.ver i := by omega
    have e2 : Θ.ver i = Δ.ver i := by omega
    obtain ⟨a, b⟩ := h.same i hi e1
    obtain ⟨c, d⟩ := k.same i (Nat.lt_of_lt_of_le hi h.n) e2
    exact ⟨c.trans a, d.trans b⟩
  ρ i hi := by
    rcases k.ρ i hi with ⟨h1, h2⟩ | h1
    · rcases h.ρ i h1 with ⟨h3, h4⟩ | h3
      · exact .inl ⟨h3, h2.trans h4⟩
      · exact .inr (by rw [h2]; exact h3)
    · exact .inr (Nat.le_trans h.size h1)
  I b o hi := by
    obtain ⟨h1, h2⟩ := h.I b o hi
    obtain ⟨h3, h4⟩ := k.I b o h1
    exact ⟨h3, h4.trans h2⟩
  newI b o hi := by
    rcases k.newI b o hi with h1 | h1 | ⟨i, h1, h2⟩
    · exact h.newI b o h1
    · exact .inr (.inl (Nat.le_trans h.size h1))
    · rcases h.ρ i h1 with ⟨h3, h4⟩ | h3
      · exact .inr (.inr ⟨i, h3, h4.symm.trans h2⟩)
      · exact .inr (.inl (by rw [h2] at h3; exact h3))
  frame b hb hf := by
    rw [k.frame b (Nat.lt_of_lt_of_le hb h.size) (fun i hi e => by
      rcases h.ρ i hi with ⟨h1, h2⟩ | h1
      · exact hf i h1 (h2.symm.trans e)
      · omega), h.frame b hb hf]
  size := Nat.le_trans h.size k.size
  os := k.os.trans h.os
  tape := k.tape.trans h.tape
  output := k.output.trans h.output

theorem VR.mono {Γ Δ : Ctx} (e : Evo Γ Δ) {x : AV} {v : Value} (h : VR Γ x v) : VR Δ x v := by
  induction h with
  | int k n => exact .int k n
  | bool b => exact .bool b
  | str s => exact .str s
  | nilp => exact .nilp
  | nils => exact .nils
  | nilm => exact .nilm
  | nilf => exact .nilf
  | nili => exact .nili
  | agg cs vs hl h1 _ ih => exact .agg cs vs hl h1 ih
  | tup cs vs hl _ ih => exact .tup cs vs hl ih
  | emp sz ex a cap hex => exact .emp sz ex a cap hex
  | lst sz ex xs b o cap f hlc hex hsz hcell _ ih =>
    refine .lst sz ex xs b o cap f hlc hex hsz (fun i x j c hx hc => ?_) ih
    obtain ⟨h1, h2⟩ := hcell i x j c hx hc
    obtain ⟨h3, h4⟩ := e.I _ _ h2
    exact ⟨h4.trans h1, h3⟩
  | fp x b o f h1 hcell _ ih =>
    refine .fp x b o f h1 (fun j c hc => ?_) ih
    obtain ⟨h1, h2⟩ := hcell j c hc
    obtain ⟨h3, h4⟩ := e.I _ _ h2
    exact ⟨h4.trans h1, h3⟩
  | ptr id ver off a hn hle h =>
    refine .ptr id ver off a (Nat.lt_of_lt_of_le hn e.n) (Nat.le_trans hle (e.ver id hn)) (fun hv => ?_)
    have h1 := e.ver id hn
    have h2 : Γ.ver id = ver := by omega
    unfold Ctx.δ
    rw [(e.same id hn (by omega)).1, (e.same id hn (by omega)).2]
    exact h h2
  | vec id ver off len sz a cap hn hle h =>
    refine .vec id ver off len sz a cap (Nat.lt_of_lt_of_le hn e.n) (Nat.le_trans hle (e.ver id hn)) (fun hv => ?_)
    have h1 := e.ver id hn
    have h2 : Γ.ver id = ver := by omega
    obtain ⟨h3, h4⟩ := e.same id hn (by omega)
    unfold Ctx.δ
    rw [h3, h4]
    exact h h2
  | fn f xs ys us vs hl hl' _ _ ih ih' => exact .fn f xs ys us vs hl hl' ih ih'
  | ifc t x v _ ih => exact .ifc t x v ih
  | dead a n c => exact .dead a n c
  | mp id r hn h =>
    refine .mp id r (Nat.lt_of_lt_of_le hn e.n) (fun hv => ?_)
    have h1 := e.ver id hn
    rw [(e.same id hn (by omega)).1]
    exact h (by omega)

/-- a value that names no block from k on does not see that those are dropped -/
theorem AV.tops_le {k : Nat} : ∀ {l : List AV}, AV.top.tops l ≤ k → ∀ c ∈ l, c.top ≤ k
  | [], _, c, hc => by cases hc
  | x :: r, h, c, hc => by
    simp only [AV.top.tops] at h
    rcases List.mem_cons.1 hc with rfl | hc
    · omega
    · exact AV.tops_le (l := r) (by omega) c hc
theorem AV.le_tops {k : Nat} : ∀ {l : List AV}, (∀ c ∈ l, c.top ≤ k) → AV.top.tops l ≤ k
  | [], _ => by simp [AV.top.tops]
  | x :: r, h => by
    simp only [AV.top.tops]
    have h1 := h x (by simp)
    have h2 := AV.le_tops (l := r) fun c hc => h c (by simp [hc])
    omega
theorem AV.cells_top {k : Nat} {x : AV} (h : x.top ≤ k) : ∀ c ∈ x.cells, c.top ≤ k := by
  cases x <;> simp only [AV.cells, List.mem_singleton, forall_eq] <;> first | exact h | (simp only [AV.top] at h; exact AV.tops_le h)

def Ctx.cut (Γ : Ctx) (k : Nat) : Ctx := { Γ with n := k }

theorem VR.cut {Γ : Ctx} {k : Nat} {x : AV} {v : Value} (h : VR Γ x v) (ht : x.top ≤ k) : VR (Γ.cut k) x v := by
  induction h with
  | int k n => exact .int k n
  | bool b => exact .bool b
  | str s => exact .str s
  | nilp => exact .nilp
  | nils => exact .nils
  | nilm => exact .nilm
  | nilf => exact .nilf
  | nili => exact .nili
  | agg cs vs hl h1 _ ih =>
    simp only [AV.top] at ht
    exact .agg cs vs hl h1 fun i c v hc hv => ih i c v hc hv (AV.tops_le ht c (List.mem_of_getElem? hc))
  | tup cs vs hl _ ih =>
    simp only [AV.top] at ht
    exact .tup cs vs hl fun i c v hc hv => ih i c v hc hv (AV.tops_le ht c (List.mem_of_getElem? hc))
  | emp sz ex a cap hex => exact .emp sz ex a cap hex
  | lst sz ex xs b o cap f hlc hex hsz hcell _ ih =>
    simp only [AV.top] at ht
    exact .lst sz ex xs b o cap f hlc hex hsz hcell fun i x j c hx hc =>
      ih i x j c hx hc (AV.cells_top (AV.tops_le ht x (List.mem_of_getElem? hx)) c (List.mem_of_getElem? hc))
  | fp x b o f h1 hcell _ ih =>
    simp only [AV.top] at ht
    exact .fp x b o f h1 hcell fun j c hc => ih j c hc (AV.cells_top ht c (List.mem_of_getElem? hc))
  | ptr id ver off a hn hle h => exact .ptr id ver off a (by simp only [AV.top] at ht; exact ht) hle h
  | vec id ver off len sz a cap hn hle h => exact .vec id ver off len sz a cap (by simp only [AV.top] at ht; exact ht) hle h
  | fn f xs ys us vs hl hl' _ _ ih ih' =>
    simp only [AV.top] at ht
    exact .fn f xs ys us vs hl hl' (fun i c v hc hv => ih i c v hc hv (AV.tops_le (by omega) c (List.mem_of_getElem? hc)))
      (fun i c v hc hv => ih' i c v hc hv (AV.tops_le (by omega) c (List.mem_of_getElem? hc)))
  | ifc t x v _ ih => simp only [AV.top] at ht; exact .ifc t x v (ih ht)
  | dead a n c => exact .dead a n c
  | mp id r hn h => exact .mp id r (by simp only [AV.top] at ht; exact ht) h

/-- every value that is read names blocks that are there -/
theorem VR.top_le {Γ : Ctx} {x : AV} {v : Value} (h : VR Γ x v) : x.top ≤ Γ.n := by
  induction h with
  | int k n => simp [AV.top]
  | bool b => simp [AV.top]
  | str s => simp [AV.top]
  | nilp => simp [AV.top]
  | nils => simp [AV.top]
  | nilm => simp [AV.top]
  | nilf => simp [AV.top]
  | nili => simp [AV.top]
  | agg cs vs hl h1 _ ih =>
    simp only [AV.top]
    refine AV.le_tops fun c hc => ?_
    obtain ⟨i, hi, rfl⟩ := List.getElem_of_mem hc
    exact ih i _ vs[i] (List.getElem?_eq_getElem hi) (by simp [hl ▸ hi])
  | tup cs vs hl _ ih =>
    simp only [AV.top]
    refine AV.le_tops fun c hc => ?_
    obtain ⟨i, hi, rfl⟩ := List.getElem_of_mem hc
    exact ih i _ vs[i] (List.getElem?_eq_getElem hi) (by simp [hl ▸ hi])
  | emp sz ex a cap hex => simp [AV.top, AV.top.tops]
  | lst sz ex xs b o cap f hlc hex hsz hcell _ ih =>
    simp only [AV.top]
    refine AV.le_tops fun x hx => ?_
    obtain ⟨i, hi, rfl⟩ := List.getElem_of_mem hx
    have h : ∀ c ∈ xs[i].cells, c.top ≤ Γ.n := fun c hc => by
      obtain ⟨j, hj, rfl⟩ := List.getElem_of_mem hc
      exact ih i _ j _ (List.getElem?_eq_getElem hi) (List.getElem?_eq_getElem hj)
    cases hx : xs[i] <;> rw [hx] at h <;> simp only [AV.cells, List.mem_singleton, forall_eq] at h <;> first | exact h | (simp only [AV.top]; exact AV.le_tops h)
  | fp x b o f h1 hcell _ ih =>
    have h : ∀ c ∈ x.cells, c.top ≤ Γ.n := fun c hc => by
      obtain ⟨j, hj, rfl⟩ := List.getElem_of_mem hc
      exact ih j _ (List.getElem?_eq_getElem hj)
    simp only [AV.top]
    cases x <;> simp only [AV.cells, List.mem_singleton, forall_eq] at h <;> first | exact h | (simp only [AV.top]; exact AV.le_tops h)
  | ptr id ver off a hn hle h => simp only [AV.top]; omega
  | vec id ver off len sz a cap hn hle h => simp only [AV.top]; omega
  | fn f xs ys us vs hl hl' _ _ ih ih' =>
    simp only [AV.top]
    have h1 : AV.top.tops xs ≤ Γ.n := AV.le_tops fun c hc => by
      obtain ⟨i, hi, rfl⟩ := List.getElem_of_mem hc
      exact ih i _ us[i] (List.getElem?_eq_getElem hi) (by simp [hl ▸ hi])
    have h2 : AV.top.tops ys ≤ Γ.n := AV.le_tops fun c hc => by
      obtain ⟨i, hi, rfl⟩ := List.getElem_of_mem hc
      exact ih' i _ vs[i] (List.getElem?_eq_getElem hi) (by simp [hl' ▸ hi])
    omega
  | ifc t x v _ ih => simpa only [AV.top] using ih
  | dead a n c => simp [AV.top]
  | mp id r hn h => simp only [AV.top]; omega

/-- a block lies in the world: a row, or a map of values that name no block -/
def BlkOK (Γ : Ctx) (id : Nat) : Blk → Prop
  | .row ver cs fz ex => Γ.ver id = ver ∧
    ∃ (c : Array Value) (t : TypeId), Γ.w.heap[Γ.ρ id]? = some (.cells c t (0, 0)) ∧ (Γ.bsz id).1 = c.size ∧ Γ.δ id + cs.length ≤ c.size ∧ (ex = true → Γ.δ id + cs.length = c.size) ∧
      (∀ (i : Nat) (x : AV), cs[i]? = some x → x.one = true ∧ ∃ v, c[Γ.δ id + i]? = some v ∧ VR Γ x v) ∧ (∀ o, Γ.δ id + fz ≤ o → ¬ Γ.I (Γ.ρ id) o)
  | .map es => Γ.ver id = 0 ∧
    ∃ (c : Array MapEntry) (k : Nat), Γ.w.heap[Γ.ρ id]? = some (.map c k) ∧ c.size = es.length ∧
      (∀ (i : Nat) (p : AV × AV), es[i]? = some p → (p.1.top = 0 ∧ p.2.top = 0) ∧ ∃ e, c[i]? = some e ∧ VR Γ p.1 e.key ∧ VR Γ p.2 e.val) ∧ (∀ o, ¬ Γ.I (Γ.ρ id) o)

def Blk.top : Blk → Nat
  | .row _ cs _ _ => AV.top.tops cs
  | .map _ => 0

theorem BlkOK.mono {Γ Δ : Ctx} (e : Evo Γ Δ) {id : Nat} {b : Blk} (h : BlkOK Γ id b) (hv : Δ.ver id = Γ.ver id) (hb : Δ.bsz id = Γ.bsz id) (hw : Δ.w.heap[Δ.ρ id]? = Γ.w.heap[Γ.ρ id]?)
    (hI : ∀ o, Δ.I (Δ.ρ id) o → Γ.I (Γ.ρ id) o) : BlkOK Δ id b := by
  cases b with
  | row ver cs fz ex =>
    obtain ⟨h2, c, t, h3, h4, h5, h6, h7, h8⟩ := h
    have hd : Δ.δ id = Γ.δ id := by unfold Ctx.δ; rw [hb]
    refine ⟨hv.trans h2, c, t, hw.trans h3, by rw [hb]; exact h4, by rw [hd]; exact h5, by rw [hd]; exact h6, fun i x hx => ?_, fun o ho h => h8 o (by rw [← hd]; exact ho) (hI o h)⟩
    rw [hd]
    obtain ⟨h9, v, h10, h11⟩ := h7 i x hx
    exact ⟨h9, v, h10, h11.mono e⟩
  | map es =>
    obtain ⟨h2, c, k, h3, h4, h5, h6⟩ := h
    refine ⟨hv.trans h2, c, k, hw.trans h3, h4, fun i p hp => ?_, fun o h => h6 o (hI o h)⟩
    obtain ⟨h7, x, h8, h9, h10⟩ := h5 i p hp
    exact ⟨h7, x, h8, h9.mono e, h10.mono e⟩

theorem BlkOK.cut {Γ : Ctx} {id k : Nat} {b : Blk} (h : BlkOK Γ id b) (ht : b.top ≤ k) : BlkOK (Γ.cut k) id b := by
  cases b with
  | row ver cs fz ex =>
    obtain ⟨h2, c, t, h3, h4, h5, h6, h7, h8⟩ := h
    refine ⟨h2, c, t, h3, h4, h5, h6, fun i x hx => ?_, h8⟩
    obtain ⟨h9, v, h10, h11⟩ := h7 i x hx
    exact ⟨h9, v, h10, h11.cut (AV.tops_le ht x (List.mem_of_getElem? hx))⟩
  | map es =>
    obtain ⟨h2, c, j, h3, h4, h5, h6⟩ := h
    refine ⟨h2, c, j, h3, h4, fun i p hp => ?_, h6⟩
    obtain ⟨h7, x, h8, h9, h10⟩ := h5 i p hp
    exact ⟨h7, x, h8, h9.cut (by omega), h10.cut (by omega)⟩

/-- the package variables hold what is told -/
def GlobOK (Γ : Ctx) : Prop := ∀ g x, globs g = some x → x.top = 0 ∧ VR Γ (.fp x) (.pointer (some ⟨g, 0, none⟩))
theorem GlobOK.mono {Γ Δ : Ctx} (e : Evo Γ Δ) (h : GlobOK Γ) : GlobOK Δ := fun g x hx => ⟨(h g x hx).1, (h g x hx).2.mono e⟩
theorem GlobOK.cut {Γ : Ctx} {k : Nat} (h : GlobOK Γ) : GlobOK (Γ.cut k) := fun g x hx => ⟨(h g x hx).1, (h g x hx).2.cut (by simp only [AV.top]; rw [(h g x hx).1]; exact Nat.zero_le _)⟩

/-- the heap lies in the world -/
structure Sim (Γ : Ctx) (H : Heap) : Prop where
  n : Γ.n = H.length
  blk : ∀ (id : Nat) (b : Blk), H[id]? = some b → BlkOK Γ id b
  inj : ∀ i j, i < H.length → j < H.length → Γ.ρ i = Γ.ρ j → i = j
  imm : ∀ b o, Γ.I b o → b < Γ.w.heap.size
  glob : GlobOK Γ

def Blk.isRow : Blk → Bool
  | .row _ _ _ _ => true
  | .map _ => false

theorem Sim.row {Γ : Ctx} {H : Heap} (s : Sim Γ H) (id : Nat) (b : Blk) (hb : H[id]? = some b) (hr : b.isRow = true := by rfl) : ∃ ver cs fz ex, b = .row ver cs fz ex ∧ Γ.ver id = ver ∧
    ∃ (c : Array Value) (t : TypeId), Γ.w.heap[Γ.ρ id]? = some (.cells c t (0, 0)) ∧ (Γ.bsz id).1 = c.size ∧ Γ.δ id + cs.length ≤ c.size ∧ (ex = true → Γ.δ id + cs.length = c.size) ∧
      (∀ (i : Nat) (x : AV), cs[i]? = some x → x.one = true ∧ ∃ v, c[Γ.δ id + i]? = some v ∧ VR Γ x v) ∧ (∀ o, Γ.δ id + fz ≤ o → ¬ Γ.I (Γ.ρ id) o) := by
  cases b with
  | row ver cs fz ex => exact ⟨ver, cs, fz, ex, rfl, s.blk id _ hb⟩
  | map es => cases hr

/-- lists of values, in their order -/
def VRs (Γ : Ctx) (xs : List AV) (vs : List Value) : Prop := xs.length = vs.length ∧ ∀ (i : Nat) (c : AV) (v : Value), xs[i]? = some c → vs[i]? = some v → VR Γ c v

theorem VRs.mono {Γ Δ : Ctx} (e : Evo Γ Δ) {xs : List AV} {vs : List Value} (h : VRs Γ xs vs) : VRs Δ xs vs := ⟨h.1, fun i c v hc hv => (h.2 i c v hc hv).mono e⟩

theorem VRs.nil {Γ : Ctx} : VRs Γ [] [] := ⟨rfl, fun i c v hc => by simp at hc⟩
theorem VRs.cons {Γ : Ctx} {x : AV} {v : Value} {xs : List AV} {vs : List Value} (h : VR Γ x v) (hs : VRs Γ xs vs) : VRs Γ (x :: xs) (v :: vs) :=
  ⟨by simp [hs.1], fun i c u hc hu => by
    cases i with
    | zero => simp at hc hu; subst hc hu; exact h
    | succ i => simp at hc hu; exact hs.2 i c u hc hu⟩
theorem VRs.of_cons {Γ : Ctx} {x : AV} {xs : List AV} {vs : List Value} (h : VRs Γ (x :: xs) vs) : ∃ v r, vs = v :: r ∧ VR Γ x v ∧ VRs Γ xs r := by
  cases vs with
  | nil => simp [VRs] at h
  | cons v r =>
    refine ⟨v, r, rfl, h.2 0 x v (by simp) (by simp), by simpa using h.1, fun i c u hc hu => h.2 (i + 1) c u (by simpa using hc) (by simpa using hu)⟩
theorem VRs.of_nil {Γ : Ctx} {vs : List Value} (h : VRs Γ [] vs) : vs = [] := by
  cases vs with
  | nil => rfl
  | cons v r => simp [VRs] at h
theorem VRs.append {Γ : Ctx} {xs ys : List AV} {us vs : List Value} (h : VRs Γ xs us) (k : VRs Γ ys vs) : VRs Γ (xs ++ ys) (us ++ vs) := by
  refine ⟨by simp [h.1, k.1], fun i c v hc hv => ?_⟩
  rw [List.getElem?_append] at hc hv
  rw [← h.1] at hv
  split at hc
  · rename_i hi; rw [if_pos hi] at hv; exact h.2 i c v hc hv
  · rename_i hi; rw [if_neg hi] at hv; exact k.2 _ c v hc hv
theorem VRs.get {Γ : Ctx} {xs : List AV} {vs : List Value} (h : VRs Γ xs vs) {i : Nat} {c : AV} (hc : xs[i]? = some c) : ∃ v, vs[i]? = some v ∧ VR Γ c v := by
  have hi : i < xs.length := (List.getElem?_eq_some_iff.1 hc).1
  have hv : vs[i]? = some (vs[i]'(h.1 ▸ hi)) := List.getElem?_eq_getElem _
  exact ⟨_, hv, h.2 i c _ hc hv⟩

/-- a value's cells -/
theorem VR.cells {Γ : Ctx} {x : AV} {v : Value} (h : VR Γ x v) (hx : ∀ l, x ≠ .tup l) : VRs Γ x.cells v.cells.toList ∧ ∀ c ∈ x.cells, c.one = true := by
  cases h with
  | agg cs vs hl h1 h => exact ⟨⟨by simpa [AV.cells, Value.cells] using hl, fun i c v hc hv => h i c v hc (by simpa [Value.cells] using hv)⟩, h1⟩
  | tup cs vs hl h => exact absurd rfl (hx cs)
  | _ => refine ⟨?_, by simp [AV.cells, AV.one]⟩; simp only [AV.cells, Value.cells]; refine VRs.cons ?_ VRs.nil; constructor <;> assumption

theorem oneCell_of {Γ : Ctx} {x : AV} {v : Value} (h : VR Γ x v) (h1 : x.one = true) : v.oneCell' = true := by
  cases h <;> simp_all [AV.one, Value.oneCell']

end Go.Ab
