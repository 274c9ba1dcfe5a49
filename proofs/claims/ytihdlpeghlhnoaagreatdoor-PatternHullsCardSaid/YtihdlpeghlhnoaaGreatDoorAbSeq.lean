/-
  slices.AppendSeq(nil, slices.Values(points)) as a known answer: a new block that holds the points.
-/
import Derived.Test.YtihdlpeghlhnoaaGreatDoorAbShelf
import Derived.Laws.AppendOwn
set_option linter.all false
namespace Go.Ab
open Go.RowKit
variable {P : Program}

/-! ## a new block that lies anywhere behind -/
def Ctx.pushF (Γ : Ctx) (w' : World) (g : Nat) (sz : Nat × Nat) : Ctx :=
  { w := w', n := Γ.n + 1, ρ := fun i => if i = Γ.n then g else Γ.ρ i, ver := fun i => if i = Γ.n then 0 else Γ.ver i,
    bsz := fun i => if i = Γ.n then sz else Γ.bsz i, I := Γ.I }

theorem Good.pushF {Γ : Ctx} {H : Heap} {w' : World} {g : Nat} {cs : List AV} {c : Array Value} {t : TypeId} (s : Sim Γ H) (hb : Below Γ.w.heap.size Γ.w w') (hg : Γ.w.heap.size ≤ g)
    (hh : w'.heap[g]? = some (.cells c t (0, 0))) (hle : cs.length ≤ c.size) (hv : ∀ (i : Nat) (x : AV), cs[i]? = some x → x.one = true ∧ ∃ v, c[i]? = some v ∧ VR Γ x v) :
    Good H.length 0 (List.range H.length) Γ (Γ.pushF w' g (c.size, 0)) H (H ++ [.row 0 cs 0 false]) := by
  have hn := s.n
  have e : Evo Γ (Γ.pushF w' g (c.size, 0)) := by
    refine ⟨by simp [Ctx.pushF], fun i hi => by simp [Ctx.pushF, Nat.ne_of_lt hi], fun i hi _ => by simp [Ctx.pushF, Nat.ne_of_lt hi], fun i hi => ?_, fun b o hI => ⟨hI, ?_⟩, fun _ _ hI => .inl hI, fun b hb' _ => hb.block b hb', hb.size, hb.os, hb.tape, hb.output⟩
    · simp only [Ctx.pushF] at hi ⊢
      by_cases h : i = Γ.n
      · right; simp [h, hg]
      · left; exact ⟨by omega, by simp [h]⟩
    · simp only [Ctx.pushF, World.cell?, hb.block b (s.imm b o hI)]
  refine ⟨⟨by simp [Ctx.pushF, hn], fun id b hbb => ?_, fun i j hi hj hij => ?_, fun b o hI => Nat.lt_of_lt_of_le (s.imm b o hI) hb.size, s.glob.mono e⟩, e, fun k hk hw i b hi hbb => ?_, fun i hi => absurd hi (Nat.not_lt_zero _), fun i hi _ => ?_, by simp⟩
  · rcases Nat.lt_or_ge id H.length with hlt | hge
    · rw [List.getElem?_append_left hlt] at hbb
      have hne : id ≠ Γ.n := by omega
      refine (s.blk id b hbb).mono e (by simp [Ctx.pushF, hne]) (by simp [Ctx.pushF, hne]) ?_ (by simp [Ctx.pushF, hne])
      simp only [Ctx.pushF, hne, if_false]
      exact hb.block _ (s.lt hlt)
    · rw [List.getElem?_append_right hge] at hbb
      have hid : id = H.length := by
        have : id - H.length < [Blk.row 0 cs 0 false].length := (List.getElem?_eq_some_iff.1 hbb).1
        simp at this; omega
      subst hid
      simp at hbb
      subst hbb
      have hd : (Γ.pushF w' g (c.size, 0)).δ H.length = 0 := by simp [Ctx.δ, Ctx.pushF, hn]
      refine ⟨by simp [Ctx.pushF, hn], c, t, by simp [Ctx.pushF, hn, hh], by simp [Ctx.pushF, hn], by rw [hd, Nat.zero_add]; exact hle, by simp, fun i x hx => ?_, fun o _ hI => ?_⟩
      · rw [hd, Nat.zero_add]
        obtain ⟨h9, v, h10, h11⟩ := hv i x hx
        exact ⟨h9, v, h10, h11.mono e⟩
      · have := s.imm _ _ hI
        simp [Ctx.pushF, hn] at this
        omega
  · simp at hi hj
    simp only [Ctx.pushF] at hij
    by_cases h1 : i = Γ.n <;> by_cases h2 : j = Γ.n
    · omega
    · simp only [h1, h2, if_true, if_false] at hij
      have := s.lt (id := j) (by omega)
      omega
    · simp only [h1, h2, if_true, if_false] at hij
      have := s.lt (id := i) (by omega)
      omega
    · simp only [h1, h2, if_false] at hij
      exact s.inj i j (by omega) (by omega) hij
  · rw [List.getElem?_append_left (by omega)] at hbb
    exact hw i b hi hbb
  · rw [List.getElem?_append_left hi]

/-! ## points -/
def ptC (p : Int × Int) : List Value := [.int .i64 p.1, .int .i64 p.2]
def ptA (p : Int × Int) : List AV := [.int .i64 p.1, .int .i64 p.2]

/-- the slice value holds the points; or it has none -/
def PtsV (w : World) (sv : Value) (zs : List (Int × Int)) : Prop :=
  (∃ a cap, sv = .slice a 0 cap ∧ zs = []) ∨ ∃ b off cap, sv = .slice (some ⟨b, off, none⟩) zs.length cap ∧ b < w.heap.size ∧
    ∀ j, j < zs.length → w.cell? ⟨b, off + j * 2, none⟩ = some (.int .i64 (zs[j]?.getD (0, 0)).1) ∧ w.cell? ⟨b, off + j * 2 + 1, none⟩ = some (.int .i64 (zs[j]?.getD (0, 0)).2)

/-- what a text about the program says of slices.AppendSeq at slices.Values -/
def SeqOK (P : Program) (f it : FuncId) (t : TypeId) : Prop :=
  ∀ (Bs bo : Nat) (sv : Value) (zs : List (Int × Int)) (w : World), zs.length ≤ 1000000 → Bs < w.heap.size → w.cell? ⟨Bs, bo, none⟩ = some sv → PtsV w sv zs →
    Calls P f #[.slice none 0 0, .func (.func it) #[] #[.pointer (some ⟨Bs, bo, none⟩)]] w fun e w' =>
      ∃ v, e = .returned v ∧ w'.ownsRow w.heap.size t 2 v zs.length (zs.flatMap ptC) ∧ (v = .slice none 0 0 ↔ zs = []) ∧ Below w.heap.size w w'

def ptsOf : List AV → Option (List (Int × Int))
  | [] => some []
  | .agg [.int .i64 x, .int .i64 y] :: r => match ptsOf r with
    | some l => some ((x, y) :: l)
    | none => none
  | _ => none

theorem ptsOf_get : ∀ {l : List AV} {zs : List (Int × Int)}, ptsOf l = some zs → l.length = zs.length ∧ ∀ (i : Nat) (p : Int × Int), zs[i]? = some p → l[i]? = some (.agg (ptA p))
  | [], zs, h => by simp [ptsOf] at h; subst h; simp
  | a :: r, zs, h => by
    unfold ptsOf at h
    split at h
    · cases ‹a :: r = []›
    · rename_i x y r' heq
      simp only [List.cons.injEq] at heq
      obtain ⟨rfl, rfl⟩ := heq
      split at h
      · rename_i l hl
        simp only [Option.some.injEq] at h; subst h
        obtain ⟨h1, h2⟩ := ptsOf_get hl
        refine ⟨by simp [h1], fun i p hp => ?_⟩
        cases i with
        | zero => simp at hp; subst hp; rfl
        | succ i => simpa using h2 i p (by simpa using hp)
      · cases h
    · cases h

/-- the answer -/
def seqR (n : Nat) (zs : List (Int × Int)) : KRes := match zs with
  | [] => { v := .nils }
  | p :: r => { v := .vec n 0 0 (r.length + 1) 2, news := [.row 0 ((p :: r).flatMap ptA) 0 false] }
def seqX (n : Nat) : AV → Option KRes
  | .nils => some (seqR n [])
  | .lst 2 _ xs => match ptsOf xs with
    | some zs => if Nat.ble zs.length 1000000 then some (seqR n zs) else none
    | none => none
  | _ => none
def seqK (it : FuncId) : List AV → Heap → Option KRes
  | [.nils, .fn f [] [.ptr id ver 0]], H => if f = it then (match H[id]? with
    | some (.row ver' (x :: _) _ _) => if ver' = ver then seqX H.length x else none
    | _ => none) else none
  | _, _ => none

theorem seqX_pts {Γ : Ctx} {H : Heap} (s : Sim Γ H) {n : Nat} {x : AV} {v : Value} {k : KRes} (h : seqX n x = some k) (hv : VR Γ x v) : ∃ zs, k = seqR n zs ∧ zs.length ≤ 1000000 ∧ PtsV Γ.w v zs := by
  unfold seqX at h
  split at h
  · simp only [Option.some.injEq] at h
    cases hv
    exact ⟨[], h.symm, by simp, .inl ⟨_, _, rfl, rfl⟩⟩
  · rename_i ex xs
    split at h <;> try (cases h; done)
    rename_i zs hz
    split at h <;> try (cases h; done)
    rename_i hl
    have hl := Nat.le_of_ble_eq_true hl
    simp only [Option.some.injEq] at h
    obtain ⟨h1, h2⟩ := ptsOf_get hz
    refine ⟨zs, h.symm, hl, ?_⟩
    cases hv with
    | emp _ _ a cap hex =>
      have : zs = [] := List.eq_nil_of_length_eq_zero (by simpa using h1.symm)
      exact .inl ⟨_, _, rfl, this⟩
    | lst _ _ _ b o cap g hlc hex hsz hcell hvv =>
      by_cases hn : zs = []
      · subst hn
        have : xs = [] := List.eq_nil_of_length_eq_zero (by simpa using h1)
        subst this
        exact .inl ⟨_, _, rfl, rfl⟩
      · have hc : ∀ (j : Nat) (p : Int × Int), zs[j]? = some p → (Γ.w.cell? ⟨b, o + j * 2, none⟩ = some (.int .i64 p.1) ∧ Γ.w.cell? ⟨b, o + j * 2 + 1, none⟩ = some (.int .i64 p.2)) ∧ Γ.I b (o + j * 2) := fun j p hp => by
          have h3 := h2 j p hp
          have a1 := hcell j _ 0 (.int .i64 p.1) h3 rfl
          have a2 := hcell j _ 1 (.int .i64 p.2) h3 rfl
          have b1 := hvv j _ 0 (.int .i64 p.1) h3 rfl
          have b2 := hvv j _ 1 (.int .i64 p.2) h3 rfl
          simp only [Nat.add_zero] at a1
          generalize g j 0 = u at a1 b1
          generalize g j 1 = u' at a2 b2
          cases b1; cases b2
          exact ⟨⟨a1.1, a2.1⟩, a1.2⟩
        have hbk : b < Γ.w.heap.size := by
          obtain ⟨p, r, rfl⟩ := List.exists_cons_of_ne_nil hn
          exact s.imm b _ (hc 0 p rfl).2
        refine .inr ⟨b, o, cap, by rw [h1], hbk, fun j hj => ?_⟩
        have hp : zs[j]? = some zs[j] := List.getElem?_eq_getElem hj
        rw [hp]
        exact (hc j _ hp).1
  · cases h

theorem seq_known {f it : FuncId} {t : TypeId} (J : SeqOK P f it t) {args : List AV} {H : Heap} {k : KRes} (h : seqK it args H = some k) : CallsTo P f H.length 0 (List.range H.length) args H k.v (applyUps k.ups H ++ k.news) := by
  unfold seqK at h
  split at h <;> try (cases h; done)
  rename_i f' id ver
  split at h <;> try (cases h; done)
  rename_i hf; subst hf
  split at h <;> try (cases h; done)
  rename_i ver' x cs fz ex hrow
  split at h <;> try (cases h; done)
  rename_i hver; subst hver
  intro Γ us s hv
  obtain ⟨u1, r1, rfl, hx, hr⟩ := hv.of_cons
  obtain ⟨u2, r2, rfl, hs, hr⟩ := hr.of_cons
  obtain rfl := hr.of_nil
  cases hx
  cases hs with
  | fn _ _ _ us vs hl hl' hvu hvv =>
  have e1 : us = #[] := Array.eq_empty_of_size_eq_zero (by simpa using hl.symm)
  subst e1
  obtain ⟨p, rfl⟩ : ∃ p, vs = #[p] := by
    have : vs.size = 1 := by simpa using hl'.symm
    exact ⟨vs[0], Array.ext (by simp [this]) (fun i h1 h2 => by simp at h2; subst h2; rfl)⟩
  have hp := hvv 0 _ p rfl rfl
  cases hp with
  | ptr _ _ _ a hn hle hpa =>
  obtain ⟨g2, c, t', g3, g4, g5, g6, g7, g8⟩ := s.blk id _ hrow
  obtain rfl := hpa g2
  obtain ⟨_, v, hvc, hvx⟩ := g7 0 x rfl
  obtain ⟨zs, rfl, hzl, hpts⟩ := seqX_pts s h hvx
  have hcell : Γ.w.cell? ⟨Γ.ρ id, Γ.δ id + 0, none⟩ = some v := (cell_iff g3).trans hvc
  refine (J (Γ.ρ id) (Γ.δ id + 0) v zs Γ.w hzl (Array.getElem?_eq_some_iff.1 g3).1 hcell hpts).mono ?_
  rintro e w' ⟨v', rfl, hown, hnil, hbl⟩
  cases zs with
  | nil =>
    obtain rfl := hnil.2 rfl
    refine ⟨{ Γ with w := w' }, _, rfl, rfl, .nils, ?_⟩
    have e0 : applyUps [] H ++ ([] : List Blk) = H := by simp [applyUps]
    show Good _ _ _ _ _ _ (applyUps [] H ++ [])
    rw [e0]; exact Good.below s hbl
  | cons p r =>
    rcases hown.2 with ⟨rfl, _⟩ | ⟨g, cap, cur, rfl, hbase, hgb, hn1, hn2, hn3, hn4⟩
    · exact absurd (hnil.1 rfl) (by simp)
    · have hlenA : ((p :: r).flatMap ptA).length = (r.length + 1) * 2 := by
        have : ∀ l : List (Int × Int), (l.flatMap ptA).length = l.length * 2 := fun l => by
          induction l with
          | nil => rfl
          | cons a l ih => simp [ptA, ih] at ih ⊢; omega
        simpa using this (p :: r)
      have hget : ∀ (l : List (Int × Int)) (i : Nat) (x : AV), (l.flatMap ptA)[i]? = some x → x.one = true ∧ ∃ u, (l.flatMap ptC)[i]? = some u ∧ VR Γ x u := fun l => by
        induction l with
        | nil => intro i x h; simp at h
        | cons a l ih =>
          intro i x h
          simp only [List.flatMap_cons, ptA, ptC, List.cons_append, List.nil_append] at h ⊢
          match i, h with
          | 0, h => simp at h; subst h; exact ⟨rfl, _, rfl, .int _ _⟩
          | 1, h => simp at h; subst h; exact ⟨rfl, _, rfl, .int _ _⟩
          | i + 2, h => simpa using ih i x (by simpa using h)
      have hsz : (r.length + 1) * 2 ≤ cur.size := by
        simp only [List.length_cons] at hn1
        rw [hn3]; omega
      have hG := Good.pushF (cs := (p :: r).flatMap ptA) s hbl hbase hgb (by rw [hlenA]; exact hsz) fun i x hx => by
        obtain ⟨h1, u, h2, h3⟩ := hget _ i x hx
        refine ⟨h1, u, ?_, h3⟩
        rw [← hn4, List.getElem?_take] at h2
        split at h2
        · rw [← Array.getElem?_toList]; exact h2
        · cases h2
      refine ⟨Γ.pushF w' g (cur.size, 0), _, rfl, rfl, ?_, ?_⟩
      rotate_left
      · show Good _ _ _ _ _ _ (applyUps [] H ++ [Blk.row 0 ((p :: r).flatMap ptA) 0 false])
        exact hG
      · show VR _ (.vec H.length 0 0 (r.length + 1) 2) _
        have hn := s.n
        refine .vec _ _ _ _ _ _ _ (by simp [Ctx.pushF, hn]) (by simp) fun _ => ⟨by simp [Ctx.pushF, Ctx.δ, hn], ?_, hn1⟩
        simp [Ctx.pushF, Ctx.δ, hn]
        omega

/-! ## slices.Grow(nil, n) -/
def GrowOK (P : Program) (f : FuncId) (t : TypeId) (sz : Nat) : Prop :=
  (∀ w : World, Calls P f #[.slice none 0 0, .int .i64 0] w fun e w' => e = .returned (.slice none 0 0) ∧ w' = w) ∧
  ∀ (n : Nat) (w : World), 0 < n → n ≤ 1000000 → Calls P f #[.slice none 0 0, .int .i64 n] w fun e w' =>
    ∃ g cap cur, e = .returned (.slice (some ⟨g, 0, none⟩) 0 cap) ∧ w.heap.size ≤ g ∧ w'.heap[g]? = some (.cells cur t (0, 0)) ∧ cur.size = cap * sz ∧ Below w.heap.size w w'

def growK (sz : Nat) : List AV → Heap → Option KRes
  | [.nils, .int .i64 n], H => match n with
    | .ofNat 0 => some { v := .nils }
    | .ofNat (m + 1) => if Nat.ble (m + 1) 1000000 then some { v := .vec H.length 0 0 0 sz, news := [.row 0 [] 0 false] } else none
    | _ => none
  | _, _ => none

theorem grow_known {f : FuncId} {t : TypeId} {sz : Nat} (J : GrowOK P f t sz) {args : List AV} {H : Heap} {k : KRes} (h : growK sz args H = some k) : CallsTo P f H.length 0 (List.range H.length) args H k.v (applyUps k.ups H ++ k.news) := by
  unfold growK at h
  split at h <;> try (cases h; done)
  rename_i n
  intro Γ us s hv
  obtain ⟨u1, r1, rfl, hx, hr⟩ := hv.of_cons
  obtain ⟨u2, r2, rfl, hs, hr⟩ := hr.of_cons
  obtain rfl := hr.of_nil
  cases hx; cases hs
  split at h
  · simp only [Option.some.injEq] at h; subst h
    refine (J.1 Γ.w).mono fun e w' ⟨h1, h2⟩ => ⟨Γ, _, h1, h2.symm, .nils, ?_⟩
    have e0 : applyUps [] H ++ ([] : List Blk) = H := by simp [applyUps]
    show Good _ _ _ _ _ _ (applyUps [] H ++ [])
    rw [e0]; exact Good.refl s
  · rename_i m
    split at h <;> try (cases h; done)
    rename_i hm
    have hm := Nat.le_of_ble_eq_true hm
    simp only [Option.some.injEq] at h; subst h
    refine (J.2 (m + 1) Γ.w (by omega) hm).mono ?_
    rintro e w' ⟨g, cap, cur, rfl, hg, hgb, hcs, hbl⟩
    have hn := s.n
    refine ⟨Γ.pushF w' g (cur.size, 0), _, rfl, rfl, ?_, ?_⟩
    rotate_left
    · show Good _ _ _ _ _ _ (applyUps [] H ++ [Blk.row 0 [] 0 false])
      exact Good.pushF (cs := []) s hbl hg hgb (by simp) fun i x hx => by simp at hx
    · show VR _ (.vec H.length 0 0 0 sz) _
      refine .vec _ _ _ _ _ _ _ (by simp [Ctx.pushF, hn]) (by simp) fun _ => ⟨by simp [Ctx.pushF, Ctx.δ, hn], ?_, Nat.zero_le _⟩
      simp [Ctx.pushF, Ctx.δ, hn]
      omega
  · cases h
end Go.Ab
