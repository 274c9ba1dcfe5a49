/-
  Part of the proved evaluator, or answers that it computed.
-/
import Derived.Test.YtihdlpeghlhnoaaGreatDoorAbFrz
import Derived.Test.YtihdlpeghlhnoaaGreatDoorAbComp
import Derived.Laws.MakeOwn
import Derived.Great.BuildSlice
set_option linter.all false
namespace Go.Ab
variable {P : Program}

structure Fits (nt : Nat) (Γ : Ctx) (fr : Frame) (a : Act) : Prop where
  fr : ∀ t v, fget t fr = some v → VR Γ v (a.tmps.getD t undef)
  size : a.tmps.size = nt
  defers : a.defers = []
  glob : GlobOK Γ

theorem Fits.mono {nt : Nat} {Γ Δ : Ctx} {fr : Frame} {a : Act} (e : Evo Γ Δ) (h : Fits nt Γ fr a) : Fits nt Δ fr a := ⟨fun t v hv => (h.fr t v hv).mono e, h.size, h.defers, h.glob.mono e⟩

/-! ## constants and operands -/
theorem flat1_VR {Γ : Ctx} {v : Value} {x : AV} (h : ofV.flat1 v = some x) : VR Γ x v ∧ x.one = true := by
  unfold ofV.flat1 at h
  split at h <;> first | (cases h; done) | (simp only [Option.some.injEq] at h; subst h; exact ⟨by constructor, rfl⟩)

theorem flats_VR {Γ : Ctx} : ∀ {l : List Value} {xs : List AV}, ofV.flats l = some xs → VRs Γ xs l ∧ ∀ c ∈ xs, c.one = true
  | [], xs, h => by simp [ofV.flats] at h; subst h; exact ⟨VRs.nil, by simp⟩
  | v :: r, xs, h => by
    simp only [ofV.flats] at h
    split at h
    · rename_i x ys hx hy
      simp only [Option.some.injEq] at h; subst h
      obtain ⟨h1, h2⟩ := flat1_VR (Γ := Γ) hx
      obtain ⟨h3, h4⟩ := flats_VR (Γ := Γ) hy
      refine ⟨VRs.cons h1 h3, fun c hc => ?_⟩
      rcases List.mem_cons.1 hc with rfl | hc
      · exact h2
      · exact h4 c hc
    · cases h

theorem ofV_VR {Γ : Ctx} {v : Value} {x : AV} (h : ofV v = some x) : VR Γ x v := by
  unfold ofV at h
  split at h <;> try (simp only [Option.some.injEq] at h; subst h; constructor; done)
  · rename_i cs
    cases hf : ofV.flats cs.toList with
    | none => simp [hf] at h
    | some xs =>
      simp only [hf, Option.map_some, Option.some.injEq] at h
      subst h
      obtain ⟨h1, h2⟩ := flats_VR (Γ := Γ) hf
      exact .agg _ _ (by simpa using h1.1) h2 (fun i c v hc hv => h1.2 i c v hc (by simpa using hv))
  · split at h
    · rename_i h0; simp only [Option.some.injEq] at h; subst h
      exact .tup _ _ (by simp [h0]) (by simp)
    · cases h
  · cases h

theorem opd_VR {nt : Nat} {Γ : Ctx} {fr : Frame} {a : Act} (F : Fits nt Γ fr a) {x : Operand} {y : Opd} {v : AV} (hc : cOpd x = some y) (hv : y.ev fr = some v) : VR Γ v (a.eval x) := by
  cases x with
  | tmp t => simp [cOpd] at hc; subst hc; exact F.fr t v hv
  | const u =>
    simp only [cOpd] at hc
    cases hu : ofV u with
    | none => simp [hu] at hc
    | some z => simp [hu] at hc; subst hc; simp [Opd.ev] at hv; subst hv; exact ofV_VR hu
  | func f =>
    simp [cOpd] at hc; subst hc; simp [Opd.ev] at hv; subst hv
    exact .fn f [] [] #[] #[] rfl rfl (by simp) (by simp)
  | global g =>
    simp only [cOpd] at hc
    cases hg : globs g with
    | none => simp [hg] at hc
    | some z => simp [hg] at hc; subst hc; simp [Opd.ev] at hv; subst hv; exact (F.glob g z hg).2

theorem opds_VR {nt : Nat} {Γ : Ctx} {fr : Frame} {a : Act} (F : Fits nt Γ fr a) : ∀ {l : List Operand} {ys : List Opd} {vs : List AV}, cOpds l = some ys → evs fr ys = some vs → VRs Γ vs (l.map a.eval)
  | [], ys, vs, hc, hv => by simp [cOpds] at hc; subst hc; simp [evs] at hv; subst hv; exact VRs.nil
  | x :: r, ys, vs, hc, hv => by
    simp only [cOpds] at hc
    split at hc
    · rename_i y ys' hy hys
      simp only [Option.some.injEq] at hc; subst hc
      simp only [evs] at hv
      split at hv
      · rename_i v hv1
        split at hv
        · rename_i vs' hv2
          simp only [Option.some.injEq] at hv; subst hv
          exact VRs.cons (opd_VR F hy hv1) (opds_VR F hys hv2)
        · cases hv
      · cases hv
    · cases hc

/-! ## types -/
theorem run_size {t : TypeId} {n : Nat} (h : sizeT P t = some n) (w : World) : (sizeOf t).run P w = .ok n w := by
  unfold sizeT at h
  cases hi : P.info? t with
  | none => simp [hi] at h
  | some i => simp [hi] at h; subst h; simp [sizeOf, typeInfo, hi]

theorem tiOf_size {t : TypeId} {ti : TI} (h : tiOf P t = some ti) : sizeT P t = some ti.size := by
  unfold tiOf at h
  unfold sizeT
  split at h <;> try (cases h; done)
  all_goals rename_i hi; simp only [hi, Option.map_some]
  · simp only [Option.some.injEq] at h; subst h; rfl
  · simp only [Option.some.injEq] at h; subst h; rfl
  · split at h
    · rename_i h1; simp only [Option.some.injEq] at h; subst h; simp [h1]
    · cases h

theorem run_agg {t : TypeId} {ti : TI} (h : tiOf P t = some ti) (w : World) : (isAgg t).run P w = .ok ti.agg w := by
  unfold tiOf at h
  split at h <;> try (cases h; done)
  all_goals rename_i hu hi
  · simp only [Option.some.injEq] at h; subst h; simp [isAgg, run_underlying hu]
  · simp only [Option.some.injEq] at h; subst h; simp [isAgg, run_underlying hu]
  · rename_i d _ hns hna
    split at h
    · simp only [Option.some.injEq] at h; subst h
      simp only [isAgg, Sem.run_bind, run_underlying hu, Result.andThen_ok]
      cases d <;> first | rfl | (exact (hns _ rfl).elim) | (exact (hna _ _ rfl).elim)
    · cases h

theorem ti_one {t : TypeId} {ti : TI} (h : tiOf P t = some ti) (ha : ti.agg = false) : ti.size = 1 := by
  unfold tiOf at h
  split at h <;> try (cases h; done)
  · simp only [Option.some.injEq] at h; subst h; cases ha
  · simp only [Option.some.injEq] at h; subst h; cases ha
  · split at h
    · simp only [Option.some.injEq] at h; subst h; rfl
    · cases h

/-! ## what can be read at an address -/
def Rd (Γ : Ctx) (b o : Nat) (cs : List AV) : Prop := ∀ (j : Nat) (c : AV), cs[j]? = some c → c.one = true ∧ ∃ v, Γ.w.cell? ⟨b, o + j, none⟩ = some v ∧ VR Γ c v

theorem Rd.of_row {Γ : Ctx} {H : Heap} (s : Sim Γ H) {id ver fz : Nat} {ex : Bool} {cs : List AV} (hid : H[id]? = some (.row ver cs fz ex)) : Rd Γ (Γ.ρ id) (Γ.δ id) cs := by
  obtain ⟨ver1, cs1, fz1, ex1, e1, e2, c, t, e3, e4, e5, e6, e7, e8⟩ := s.row id _ hid
  simp only [Blk.row.injEq] at e1
  obtain ⟨rfl, rfl, rfl, rfl⟩ := e1
  intro j x hx
  obtain ⟨h1, v, h2, h3⟩ := e7 j x hx
  exact ⟨h1, v, by rw [cell_iff e3]; simpa using h2, h3⟩

theorem Rd.drop {Γ : Ctx} {b o : Nat} {cs : List AV} (h : Rd Γ b o cs) (n : Nat) : Rd Γ b (o + n) (cs.drop n) := fun j c hc => by
  rw [List.getElem?_drop] at hc
  simpa [Nat.add_assoc] using h _ c hc

theorem Rd.take {Γ : Ctx} {b o : Nat} {cs : List AV} (h : Rd Γ b o cs) (n : Nat) : Rd Γ b o (cs.take n) := fun j c hc => by
  rw [List.getElem?_take] at hc
  split at hc
  · exact h _ c hc
  · cases hc

theorem add_at (b o j : Nat) : (⟨b, o, none⟩ : Addr).add j = ⟨b, o + j, none⟩ := by
  unfold Addr.add; split <;> simp_all

theorem Rd.list {Γ : Ctx} {b o : Nat} {cs : List AV} (h : Rd Γ b o cs) : ∃ us : List Value, VRs Γ cs us ∧ (∀ c ∈ cs, c.one = true) ∧ ∀ j u, us[j]? = some u → Γ.w.cell? ((⟨b, o, none⟩ : Addr).add j) = some u := by
  induction cs generalizing o with
  | nil => exact ⟨[], VRs.nil, by simp, by simp⟩
  | cons c r ih =>
    obtain ⟨h1, v, h2, h3⟩ := h 0 c (by simp)
    obtain ⟨us, h4, h5, h6⟩ := ih (o := o + 1) (by simpa using h.drop 1)
    refine ⟨v :: us, VRs.cons h3 h4, by simpa [h1] using h5, fun j u hu => ?_⟩
    cases j with
    | zero => simp at hu; subst hu; rw [add_at]; exact h2
    | succ j =>
      simp at hu
      have := h6 j u hu
      rw [add_at] at this ⊢
      rwa [show o + (j + 1) = o + 1 + j from by omega]

/-- a variable is read -/
theorem load_rd {Γ : Ctx} {b o : Nat} {cs : List AV} {t : TypeId} {ti : TI} (ht : tiOf P t = some ti) (h : Rd Γ b o cs) {off : Nat} {v : AV} (hp : part ti cs off = some v) :
    ∃ v', (loadVar t ⟨b, o + off, none⟩).run P Γ.w = .ok v' Γ.w ∧ VR Γ v v' := by
  unfold part at hp
  unfold loadVar
  simp only [Sem.run_bind, run_agg ht, Result.andThen_ok]
  cases ha : ti.agg with
  | true =>
    rw [ha] at hp
    simp only [if_true] at hp ⊢
    split at hp
    · rename_i hle
      simp only [Option.some.injEq] at hp; subst hp
      obtain ⟨us, h1, h2, h3⟩ := ((h.drop off).take ti.size).list
      have hlen : us.length = ti.size := by rw [← h1.1]; simp; omega
      have hl := run_loadCells_list (P := P) Γ.w ⟨b, o + off, none⟩ us h3
      rw [hlen] at hl
      simp only [Sem.run_bind, run_size (tiOf_size ht), Result.andThen_ok, hl, Sem.run_pure]
      exact ⟨_, rfl, .agg _ _ (by simpa using h1.1) h2 (fun i c v hc hv => h1.2 i c v hc (by simpa using hv))⟩
    · cases hp
  | false =>
    rw [ha] at hp
    simp only [Bool.false_eq_true, if_false] at hp ⊢
    obtain ⟨h1, u, h2, h3⟩ := h off v hp
    refine ⟨u, ?_, h3⟩
    simp [load, Sem.run, h2]

theorem Rd.of_fp {Γ : Ctx} {x : AV} {b o : Nat} {f : Nat → Value} (h1 : ∀ c ∈ x.cells, c.one = true) (hcell : ∀ (j : Nat) (c : AV), x.cells[j]? = some c → Γ.w.cell? ⟨b, o + j, none⟩ = some (f j) ∧ Γ.I b (o + j))
    (hv : ∀ (j : Nat) (c : AV), x.cells[j]? = some c → VR Γ c (f j)) : Rd Γ b o x.cells := fun j c hc => ⟨h1 c (List.mem_of_getElem? hc), f j, (hcell j c hc).1, hv j c hc⟩

theorem aload_sound {Γ : Ctx} {H : Heap} (s : Sim Γ H) {t : TypeId} {ti : TI} (ht : tiOf P t = some ti) {p v : AV} {u : Value} (hp : VR Γ p u) (h : aload H ti p = some v) :
    ∃ v', (Instr.loadAt t u).run P Γ.w = .ok v' Γ.w ∧ VR Γ v v' := by
  cases hp with
  | ptr id ver off a hn hle ha =>
    simp only [aload] at h
    split at h
    · rename_i ver' cs fz ex hid
      split at h
      · rename_i hv; subst hv
        obtain ⟨ver1, cs1, fz1, ex1, e1, e2, _⟩ := s.row id _ hid
        simp only [Blk.row.injEq] at e1
        obtain ⟨rfl, _⟩ := e1
        rw [ha e2]
        obtain ⟨v', h1, h2⟩ := load_rd ht (Rd.of_row s hid) h
        exact ⟨v', by simpa [Instr.loadAt, Instr.sureAddr] using h1, h2⟩
      · cases h
    · cases h
  | fp x b o f h1 hcell hv =>
    have hrd := Rd.of_fp h1 hcell hv
    have key : part ti x.cells 0 = some v := by
      simp only [aload] at h
      unfold part
      cases ha : ti.agg with
      | true =>
        rw [ha] at h
        cases x <;> simp only [reduceCtorEq] at h
        rename_i cs
        split at h
        · rename_i hl
          simp only [Option.some.injEq] at h; subst h
          simp [AV.cells, ← hl]
        · cases h
      | false =>
        rw [ha] at h
        cases x <;> first | (simp only [reduceCtorEq] at h; done) | (simp only [Option.some.injEq] at h; subst h; rfl)
    obtain ⟨v', h2, h3⟩ := load_rd ht hrd key
    exact ⟨v', by simpa [Instr.loadAt, Instr.sureAddr] using h2, h3⟩
  | _ => simp [aload] at h

end Go.Ab
