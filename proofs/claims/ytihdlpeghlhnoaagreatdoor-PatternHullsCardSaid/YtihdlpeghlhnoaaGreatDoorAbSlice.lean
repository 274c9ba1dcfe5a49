/-
  Part of the proved evaluator, or answers that it computed.
-/
import Derived.Test.YtihdlpeghlhnoaaGreatDoorAbAll
set_option linter.all false
namespace Go.Ab
variable {P : Program}

/-- the kind of a slice expression, as its type says -/
def skOf (P : Program) (t : TypeId) : Option SK :=
  match P.underlying t with
  | some .string => some .str
  | some (.slice e) => (sizeT P e).map .slc
  | some (.array n e) => (sizeT P e).map (.arr n)
  | _ => none

theorem drop_take_get {α : Type} {xs : List α} {h l i : Nat} {x : α} (hx : ((xs.take h).drop l)[i]? = some x) : xs[l + i]? = some x := by
  rw [List.getElem?_drop, List.getElem?_take] at hx
  split at hx
  · exact hx
  · cases hx

theorem slice_sound {Γ : Ctx} {H : Heap} (s : Sim Γ H) {t : TypeId} {k : SK} (hk : skOf P t = some k) {x v : AV} {xu : Value} (hx : VR Γ x xu) {lo hi mx : Option AV} {lou hiu mxu : Option Value}
    (hlo : Opts Γ lo lou) (hhi : Opts Γ hi hiu) (hmx : Opts Γ mx mxu) (hmxhi : mx.isSome = true → hi.isSome = true) (h : aslice H k x lo hi mx = some v) :
    ∃ v', (Instr.sliceAt t xu lou hiu mxu).run P Γ.w = .ok v' Γ.w ∧ VR Γ v v' := by
  unfold skOf at hk
  split at hk <;> try (cases hk; done)
  all_goals rename_i hu
  · -- a string
    simp only [Option.some.injEq] at hk; subst hk
    cases hx <;> simp only [aslice, reduceCtorEq] at h
    rename_i st
    split at h
    · cases h
    · rename_i hmx0
      split at h
      · rename_i hh e2
        split at h
        · rename_i l e3
          simp only [Option.some.injEq] at h; subst h
          have e0 := hmx.none rfl
          subst e0
          obtain ⟨m', hr, _⟩ := bounds_sound (P := P) hlo hhi hmx (Nat.le_refl st.size) (e1 := rfl) e2 e3 rfl (by simp) false Γ.w
          refine ⟨_, ?_, .str _⟩
          simp [Instr.sliceAt, Instr.slice, run_underlying hu, hr]
        · cases h
      · cases h
  · -- a slice
    rename_i e
    cases hs : sizeT P e with
    | none => simp [hs] at hk
    | some sz =>
      simp only [hs, Option.map_some, Option.some.injEq] at hk; subst hk
      have hsize := run_size hs Γ.w
      cases hx with
      | nils =>
        simp only [aslice] at h
        split at h
        · rename_i m e1
          split at h
          · rename_i hh e2
            split at h
            · rename_i l e3
              simp only [Option.some.injEq] at h; subst h
              obtain ⟨m', hr, h1, h2, h3, h4, h5, h6, h7⟩ := bounds_sound (P := P) hlo hhi hmx (Nat.le_refl 0) e1 e2 e3 rfl hmxhi true Γ.w
              have hm : m = 0 := by
                cases mx with
                | none => simpa [optBound] using e1.symm
                | some mv =>
                  simp only [optBound, bound1] at e1
                  split at e1
                  · split at e1
                    · simp only [Option.some.injEq] at e1; omega
                    · cases e1
                  · cases e1
              have hh0 : hh = 0 := by
                by_cases hi0 : hi = none
                · exact h6 hi0
                · have := h7 hi0; omega
              have hl0 : l = 0 := by
                by_cases lo0 : lo = none
                · exact h4 lo0
                · have := h5 lo0; omega
              have hm0 : m' = 0 := by
                cases mx with
                | none => exact h3 rfl
                | some mv => rw [h2 rfl]; exact hm
              subst hh0 hl0 hm0
              refine ⟨_, ?_, .nils⟩
              simp [Instr.sliceAt, Instr.slice, run_underlying hu, hr, hsize]
            · cases h
          · cases h
        · cases h
      | emp sz' ex a0 cap hex =>
        simp only [aslice, List.length_nil] at h
        split at h
        · cases h
        · rename_i hse
          have hse : sz = sz' := by simpa using hse
          subst hse
          split at h
          · rename_i m e1
            split at h
            · rename_i hh e2
              split at h
              · rename_i l e3
                simp only [Option.some.injEq] at h; subst h
                obtain ⟨m', hr, h1, h2, h3, h4, h5, h6, h7⟩ := bounds_sound (P := P) hlo hhi hmx (Nat.zero_le cap) e1 e2 e3 rfl hmxhi true Γ.w
                have hmle : m ≤ 0 := by
                  cases mx with
                  | none => simp only [optBound, Option.some.injEq] at e1; omega
                  | some mv =>
                    simp only [optBound, bound1] at e1
                    split at e1
                    · split at e1
                      · simp only [Option.some.injEq] at e1; omega
                      · cases e1
                    · cases e1
                have hhle : hh ≤ 0 ∧ hh ≤ m := by
                  by_cases hi0 : hi = none
                  · have h8 := h6 hi0
                    refine ⟨by omega, ?_⟩
                    cases mx with
                    | none => simp only [optBound, Option.some.injEq] at e1; omega
                    | some mv => have := hmxhi rfl; rw [hi0] at this; cases this
                  · have := h7 hi0; omega
                have hlle : l ≤ hh := by
                  by_cases lo0 : lo = none
                  · rw [h4 lo0]; omega
                  · exact h5 lo0
                have hrun : (Instr.sliceAt t (.slice (some a0) 0 cap) lou hiu mxu).run P Γ.w = .ok (.slice (if m' = l then some a0 else some (a0.add (l * sz))) (hh - l) (m' - l)) Γ.w := by
                  simp [Instr.sliceAt, Instr.slice, run_underlying hu, hr, hsize]
                have hh0 : hh - l = 0 := by omega
                refine ⟨_, hrun, ?_⟩
                have hx0 : ((([] : List AV).take hh).drop l) = [] := by simp
                rw [hh0]
                have fin : ∀ a', VR Γ (.lst sz (mx.isSome && m == hh || mx.isNone && ex && hh == 0) ((([] : List AV).take hh).drop l)) (.slice (some a') 0 (m' - l)) := fun a' => by
                  rw [hx0]
                  refine .emp _ _ _ _ fun he => ?_
                  cases mx with
                  | none =>
                    simp at he
                    have := hex he.1
                    have := h3 rfl
                    omega
                  | some mv =>
                    simp at he
                    have := h2 rfl
                    omega
                by_cases hml : m' = l
                · rw [if_pos hml]; exact fin _
                · rw [if_neg hml]; exact fin _
              · cases h
            · cases h
          · cases h
      | lst sz' ex xs b o cap f hlc hex hsz hcell hv =>
        simp only [aslice] at h
        split at h
        · cases h
        · rename_i hse
          have hse : sz = sz' := by simpa using hse
          subst hse
          split at h
          · rename_i m e1
            split at h
            · rename_i hh e2
              split at h
              · rename_i l e3
                simp only [Option.some.injEq] at h; subst h
                obtain ⟨m', hr, h1, h2, h3, h4, h5, h6, h7⟩ := bounds_sound (P := P) hlo hhi hmx hlc e1 e2 e3 rfl hmxhi true Γ.w
                have hmle : m ≤ xs.length := by
                  cases mx with
                  | none => simp only [optBound, Option.some.injEq] at e1; omega
                  | some mv =>
                    simp only [optBound, bound1] at e1
                    split at e1
                    · split at e1
                      · simp only [Option.some.injEq] at e1; omega
                      · cases e1
                    · cases e1
                have hhle : hh ≤ xs.length ∧ hh ≤ m := by
                  by_cases hi0 : hi = none
                  · have h8 := h6 hi0
                    refine ⟨by omega, ?_⟩
                    cases mx with
                    | none => simp only [optBound, Option.some.injEq] at e1; omega
                    | some mv => have := hmxhi rfl; rw [hi0] at this; cases this
                  · have := h7 hi0; omega
                have hlle : l ≤ hh := by
                  by_cases lo0 : lo = none
                  · rw [h4 lo0]; omega
                  · exact h5 lo0
                have hlen : ((xs.take hh).drop l).length = hh - l := by simp; omega
                have hrun : (Instr.sliceAt t (.slice (some ⟨b, o, none⟩) xs.length cap) lou hiu mxu).run P Γ.w = .ok (.slice (if m' = l then some ⟨b, o, none⟩ else some ((⟨b, o, none⟩ : Addr).add (l * sz))) (hh - l) (m' - l)) Γ.w := by
                  simp [Instr.sliceAt, Instr.slice, run_underlying hu, hr, hsize]
                have key : ∀ o', (m' ≠ l → o' = o + l * sz) → VR Γ (.lst sz (mx.isSome && m == hh || mx.isNone && ex && hh == xs.length) ((xs.take hh).drop l)) (.slice (some ⟨b, o', none⟩) (hh - l) (m' - l)) := fun o' ho => by
                  have hv' := VR.lst (Γ := Γ) sz (mx.isSome && m == hh || mx.isNone && ex && hh == xs.length) ((xs.take hh).drop l) b o' (m' - l) (fun i j => f (l + i) j) (by rw [hlen]; omega) (fun he => ?_)
                    (fun x hx => hsz x (List.mem_of_mem_take (List.mem_of_mem_drop hx))) (fun i x j c hx hc => ?_) (fun i x j c hx hc => hv _ x j c (drop_take_get hx) hc)
                  · rw [hlen] at hv'; exact hv'
                  · rw [hlen]
                    cases mx with
                    | none =>
                      simp at he
                      have := hex he.1
                      have := h3 rfl
                      omega
                    | some mv =>
                      simp at he
                      have := h2 rfl
                      omega
                  · have hlt : i < hh - l := by rw [← hlen]; exact (List.getElem?_eq_some_iff.1 hx).1
                    have := hcell _ x j c (drop_take_get hx) hc
                    rw [ho (by omega)]
                    rwa [Nat.add_mul, ← Nat.add_assoc] at this
                refine ⟨_, hrun, ?_⟩
                by_cases hml : m' = l
                · rw [if_pos hml]; exact key o (fun h => absurd hml h)
                · rw [if_neg hml, add_at]; exact key _ (fun _ => rfl)
              · cases h
            · cases h
          · cases h
      | vec id ver off len sz' a cap hn hle ha =>
        simp only [aslice] at h
        split at h
        · cases h
        · rename_i hse
          have hse : sz = sz' ∧ sz ≠ 0 := by omega
          obtain ⟨rfl, hsz0⟩ := hse
          split at h
          · rename_i mv
            split at h
            · rename_i ver' cs fz ex hid
              split at h
              · cases h
              · rename_i hver
                have hver : ver' = ver := by simpa using hver
                subst hver
                obtain ⟨ver1, cs1, fz1, ex1, e1, e2, c, tt, e3, e4, e5, e6, e7, e8⟩ := s.row id _ hid
                simp only [Blk.row.injEq] at e1
                obtain ⟨rfl, rfl, rfl, rfl⟩ := e1
                obtain ⟨rfl, hb, hcap⟩ := ha e2
                rw [e4] at hb
                split at h
                · rename_i m em
                  split at h
                  · rename_i hh eh
                    split at h
                    · rename_i l el
                      simp only [Option.some.injEq] at h; subst h
                      have hcc : (cs.length - off) / sz ≤ cap := by
                        apply Nat.div_le_of_le_mul
                        rw [Nat.mul_comm]; omega
                      have em' : optBound (some mv) ((cs.length - off) / sz) ((cs.length - off) / sz) = some m := em
                      obtain ⟨m', hr, h1, h2, h3, h4, h5, h6, h7⟩ := bounds_sound (P := P) hlo hhi hmx hcc (e1 := em') eh el rfl hmxhi true Γ.w
                      refine ⟨.slice (if m' = l then (some ⟨Γ.ρ id, Γ.δ id + off, none⟩ : Option Addr) else some ((⟨Γ.ρ id, Γ.δ id + off, none⟩ : Addr).add (l * sz))) (hh - l) (m' - l), ?_, .dead _ _ _⟩
                      simp [Instr.sliceAt, Instr.slice, run_underlying hu, hr, hsize]
                    · cases h
                  · cases h
                · cases h
            · cases h
          · rename_i hmx0
            split at h
            · rename_i ver' cs fz ex hid
              split at h
              · cases h
              · rename_i hver
                have hver : ver' = ver := by simpa using hver
                subst hver
                obtain ⟨ver1, cs1, fz1, ex1, e1, e2, c, tt, e3, e4, e5, e6, e7, e8⟩ := s.row id _ hid
                simp only [Blk.row.injEq] at e1
                obtain ⟨rfl, rfl, rfl, rfl⟩ := e1
                obtain ⟨rfl, hb, hcap⟩ := ha e2
                rw [e4] at hb
                split at h
                · rename_i hh eh
                  split at h
                  · rename_i l el
                    split at h
                    · rename_i hcond
                      simp only [Option.some.injEq] at h; subst h
                      have e0 := hmx.none rfl
                      subst e0
                      have hcc : (cs.length - off) / sz ≤ cap := by
                        apply Nat.div_le_of_le_mul
                        rw [Nat.mul_comm]; omega
                      obtain ⟨m', hr, h1, h2, h3, h4, h5, h6, h7⟩ := bounds_sound (P := P) hlo hhi hmx hcc (e1 := rfl) eh el rfl (by simp) true Γ.w
                      have hm := h3 rfl
                      subst hm
                      have hhle : hh ≤ m' := by
                        by_cases hi0 : hi = none
                        · rw [h6 hi0]; exact hcap
                        · have := h7 hi0; omega
                      have hlle : l ≤ hh := by
                        by_cases lo0 : lo = none
                        · rw [h4 lo0]; omega
                        · exact h5 lo0
                      have haddr : (if m' = l then (some ⟨Γ.ρ id, Γ.δ id + off, none⟩ : Option Addr) else some ((⟨Γ.ρ id, Γ.δ id + off, none⟩ : Addr).add (l * sz))) = some ⟨Γ.ρ id, Γ.δ id + (off + l * sz), none⟩ := by
                        by_cases hml : m' = l
                        · rw [if_pos hml]
                          have hl0 : l = 0 := by
                            rcases hcond with h8 | h8 | h8
                            · have : hh = l := by omega
                              rw [this, ← hml] at h8
                              omega
                            · exact h8
                            · omega
                          rw [hl0]; simp
                        · rw [if_neg hml, add_at, Nat.add_assoc]
                      refine ⟨.slice (some ⟨Γ.ρ id, Γ.δ id + (off + l * sz), none⟩) (hh - l) (m' - l), ?_, ?_⟩
                      · rw [← haddr]
                        simp [Instr.sliceAt, Instr.slice, run_underlying hu, hr, hsize]
                      · refine .vec _ _ _ _ _ _ _ hn hle (fun _ => ⟨rfl, ?_, by omega⟩)
                        have hml : l * sz + (m' - l) * sz = m' * sz := by
                          rw [← Nat.add_mul]; congr 1; omega
                        rw [e4, ← hb]; omega
                    · rename_i hcond
                      simp only [Option.some.injEq] at h; subst h
                      have e0 := hmx.none rfl
                      subst e0
                      have hcc : (cs.length - off) / sz ≤ cap := by
                        apply Nat.div_le_of_le_mul
                        rw [Nat.mul_comm]; omega
                      obtain ⟨m', hr, h1, h2, h3, h4, h5, h6, h7⟩ := bounds_sound (P := P) hlo hhi hmx hcc (e1 := rfl) eh el rfl (by simp) true Γ.w
                      have hhl : hh - l = 0 := by omega
                      refine ⟨.slice (some ⟨Γ.ρ id, if m' = l then Γ.δ id + off else Γ.δ id + (off + l * sz), none⟩) (hh - l) (m' - l), ?_, ?_⟩
                      · have haddr : (if m' = l then (some ⟨Γ.ρ id, Γ.δ id + off, none⟩ : Option Addr) else some ((⟨Γ.ρ id, Γ.δ id + off, none⟩ : Addr).add (l * sz))) = some ⟨Γ.ρ id, if m' = l then Γ.δ id + off else Γ.δ id + (off + l * sz), none⟩ := by
                          by_cases hml : m' = l
                          · rw [if_pos hml, if_pos hml]
                          · rw [if_neg hml, if_neg hml, add_at, Nat.add_assoc]
                        rw [← haddr]
                        simp [Instr.sliceAt, Instr.slice, run_underlying hu, hr, hsize]
                      · rw [hhl]
                        exact .lst sz false [] _ _ _ (fun _ _ => undef) (Nat.zero_le _) (by simp) (by simp) (by simp) (by simp)
                  · cases h
                · cases h
            · cases h
      | _ => simp [aslice] at h
  · -- an array
    rename_i n e
    cases hs : sizeT P e with
    | none => simp [hs] at hk
    | some sz =>
      simp only [hs, Option.map_some, Option.some.injEq] at hk; subst hk
      have hsize := run_size hs Γ.w
      cases hx with
      | ptr id ver off a hn hle ha =>
        simp only [aslice] at h
        split at h
        · cases h
        · rename_i hmx0
          have hmn : mx = none := by
            cases mx with
            | none => rfl
            | some _ => simp at hmx0
          subst hmn
          split at h
          · rename_i ver' cs fz ex hid
            split at h
            · cases h
            · rename_i hc
              have hver : ver' = ver := by
                rcases Nat.lt_trichotomy ver' ver with h1 | h1 | h1
                · exact absurd (.inl (by omega)) hc
                · exact h1
                · exact absurd (.inl (by omega)) hc
              subst hver
              have hlen : cs.length = off + n * sz := by
                rcases Nat.lt_trichotomy cs.length (off + n * sz) with h1 | h1 | h1
                · exact absurd (.inr (.inl (by omega))) hc
                · exact h1
                · exact absurd (.inr (.inl (by omega))) hc
              have hexx : ex = true := by
                cases ex with
                | true => rfl
                | false => exact absurd (.inr (.inr rfl)) hc
              obtain ⟨ver1, cs1, fz1, ex1, e1, e2, c, tt, e3, e4, e5, e6, e7, e8⟩ := s.row id _ hid
              simp only [Blk.row.injEq] at e1
              obtain ⟨rfl, rfl, rfl, rfl⟩ := e1
              rw [ha e2]
              have e0 := hmx.none rfl
              subst e0
              split at h
              · rename_i hh eh
                split at h
                · rename_i l el
                  split at h
                  · rename_i hln
                    simp only [Option.some.injEq] at h; subst h
                    obtain ⟨m', hr, h1, h2, h3, h4, h5, h6, h7⟩ := bounds_sound (P := P) hlo hhi hmx (Nat.le_refl n) (e1 := rfl) eh el rfl (by simp) false Γ.w
                    have hm := h3 rfl
                    subst hm
                    have hhle : hh ≤ m' := by
                      by_cases hi0 : hi = none
                      · rw [h6 hi0]; exact Nat.le_refl _
                      · exact h7 hi0
                    refine ⟨.slice (some ⟨Γ.ρ id, Γ.δ id + (off + l * sz), none⟩) (hh - l) (m' - l), ?_, ?_⟩
                    · have hne : m' ≠ l := by omega
                      simp [Instr.sliceAt, run_underlying hu, Instr.sureAddr, hr, hsize, hne, add_at, Nat.add_assoc]
                    · refine .vec _ _ _ _ _ _ _ hn hle (fun _ => ⟨rfl, ?_, by omega⟩)
                      have hml : l * sz + (m' - l) * sz = m' * sz := by
                        rw [← Nat.add_mul]; congr 1; omega
                      have := e6 hexx
                      rw [e4]; omega
                  · cases h
                · cases h
              · cases h
          · cases h
      | fp x b o f h1 hcell hv =>
        cases x <;> simp only [aslice, reduceCtorEq] at h
        rename_i cs
        split at h
        · cases h
        · rename_i hc
          have hmn : mx = none := by
            cases mx with
            | none => rfl
            | some _ => simp at hc
          subst hmn
          have hlen : cs.length = n * sz := by
            rcases Nat.lt_trichotomy cs.length (n * sz) with h1 | h1 | h1
            · exact absurd (.inr (by omega)) hc
            · exact h1
            · exact absurd (.inr (by omega)) hc
          have e0 := hmx.none rfl
          subst e0
          split at h
          · rename_i hh eh
            split at h
            · rename_i l el
              split at h
              · rename_i hln
                simp only [Option.some.injEq] at h; subst h
                obtain ⟨m', hr, _, _, h3, h4, h5, h6, h7⟩ := bounds_sound (P := P) hlo hhi hmx (Nat.le_refl n) (e1 := rfl) eh el rfl (by simp) false Γ.w
                have hm := h3 rfl
                subst hm
                have hhle : hh ≤ m' := by
                  by_cases hi0 : hi = none
                  · rw [h6 hi0]; exact Nat.le_refl _
                  · exact h7 hi0
                have hlle : l ≤ hh := by
                  by_cases lo0 : lo = none
                  · rw [h4 lo0]; omega
                  · exact h5 lo0
                have hcl := chunks_length sz m' cs
                have hl2 : (((chunks sz m' cs).take hh).drop l).length = hh - l := by simp [hcl]; omega
                have key : ∀ i x j c, (((chunks sz m' cs).take hh).drop l)[i]? = some x → x.cells[j]? = some c → cs[(l + i) * sz + j]? = some c := fun i x j c hx hc => by
                  obtain ⟨hi', he⟩ := chunks_get hlen h1 (drop_take_get hx)
                  rw [he, List.getElem?_take] at hc
                  split at hc
                  · rwa [List.getElem?_drop] at hc
                  · cases hc
                have hv' := VR.lst (Γ := Γ) sz false (((chunks sz m' cs).take hh).drop l) b (o + l * sz) (m' - l) (fun i j => f ((l + i) * sz + j)) (by rw [hl2]; omega) (by simp) (fun x hx => ?_) (fun i x j c hx hc => ?_) (fun i x j c hx hc => hv _ c (key i x j c hx hc))
                · rw [hl2] at hv'
                  refine ⟨_, ?_, hv'⟩
                  have hne : m' ≠ l := by omega
                  simp [Instr.sliceAt, run_underlying hu, Instr.sureAddr, hr, hsize, hne, add_at]
                · obtain ⟨i, hi', rfl⟩ := List.getElem_of_mem hx
                  obtain ⟨hi2, he⟩ := chunks_get hlen h1 (drop_take_get (List.getElem?_eq_getElem hi'))
                  rw [he]
                  refine ⟨?_, fun c hc => h1 c (mem_take_drop hc)⟩
                  have : (l + i) * sz + sz ≤ m' * sz := by rw [← Nat.succ_mul]; exact Nat.mul_le_mul_right _ hi2
                  simp; omega
                · have := hcell _ c (key i x j c hx hc)
                  have hadd : o + ((l + i) * sz + j) = o + l * sz + i * sz + j := by rw [Nat.add_mul]; omega
                  rwa [hadd] at this
              · cases h
            · cases h
          · cases h
      | _ => simp [aslice] at h

end Go.Ab
