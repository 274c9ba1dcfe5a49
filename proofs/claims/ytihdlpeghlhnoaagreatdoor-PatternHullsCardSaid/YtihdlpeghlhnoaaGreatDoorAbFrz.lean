/-
  Part of the proved evaluator, or answers that it computed.
-/
import Derived.Test.YtihdlpeghlhnoaaGreatDoorAbMem
set_option linter.all false
namespace Go.Ab

theorem cells_of_one {x : AV} (h : x.one = true) : x.cells = [x] := by cases x <;> simp_all [AV.one, AV.cells]

theorem chunks_length (sz : Nat) : ∀ (n : Nat) (cs : List AV), (chunks sz n cs).length = n
  | 0, _ => rfl
  | n + 1, cs => by simp [chunks, chunks_length sz n]

theorem chunks_get {sz : Nat} : ∀ {n : Nat} {cs : List AV}, cs.length = n * sz → (∀ c ∈ cs, c.one = true) → ∀ {i : Nat} {x : AV}, (chunks sz n cs)[i]? = some x → i < n ∧ x.cells = (cs.drop (i * sz)).take sz
  | 0, cs, _, _, i, x, h => by simp [chunks] at h
  | n + 1, cs, hl, h1, i, x, h => by
    cases i with
    | zero =>
      simp only [chunks, List.getElem?_cons_zero, Option.some.injEq] at h
      refine ⟨by omega, ?_⟩
      by_cases hs : sz = 1
      · subst hs
        rw [if_pos rfl] at h
        cases cs with
        | nil => simp at hl
        | cons c r =>
          simp at h; subst h
          simp [cells_of_one (h1 c (by simp))]
      · rw [if_neg hs] at h; subst h; simp [AV.cells]
    | succ i =>
      simp only [chunks, List.getElem?_cons_succ] at h
      have hl' : (cs.drop sz).length = n * sz := by simp [hl, Nat.add_mul]
      obtain ⟨h2, h3⟩ := chunks_get hl' (fun c hc => h1 c (List.mem_of_mem_drop hc)) h
      refine ⟨by omega, ?_⟩
      rw [h3, List.drop_drop]
      congr 2
      rw [Nat.add_mul]; omega

theorem mem_take_drop {cs : List AV} {n m : Nat} {c : AV} (h : c ∈ (cs.drop n).take m) : c ∈ cs := List.mem_of_mem_drop (List.mem_of_mem_take h)

/-- cells that are frozen are a list -/
theorem VR.mkLst {Γ : Ctx} {sz len cap b o : Nat} {ex : Bool} {xs : List AV} {us : List Value} (hl : xs.length = len * sz) (h1 : ∀ c ∈ xs, c.one = true) (hcap : len ≤ cap) (hex : ex = true → cap = len)
    (hv : VRs Γ xs us) (hc : ∀ j u, us[j]? = some u → Γ.w.cell? ⟨b, o + j, none⟩ = some u ∧ Γ.I b (o + j)) :
    VR Γ (.lst sz ex (chunks sz len xs)) (.slice (some ⟨b, o, none⟩) len cap) := by
  have hlen := chunks_length sz len xs
  have key : ∀ (i : Nat) (x : AV) (j : Nat) (c : AV), (chunks sz len xs)[i]? = some x → x.cells[j]? = some c → xs[i * sz + j]? = some c ∧ ∃ u, us[i * sz + j]? = some u ∧ VR Γ c u := by
    intro i x j c hx hc
    obtain ⟨hi, he⟩ := chunks_get hl h1 hx
    rw [he, List.getElem?_take] at hc
    split at hc
    · rw [List.getElem?_drop] at hc
      exact ⟨hc, hv.get hc⟩
    · cases hc
  have h := VR.lst (Γ := Γ) sz ex (chunks sz len xs) b o cap (fun i j => us.getD (i * sz + j) undef) (by omega) (by rw [hlen]; exact hex) ?_ ?_ ?_
  · rw [hlen] at h; exact h
  · intro x hx
    obtain ⟨i, hi, rfl⟩ := List.getElem_of_mem hx
    obtain ⟨hi', he⟩ := chunks_get hl h1 (List.getElem?_eq_getElem hi)
    rw [he]
    refine ⟨?_, fun c hc => h1 c (mem_take_drop hc)⟩
    have : i * sz + sz ≤ len * sz := by rw [← Nat.succ_mul]; exact Nat.mul_le_mul_right _ hi'
    simp; omega
  · intro i x j c hx hcc
    obtain ⟨_, u, hu, _⟩ := key i x j c hx hcc
    have := hc _ u hu
    simp only [List.getD, hu, Option.getD_some]
    rw [Nat.add_assoc]
    exact this
  · intro i x j c hx hcc
    obtain ⟨_, u, hu, hr⟩ := key i x j c hx hcc
    simp only [List.getD, hu, Option.getD_some]
    exact hr

theorem frz_noVec (d bar : Nat) : (∀ (H : Heap) (v v' : AV) (H' : Heap), v.noVec = true → frz d bar H v = some (v', H') → v' = v ∧ H' = H) ∧
    (∀ (l l' : List AV) (H H' : Heap), AV.noVec.noVecs l = true → frz.frzs d bar H l = some (l', H') → l' = l ∧ H' = H) := by
  induction d with
  | zero =>
    refine ⟨fun H v v' H' _ h => by simp [frz] at h, fun l l' H H' hn h => ?_⟩
    cases l with
    | nil => simp [frzsW] at h; exact ⟨h.1, h.2.symm⟩
    | cons x r => simp [frzsW, frz] at h
  | succ d ih =>
    have h1 : ∀ (H : Heap) (v v' : AV) (H' : Heap), v.noVec = true → frz (d + 1) bar H v = some (v', H') → v' = v ∧ H' = H := by
      intro H v v' H' hn h
      cases v with
      | vec id ver off len sz => simp [AV.noVec] at hn
      | agg cs =>
        simp only [frz] at h
        split at h
        · rename_i xs H1 hx
          obtain ⟨rfl, rfl⟩ := ih.2 _ _ _ _ (by simpa [AV.noVec] using hn) hx
          simp at h; exact ⟨h.1.symm, h.2.symm⟩
        · cases h
      | _ => simp [frz] at h; exact ⟨h.1.symm, h.2.symm⟩
    refine ⟨h1, fun l => ?_⟩
    induction l with
    | nil => intro l' H H' _ h; simp [frzsW] at h; exact ⟨h.1, h.2.symm⟩
    | cons x r ihr =>
      intro l' H H' hn h
      simp only [AV.noVec.noVecs, Bool.and_eq_true] at hn
      simp only [frz.frzs, frzsW] at h
      split at h
      · rename_i y H1 hy
        obtain ⟨rfl, rfl⟩ := h1 _ _ _ _ hn.1 hy
        split at h
        · rename_i ys H2 hys
          obtain ⟨rfl, rfl⟩ := ihr _ _ _ hn.2 hys
          simp at h; exact ⟨h.1.symm, h.2.symm⟩
        · cases h
      · cases h

theorem frz_sound (base bar : Nat) (d : Nat) :
    (∀ (v v' : AV) (H H' : Heap) (Γ : Ctx) (u : Value), frz d bar H v = some (v', H') → Sim Γ H → VR Γ v u →
      ∃ Δ, Good base bar (List.range H.length) Γ Δ H H' ∧ Δ.w = Γ.w ∧ Δ.n = Γ.n ∧ Δ.ρ = Γ.ρ ∧ Δ.ver = Γ.ver ∧ VR Δ v' u ∧ (v.one = true → v'.one = true) ∧ ((∀ l, v ≠ .tup l) → ∀ l, v' ≠ .tup l) ∧ H'.length = H.length) ∧
    (∀ (l l' : List AV) (H H' : Heap) (Γ : Ctx) (us : List Value), frz.frzs d bar H l = some (l', H') → Sim Γ H → VRs Γ l us →
      ∃ Δ, Good base bar (List.range H.length) Γ Δ H H' ∧ Δ.w = Γ.w ∧ Δ.n = Γ.n ∧ Δ.ρ = Γ.ρ ∧ Δ.ver = Γ.ver ∧ VRs Δ l' us ∧ ((∀ c ∈ l, c.one = true) → ∀ c ∈ l', c.one = true) ∧ ((∀ c ∈ l, ∀ m, c ≠ .tup m) → ∀ c ∈ l', ∀ m, c ≠ .tup m) ∧ H'.length = H.length) := by
  induction d with
  | zero =>
    refine ⟨fun v v' H H' Γ u h => by simp [frz] at h, fun l l' H H' Γ us h s hv => ?_⟩
    cases l with
    | nil =>
      simp [frzsW] at h
      obtain ⟨rfl, rfl⟩ := h
      exact ⟨Γ, Good.refl s, rfl, rfl, rfl, rfl, hv, fun h => h, fun h => h, rfl⟩
    | cons x r => simp [frzsW, frz] at h
  | succ d ih =>
    have one : ∀ (v v' : AV) (H H' : Heap) (Γ : Ctx) (u : Value), frz (d + 1) bar H v = some (v', H') → Sim Γ H → VR Γ v u →
        ∃ Δ, Good base bar (List.range H.length) Γ Δ H H' ∧ Δ.w = Γ.w ∧ Δ.n = Γ.n ∧ Δ.ρ = Γ.ρ ∧ Δ.ver = Γ.ver ∧ VR Δ v' u ∧ (v.one = true → v'.one = true) ∧ ((∀ l, v ≠ .tup l) → ∀ l, v' ≠ .tup l) ∧ H'.length = H.length := by
      intro v v' H H' Γ u h s hv
      cases v with
      | vec id ver off len sz =>
        simp only [frz] at h
        split at h
        · rename_i ver' cs fz ex hid
          split at h
          · rename_i hcond
            obtain ⟨rfl, hle, hbar⟩ := hcond
            split at h
            · rename_i xs H1 hxs
              simp only [Option.some.injEq, Prod.mk.injEq] at h
              obtain ⟨rfl, rfl⟩ := h
              have gf := Good.freeze (base := base) (bar := bar) (m := off + len * sz) s hid hbar
              obtain ⟨ver1, cs1, fz1, ex1, e1, e2, c, t, e3, e4, e5, e6, e7, e8⟩ := s.row id _ hid
              simp only [Blk.row.injEq] at e1
              obtain ⟨rfl, rfl, rfl, rfl⟩ := e1
              cases hv with
              | vec _ _ _ _ _ a cap hn hlv hva =>
                obtain ⟨rfl, hb, hcap⟩ := hva e2
                have hus : VRs (Γ.freeze id (off + len * sz)) ((cs.drop off).take (len * sz)) ((c.toList.drop (Γ.δ id + off)).take (len * sz)) := by
                  refine ⟨by simp; omega, fun i x w hx hw => ?_⟩
                  rw [List.getElem?_take] at hx hw
                  split at hx
                  · rename_i hi
                    rw [if_pos hi] at hw
                    rw [List.getElem?_drop] at hx hw
                    obtain ⟨_, v2, h10, h11⟩ := e7 _ x hx
                    simp at hw
                    rw [Nat.add_assoc] at hw
                    rw [hw] at h10
                    simp only [Option.some.injEq] at h10
                    subst h10
                    exact h11.mono gf.evo
                  · cases hx
                obtain ⟨Δ, g, gw, gn, gρ, gv, hxs', hone, _, hlen⟩ := ih.2 _ _ _ _ _ _ hxs gf.sim hus
                have hlen' : H1.length = H.length := by rw [hlen]; simp
                refine ⟨Δ, (gf.trans g).any (fun i _ hi => by simpa using hi), by rw [gw]; rfl, by rw [gn]; rfl, by rw [gρ]; rfl, by rw [gv]; rfl, ?_, fun _ => rfl, fun _ l => by simp, hlen'⟩
                have h1x : ∀ x ∈ (cs.drop off).take (len * sz), x.one = true := fun x hx => by
                  obtain ⟨i, hi, rfl⟩ := List.getElem_of_mem (mem_take_drop hx)
                  exact (e7 i _ (List.getElem?_eq_getElem hi)).1
                refine VR.mkLst (us := (c.toList.drop (Γ.δ id + off)).take (len * sz)) (by rw [hxs'.1]; simp; omega) (hone h1x) hcap (by simp) hxs' (fun j u hu => ?_)
                rw [List.getElem?_take] at hu
                split at hu
                · rename_i hj
                  rw [List.getElem?_drop] at hu
                  have hI : (Γ.freeze id (off + len * sz)).I (Γ.ρ id) (Γ.δ id + off + j) := .inr ⟨rfl, by omega⟩
                  have hI' := g.evo.I _ _ hI
                  refine ⟨?_, hI'.1⟩
                  rw [hI'.2]
                  show Γ.w.cell? _ = _
                  rw [cell_iff e3]
                  simpa using hu
                · cases hu
            · cases h
          · cases h
        · cases h
      | agg cs =>
        simp only [frz] at h
        split at h
        · rename_i xs H1 hxs
          simp only [Option.some.injEq, Prod.mk.injEq] at h
          obtain ⟨rfl, rfl⟩ := h
          cases hv with
          | agg _ vs hl h1 hv =>
            obtain ⟨Δ, g, gw, gn, gρ, gv, hxs', hone, _, hlen⟩ := ih.2 _ _ _ _ _ vs.toList hxs s ⟨by simpa using hl, fun i c v hc hv' => hv i c v hc (by simpa using hv')⟩
            exact ⟨Δ, g, gw, gn, gρ, gv, .agg _ _ (by simpa using hxs'.1) (hone h1) (fun i c v hc hv' => hxs'.2 i c v hc (by simpa using hv')), by simp [AV.one], fun _ l => by simp, hlen⟩
        · cases h
      | _ =>
        simp [frz] at h
        obtain ⟨rfl, rfl⟩ := h
        exact ⟨Γ, Good.refl s, rfl, rfl, rfl, rfl, hv, fun h => h, fun h => h, rfl⟩
    refine ⟨one, fun l => ?_⟩
    induction l with
    | nil =>
      intro l' H H' Γ us h s hv
      simp [frzsW] at h
      obtain ⟨rfl, rfl⟩ := h
      exact ⟨Γ, Good.refl s, rfl, rfl, rfl, rfl, hv, fun h => h, fun h => h, rfl⟩
    | cons x r ihr =>
      intro l' H H' Γ us h s hv
      obtain ⟨u, us', rfl, hx, hr⟩ := hv.of_cons
      simp only [frz.frzs, frzsW] at h
      split at h
      · rename_i y H1 hy
        obtain ⟨Δ, g, gw, gn, gρ, gv, hy', ho, hnt, hlen⟩ := one _ _ _ _ _ _ hy s hx
        split at h
        · rename_i ys H2 hys
          simp only [Option.some.injEq, Prod.mk.injEq] at h
          obtain ⟨rfl, rfl⟩ := h
          obtain ⟨Θ, g2, gw2, gn2, gρ2, gv2, hys', ho2, hnt2, hlen2⟩ := ihr _ _ _ _ _ hys g.sim (hr.mono g.evo)
          refine ⟨Θ, (g.trans g2).any (fun i _ hi => by simpa using hi), gw2.trans gw, gn2.trans gn, gρ2.trans gρ, gv2.trans gv, VRs.cons (hy'.mono g2.evo) hys', ?_, ?_, hlen2.trans hlen⟩
          · intro h c hc
            rcases List.mem_cons.1 hc with rfl | hc
            · exact ho (h x (by simp))
            · exact ho2 (fun c hc => h c (by simp [hc])) c hc
          · intro h c hc
            rcases List.mem_cons.1 hc with rfl | hc
            · exact hnt (h x (by simp))
            · exact hnt2 (fun c hc => h c (by simp [hc])) c hc
        · cases h
      · cases h
theorem frz_id2 (d bar : Nat) : (∀ (H : Heap) (v v' : AV) (H' : Heap), v.noVec = true → frz d bar H v = some (v', H') → ∀ H2, frz d bar H2 v = some (v, H2)) ∧
    (∀ (l l' : List AV) (H H' : Heap), AV.noVec.noVecs l = true → frz.frzs d bar H l = some (l', H') → ∀ H2, frz.frzs d bar H2 l = some (l, H2)) := by
  induction d with
  | zero =>
    refine ⟨fun H v v' H' _ h => by simp [frz] at h, fun l l' H H' hn h => ?_⟩
    cases l with
    | nil => intro H2; rfl
    | cons x r => simp [frzsW, frz] at h
  | succ d ih =>
    have h1 : ∀ (H : Heap) (v v' : AV) (H' : Heap), v.noVec = true → frz (d + 1) bar H v = some (v', H') → ∀ H2, frz (d + 1) bar H2 v = some (v, H2) := by
      intro H v v' H' hn h H2
      cases v with
      | vec id ver off len sz => simp [AV.noVec] at hn
      | agg cs =>
        simp only [frz] at h ⊢
        split at h
        · rename_i xs H1 hx
          have := ih.2 _ _ _ _ (by simpa [AV.noVec] using hn) hx H2
          simp only [frz.frzs] at this
          rw [this]
        · cases h
      | _ => rfl
    refine ⟨h1, fun l => ?_⟩
    induction l with
    | nil => intro l' H H' _ _ H2; rfl
    | cons x r ihr =>
      intro l' H H' hn h H2
      simp only [AV.noVec.noVecs, Bool.and_eq_true] at hn
      simp only [frz.frzs, frzsW] at h ⊢
      split at h
      · rename_i y H1 hy
        rw [h1 _ _ _ _ hn.1 hy H2]
        split at h
        · rename_i ys H2' hys
          simp only [ihr _ _ _ hn.2 hys H2]
        · cases h
      · cases h

theorem frz_id (d bar : Nat) {l l' : List AV} {H H' : Heap} (hn : AV.noVec.noVecs l = true) (h : frz.frzs d bar H l = some (l', H')) (H2 : Heap) : frz.frzs d bar H2 l = some (l, H2) := (frz_id2 d bar).2 _ _ _ _ hn h H2

theorem noVecs_iff : ∀ {l : List AV}, AV.noVec.noVecs l = true ↔ ∀ x ∈ l, x.noVec = true
  | [] => by simp [AV.noVec.noVecs]
  | x :: r => by simp [AV.noVec.noVecs, noVecs_iff (l := r)]
theorem flatV_set {H : Heap} {id ver ver' fz fz' : Nat} {ex ex' : Bool} {cs : List AV} (h : H[id]? = some (.row ver cs fz ex)) (v : AV) : flatV (H.set id (.row ver' cs fz' ex')) v = flatV H v := by
  have hlt := (List.getElem?_eq_some_iff.1 h).1
  cases v with
  | vec j a b c d =>
    simp only [flatV]
    by_cases hj : id = j
    · subst hj
      rw [List.getElem?_set_self hlt, h]
    · rw [List.getElem?_set_ne hj]
  | _ => rfl
theorem frz_touch {d bar : Nat} : ∀ {vs vs' : List AV} {H H1 : Heap}, vs.all (flatV H) = true → frz.frzs d bar H vs = some (vs', H1) → ∀ i, i ∉ idsV vs → H1[i]? = H[i]?
  | [], vs', H, H1, _, h, i, _ => by
    simp [frzsW] at h
    rw [h.2]
  | v :: r, vs', H, H1, hf, h, i, hi => by
    simp only [List.all_cons, Bool.and_eq_true] at hf
    cases d with
    | zero => simp [frzsW, frz] at h
    | succ d =>
      simp only [frz.frzs, frzsW] at h
      split at h
      · rename_i y H2 hy
        split at h
        · rename_i ys H3 hys
          simp only [Option.some.injEq, Prod.mk.injEq] at h
          obtain ⟨_, rfl⟩ := h
          by_cases hn : v.noVec = true
          · obtain ⟨_, rfl⟩ := (frz_noVec (d + 1) bar).1 _ _ _ _ hn hy
            refine frz_touch hf.2 hys i fun hc => hi ?_
            cases v with
            | vec id a b c e => exact List.mem_cons_of_mem _ hc
            | _ => exact hc
          · cases v with
            | vec id ver off len sz =>
              simp only [flatV] at hf
              simp only [frz] at hy
              split at hy
              · rename_i ver' cs fz ex hid
                rw [hid] at hf
                simp only at hf
                split at hy
                · split at hy
                  · rename_i xs H4 hx
                    simp only [Option.some.injEq, Prod.mk.injEq] at hy
                    obtain ⟨_, rfl⟩ := hy
                    have hsub : AV.noVec.noVecs ((cs.drop off).take (len * sz)) = true := noVecs_iff.2 fun x hx => noVecs_iff.1 hf.1 x (List.mem_of_mem_drop (List.mem_of_mem_take hx))
                    obtain ⟨_, rfl⟩ := (frz_noVec d bar).2 _ _ _ _ hsub hx
                    simp only [idsV, List.mem_cons, not_or] at hi
                    have h2 := frz_touch (H := H.set id (.row ver' cs (max fz (off + len * sz)) ex)) (by
                      rw [List.all_eq_true]
                      intro x hx
                      rw [flatV_set hid]
                      exact List.all_eq_true.1 hf.2 x hx) hys i hi.2
                    rw [h2, List.getElem?_set_ne (fun e => hi.1 e.symm)]
                  · cases hy
                · cases hy
              · cases hy
            | _ => exact absurd (show AV.noVec _ = true from by simpa [flatV] using hf.1) hn
        · cases h
      · cases h
end Go.Ab
