/-
  Part of the proved evaluator, or answers that it computed.
-/
import Derived.Test.YtihdlpeghlhnoaaGreatDoorAbOps2
set_option linter.all false
namespace Go.Ab
variable {P : Program}

theorem flat_get {sz : Nat} : ∀ {xs : List AV}, (∀ x ∈ xs, x.cells.length = sz) → ∀ {k : Nat} {c : AV}, (xs.flatMap AV.cells)[k]? = some c → ∃ i j x, k = i * sz + j ∧ xs[i]? = some x ∧ x.cells[j]? = some c
  | [], _, k, c, h => by simp at h
  | x :: r, hs, k, c, h => by
    rw [List.flatMap_cons, List.getElem?_append] at h
    have hx := hs x (by simp)
    split at h
    · rename_i hk
      exact ⟨0, k, x, by simp, by simp, h⟩
    · obtain ⟨i, j, y, h1, h2, h3⟩ := flat_get (xs := r) (fun y hy => hs y (by simp [hy])) h
      exact ⟨i + 1, j, y, by rw [Nat.add_mul]; omega, by simpa using h2, h3⟩

theorem flat_length {sz : Nat} : ∀ {xs : List AV}, (∀ x ∈ xs, x.cells.length = sz) → (xs.flatMap AV.cells).length = xs.length * sz
  | [], _ => by simp
  | x :: r, hs => by
    rw [List.flatMap_cons, List.length_append, flat_length (xs := r) (fun y hy => hs y (by simp [hy])), hs x (by simp), List.length_cons, Nat.add_mul]; omega

/-- a frozen slice can be read -/
theorem Rd.of_lst {Γ : Ctx} {sz : Nat} {xs : List AV} {b o : Nat} {f : Nat → Nat → Value} (hsz : ∀ x ∈ xs, x.cells.length = sz ∧ ∀ c ∈ x.cells, c.one = true)
    (hcell : ∀ (i : Nat) (x : AV) (j : Nat) (c : AV), xs[i]? = some x → x.cells[j]? = some c → Γ.w.cell? ⟨b, o + i * sz + j, none⟩ = some (f i j) ∧ Γ.I b (o + i * sz + j))
    (hv : ∀ (i : Nat) (x : AV) (j : Nat) (c : AV), xs[i]? = some x → x.cells[j]? = some c → VR Γ c (f i j)) : Rd Γ b o (xs.flatMap AV.cells) := by
  intro k c hk
  obtain ⟨i, j, x, rfl, h2, h3⟩ := flat_get (fun x hx => (hsz x hx).1) hk
  refine ⟨(hsz x (List.mem_of_getElem? h2)).2 c (List.mem_of_getElem? h3), f i j, ?_, hv i x j c h2 h3⟩
  rw [← Nat.add_assoc]
  exact (hcell i x j c h2 h3).1

/-- what is appended -/
structure Src (Γ : Ctx) (sz : Nat) (news : List AV) (us : List Value) (ya : Option Addr) (n : Nat) : Prop where
  rel : VRs Γ news us
  one : ∀ c ∈ news, c.one = true
  len : us.length = n * sz
  cell : ∀ a, ya = some a → ∀ j u, us[j]? = some u → Γ.w.cell? (a.add j) = some u
  none : ya = none → n = 0

theorem asrc_sound {Γ : Ctx} {H : Heap} (s : Sim Γ H) {sz : Nat} {y : AV} {yu : Value} {news : List AV} (h : asrc H sz y = some news) (hy : VR Γ y yu) :
    ∃ ya n c us, yu = .slice ya n c ∧ Src Γ sz news us ya n := by
  cases hy with
  | nils =>
    simp [asrc] at h; subst h
    exact ⟨none, 0, 0, [], rfl, ⟨VRs.nil, by simp, by simp, by simp, fun _ => rfl⟩⟩
  | emp sz' ex a cap hex =>
    simp only [asrc] at h
    split at h
    · simp only [List.flatMap_nil, Option.some.injEq] at h; subst h
      exact ⟨some a, 0, cap, [], rfl, ⟨VRs.nil, by simp, by simp, by simp, fun h => by cases h⟩⟩
    · cases h
  | lst sz' ex xs b o cap f hlc hex hsz hcell hv =>
    simp only [asrc] at h
    split at h
    · rename_i hs; subst hs
      simp only [Option.some.injEq] at h; subst h
      obtain ⟨us, h1, h2, h3⟩ := (Rd.of_lst hsz hcell hv).list
      exact ⟨some ⟨b, o, none⟩, xs.length, cap, us, rfl, ⟨h1, h2, by rw [← h1.1]; exact flat_length (fun x hx => (hsz x hx).1), fun a ha => by cases ha; exact h3, by simp⟩⟩
    · cases h
  | vec id ver off len sz' a cap hn hle ha =>
    simp only [asrc] at h
    split at h
    · rename_i hs; subst hs
      split at h
      · rename_i ver' cs fz ex hid
        split at h
        · rename_i hc
          obtain ⟨rfl, hlen⟩ := hc
          simp only [Option.some.injEq] at h; subst h
          obtain ⟨ver1, cs1, fz1, ex1, e1, e2, _⟩ := s.row id _ hid
          simp only [Blk.row.injEq] at e1
          obtain ⟨rfl, _⟩ := e1
          obtain ⟨rfl, _, _⟩ := ha e2
          have hr := ((Rd.of_row s hid).drop off).take (len * sz')
          obtain ⟨us, h1, h2, h3⟩ := hr.list
          exact ⟨some ⟨Γ.ρ id, Γ.δ id + off, none⟩, len, cap, us, rfl, ⟨h1, h2, by rw [← h1.1]; simp; omega, fun a ha => by cases ha; exact h3, by simp⟩⟩
        · cases h
      · cases h
    · cases h
  | _ => simp [asrc] at h

theorem run_append_zero (t ty e : TypeId) (i : TypeInfo) (ht : P.underlying t = some (.slice e)) (hi : P.info? e = some i) (base : Option Addr) (sLen sCap : Nat) (ya : Option Addr) (c : Nat) (hl : sLen ≤ sCap) (w : World) :
    (Builtin.append_ #[t, t] ty #[.slice base sLen sCap, .slice ya 0 c]).run P w = .ok (.slice base sLen sCap) w := by
  cases ya <;> cases base <;> simp [Builtin.append_, run_underlying ht, sizeOf, typeInfo, hi, Builtin.lenOf, hl, Builtin.firstCells, loadCells, loadCellsFrom, storeCells]

/-- within the capacity, whatever element type the block bears -/
theorem run_append_room' (w : World) (t ty e : TypeId) (i : TypeInfo) (ht : P.underlying t = some (.slice e)) (hi : P.info? e = some i)
    (g o sLen sCap : Nat) (cur : Array Value) (e' : TypeId) (hg : w.heap[g]? = some (.cells cur e' (0, 0)))
    (a : Addr) (m c : Nat) (news : List Value) (hl : news.length = m * i.size) (hnews : ∀ j u, news[j]? = some u → w.cell? (a.add j) = some u) (h1 : ∀ u ∈ news, u.oneCell' = true)
    (hroom : sLen + m ≤ sCap) (hfit : o + sLen * i.size + news.length ≤ cur.size) :
    (Builtin.append_ #[t, t] ty #[.slice (some ⟨g, o, none⟩) sLen sCap, .slice (some a) m c]).run P w =
      .ok (.slice (some ⟨g, o, none⟩) (sLen + m) sCap) (w.setRow g (cur.toList.take (o + sLen * i.size) ++ news ++ cur.toList.drop (o + sLen * i.size + news.length)).toArray) := by
  have hf := run_firstCells_some (P := P) w i.size m a m c news hl hnews
  have hst := run_storeCells_at P g (o + sLen * i.size) e' news 0 cur w hg (by simpa using hfit) h1
  simp only [Nat.add_zero] at hst
  simp [Builtin.append_, run_underlying ht, sizeOf, typeInfo, hi, Builtin.lenOf, hroom, hf, Addr.add_lit, hst]

theorem pos_of_news {n sz : Nat} {us : List Value} {news : List AV} (hl : news.length = us.length) (h : us.length = n * sz) (hne : news.isEmpty = false) : 0 < n := by
  rcases Nat.eq_zero_or_pos n with h0 | h0
  · subst h0
    simp at h; subst h
    simp at hl; subst hl
    simp at hne
  · exact h0

theorem append_sound {base bar : Nat} {Γ : Ctx} {H H' : Heap} (s : Sim Γ H) (hbase : base ≤ H.length) (hbar : bar ≤ H.length) {t ty e : TypeId} {i : TypeInfo} {z : Value}
    (ht : P.underlying t = some (.slice e)) (hi : P.info? e = some i) (hz : i.zero = some z) (hzs : z.cells.size = i.size) (hby : i.bytes ≠ 0) (hsz : i.size ≠ 0)
    {x : AV} {xu : Value} (hx : VR Γ x xu) {news : List AV} {us : List Value} {ya : Option Addr} {n c : Nat} (src : Src Γ i.size news us ya n) {v : AV} {tc : List Nat}
    (h : aappend base bar H i.size i.bytes x news = some (v, H', tc)) :
    ∃ Δ v', (Builtin.append_ #[t, t] ty #[xu, .slice ya n c]).run P Γ.w = .ok v' Δ.w ∧ VR Δ v v' ∧ Good base bar tc Γ Δ H H' := by
  have hnl : news.length = n * i.size := by rw [src.rel.1, src.len]
  have hm : news.length / i.size = n := by rw [hnl]; exact Nat.mul_div_cancel _ (Nat.pos_of_ne_zero hsz)
  have bound : ∀ k, k * i.bytes ≤ 140737488355328 → k ≤ 140737488355328 := fun k hk => Nat.le_trans (Nat.le_mul_of_pos_right k (Nat.pos_of_ne_zero hby)) hk
  -- nothing is appended
  have zero : news.isEmpty = true → n = 0 := fun he => by
    have : news = [] := by simpa using he
    subst this
    have h0 : n * i.size = 0 := by simpa using hnl.symm
    exact (Nat.mul_eq_zero.1 h0).resolve_right hsz
  cases hx with
  | nils =>
    simp only [aappend, hm] at h
    split at h
    · rename_i he
      simp only [Option.some.injEq, Prod.mk.injEq] at h
      obtain ⟨rfl, rfl, rfl⟩ := h
      rw [zero he]
      exact ⟨Γ, _, run_append_zero t ty e i ht hi none 0 0 ya c (Nat.le_refl _) _, .nils, Good.refl s⟩
    · rename_i he
      split at h
      · rename_i hroom
        simp only [Option.some.injEq, Prod.mk.injEq] at h
        obtain ⟨rfl, rfl, rfl⟩ := h
        have h0 : 0 < n := pos_of_news src.rel.1 src.len (by simpa using he)
        cases ya with
        | none => exact absurd (src.none rfl) (by omega)
        | some a =>
          have hb := bound n hroom
          have hrun := run_append_nil (P := P) Γ.w t ty e i z ht hi hz a n c us src.len (src.cell a rfl) h0 (by omega) (by omega)
          have hge := grownCap_ge Γ.w n 0 e
          have hsize : (us.toArray ++ Builtin.zeroCells z.cells (grownCap Γ.w n 0 e - n)).size = grownCap Γ.w n 0 e * i.size := by
            simp only [Array.size_append, List.size_toArray, src.len, size_zeroCells, hzs]
            rw [← Nat.add_mul]; congr 1; omega
          have g := Good.push (base := base) (bar := bar) (w' := Γ.w.drew.alloc (.cells (us.toArray ++ Builtin.zeroCells z.cells (grownCap Γ.w n 0 e - n)) e)) (cs := news) (t := e) (ex := false) s hbase hbar
            rfl rfl rfl rfl (by rw [hsize, hnl]; exact Nat.mul_le_mul_right _ hge) (by simp) (fun k c hc => by
              obtain ⟨u, h2, h3⟩ := src.rel.get hc
              have hk : k < us.length := (List.getElem?_eq_some_iff.1 h2).1
              exact ⟨src.one c (List.mem_of_getElem? hc), u, by rw [Array.getElem?_append_left (by simpa using hk)]; simpa using h2, h3⟩)
          refine ⟨_, _, hrun, ?_, g⟩
          refine .vec _ _ _ _ _ _ _ (by simp [Ctx.push, s.n]) (by simp) (fun _ => ⟨by simp [Ctx.push, Ctx.δ, s.n], by simp only [Ctx.push, Ctx.δ, s.n, if_true, hsize]; omega, hge⟩)
      · cases h
  | emp sz' ex a0 cap hex =>
    simp only [aappend, hm] at h
    split at h
    · cases h
    · rename_i hs
      have hs : sz' = i.size := by simpa using hs
      subst hs
      split at h
      · rename_i he
        simp only [Option.some.injEq, Prod.mk.injEq] at h
        obtain ⟨rfl, rfl, rfl⟩ := h
        rw [zero he]
        exact ⟨Γ, _, run_append_zero t ty e i ht hi _ _ _ ya c (Nat.zero_le _) _, .emp _ ex a0 cap hex, Good.refl s⟩
      · rename_i he
        split at h
        · rename_i hroom
          obtain ⟨rfl, hroom⟩ := hroom
          simp only [Option.some.injEq, Prod.mk.injEq] at h
          obtain ⟨rfl, rfl, rfl⟩ := h
          have hcap := hex rfl
          subst hcap
          have h0 : 0 < n := pos_of_news src.rel.1 src.len (by simpa using he)
          cases ya with
          | none => exact absurd (src.none rfl) (by omega)
          | some a =>
            have o1 : VRs Γ ((([] : List AV)).flatMap AV.cells) ([] : List Value) := VRs.nil
            have o2 : ∀ c ∈ (([] : List AV)).flatMap AV.cells, c.one = true := by simp
            have o3 : ∀ j u, ([] : List Value)[j]? = some u → Γ.w.cell? (a0.add j) = some u := by simp
            have ol : ([] : List Value).length = ([] : List AV).length * i.size := by simp
            have hb := bound _ hroom
            have hrun := run_append_grow (P := P) Γ.w t ty e i z ht hi hz a0 ([] : List AV).length ([] : List AV).length ([] : List Value) ol o3 a n c us src.len (src.cell a rfl) (by omega) (by omega) (growslice_fits (by omega) hroom)
            have hge := grownCap_ge Γ.w (([] : List AV).length + n) ([] : List AV).length e
            have hsize : (([] : List Value).toArray ++ us.toArray ++ Builtin.zeroCells z.cells (grownCap Γ.w (([] : List AV).length + n) ([] : List AV).length e - (([] : List AV).length + n))).size = grownCap Γ.w (([] : List AV).length + n) ([] : List AV).length e * i.size := by
              simp only [Array.size_append, List.size_toArray, src.len, ol, size_zeroCells, hzs]
              rw [← Nat.add_mul, ← Nat.add_mul]; congr 1; omega
            have hcat := o1.append src.rel
            have g := Good.push (base := base) (bar := bar) (w' := Γ.w.drew.alloc (.cells (([] : List Value).toArray ++ us.toArray ++ Builtin.zeroCells z.cells (grownCap Γ.w (([] : List AV).length + n) ([] : List AV).length e - (([] : List AV).length + n))) e))
              (cs := ([] : List AV).flatMap AV.cells ++ news) (t := e) (ex := false) s hbase hbar
              rfl rfl rfl rfl (by rw [hsize, hcat.1, List.length_append, ol, src.len, ← Nat.add_mul]; exact Nat.mul_le_mul_right _ hge) (by simp) (fun k c hc => by
                obtain ⟨u, h2, h3⟩ := hcat.get hc
                have hk : k < ([] ++ us : List Value).length := (List.getElem?_eq_some_iff.1 h2).1
                refine ⟨?_, u, ?_, h3⟩
                · rcases List.mem_append.1 (List.mem_of_getElem? hc) with h4 | h4
                  · exact o2 c h4
                  · exact src.one c h4
                · rw [Array.getElem?_append_left (by simpa using hk)]
                  simpa using h2)
            refine ⟨_, _, hrun, ?_, g⟩
            refine .vec _ _ _ _ _ _ _ (by simp [Ctx.push, s.n]) (by simp) (fun _ => ⟨by simp [Ctx.push, Ctx.δ, s.n], by simp only [Ctx.push, Ctx.δ, s.n, if_true, hsize]; omega, hge⟩)
        · cases h
  | lst sz' ex xs b o cap f hlc hex hxs hcell hv =>
    simp only [aappend, hm] at h
    split at h
    · cases h
    · rename_i hs
      have hs : sz' = i.size := by simpa using hs
      subst hs
      split at h
      · rename_i he
        simp only [Option.some.injEq, Prod.mk.injEq] at h
        obtain ⟨rfl, rfl, rfl⟩ := h
        rw [zero he]
        exact ⟨Γ, _, run_append_zero t ty e i ht hi _ _ _ ya c hlc _, .lst _ ex xs b o cap f hlc hex hxs hcell hv, Good.refl s⟩
      · rename_i he
        split at h
        · rename_i hroom
          obtain ⟨rfl, hroom⟩ := hroom
          simp only [Option.some.injEq, Prod.mk.injEq] at h
          obtain ⟨rfl, rfl, rfl⟩ := h
          have hcap := hex rfl
          subst hcap
          have h0 : 0 < n := pos_of_news src.rel.1 src.len (by simpa using he)
          cases ya with
          | none => exact absurd (src.none rfl) (by omega)
          | some a =>
            obtain ⟨olds, o1, o2, o3⟩ := (Rd.of_lst hxs hcell hv).list
            have ol : olds.length = xs.length * i.size := by rw [← o1.1]; exact flat_length (fun x hx => (hxs x hx).1)
            have hb := bound _ hroom
            have hrun := run_append_grow (P := P) Γ.w t ty e i z ht hi hz ⟨b, o, none⟩ xs.length xs.length olds ol o3 a n c us src.len (src.cell a rfl) (by omega) (by omega) (growslice_fits (by omega) hroom)
            have hge := grownCap_ge Γ.w (xs.length + n) xs.length e
            have hsize : (olds.toArray ++ us.toArray ++ Builtin.zeroCells z.cells (grownCap Γ.w (xs.length + n) xs.length e - (xs.length + n))).size = grownCap Γ.w (xs.length + n) xs.length e * i.size := by
              simp only [Array.size_append, List.size_toArray, src.len, ol, size_zeroCells, hzs]
              rw [← Nat.add_mul, ← Nat.add_mul]; congr 1; omega
            have hcat := o1.append src.rel
            have g := Good.push (base := base) (bar := bar) (w' := Γ.w.drew.alloc (.cells (olds.toArray ++ us.toArray ++ Builtin.zeroCells z.cells (grownCap Γ.w (xs.length + n) xs.length e - (xs.length + n))) e))
              (cs := xs.flatMap AV.cells ++ news) (t := e) (ex := false) s hbase hbar
              rfl rfl rfl rfl (by rw [hsize, hcat.1, List.length_append, ol, src.len, ← Nat.add_mul]; exact Nat.mul_le_mul_right _ hge) (by simp) (fun k c hc => by
                obtain ⟨u, h2, h3⟩ := hcat.get hc
                have hk : k < (olds ++ us).length := (List.getElem?_eq_some_iff.1 h2).1
                refine ⟨?_, u, ?_, h3⟩
                · rcases List.mem_append.1 (List.mem_of_getElem? hc) with h4 | h4
                  · exact o2 c h4
                  · exact src.one c h4
                · rw [Array.getElem?_append_left (by simpa using hk)]
                  simpa using h2)
            refine ⟨_, _, hrun, ?_, g⟩
            refine .vec _ _ _ _ _ _ _ (by simp [Ctx.push, s.n]) (by simp) (fun _ => ⟨by simp [Ctx.push, Ctx.δ, s.n], by simp only [Ctx.push, Ctx.δ, s.n, if_true, hsize]; omega, hge⟩)
        · cases h
  | vec id ver off len sz' a cap hn hle ha =>
    simp only [aappend, hm] at h
    split at h
    · cases h
    · rename_i hs
      have hs : sz' = i.size := by simpa using hs
      subst hs
      split at h
      · rename_i ver' cs fz ex hid
        obtain ⟨ver1, cs1, fz1, ex1, e1, e2, cc, tt, e3, e4, e5, e6, e7, e8⟩ := s.row id _ hid
        simp only [Blk.row.injEq] at e1
        obtain ⟨rfl, rfl, rfl, rfl⟩ := e1
        split at h
        · cases h
        · rename_i hcond
          have hver : ver' = ver := by
            rcases Nat.lt_trichotomy ver' ver with h1 | h1 | h1
            · exact absurd (.inl (by omega)) hcond
            · exact h1
            · exact absurd (.inl (by omega)) hcond
          subst hver
          have hcond : off + len * i.size ≤ cs.length ∧ (len + n) * i.bytes ≤ 140737488355328 := by
            refine ⟨?_, ?_⟩
            · rcases Nat.lt_or_ge cs.length (off + len * i.size) with h1 | h1
              · exact absurd (.inr (.inl h1)) hcond
              · exact h1
            · rcases Nat.lt_or_ge 140737488355328 ((len + n) * i.bytes) with h1 | h1
              · exact absurd (.inr (.inr h1)) hcond
              · exact h1
          obtain ⟨hlen, hroom⟩ := hcond
          obtain ⟨rfl, hbsz, hcap⟩ := ha e2
          rw [e4] at hbsz
          split at h
          · rename_i he
            simp only [Option.some.injEq, Prod.mk.injEq] at h
            obtain ⟨rfl, rfl, rfl⟩ := h
            rw [zero he]
            exact ⟨Γ, _, run_append_zero t ty e i ht hi _ _ _ ya c hcap _, .vec _ _ _ _ _ _ _ hn hle (fun _ => ⟨rfl, by rw [e4]; exact hbsz, hcap⟩), Good.refl s⟩
          · rename_i he
            have h0 : 0 < n := pos_of_news src.rel.1 src.len (by simpa using he)
            cases ya with
            | none => exact absurd (src.none rfl) (by omega)
            | some a =>
              have hb := bound _ hroom
              -- the old elements
              have hold := ((Rd.of_row s hid).drop off).take (len * i.size)
              obtain ⟨olds, o1, o2, o3⟩ := hold.list
              have ol : olds.length = len * i.size := by rw [← o1.1]; simp; omega
              have hadd : (len + n) * i.size = len * i.size + n * i.size := Nat.add_mul _ _ _
              -- growing, in any case
              have grow : cap < len + n → ∃ w', (Builtin.append_ #[t, t] ty #[.slice (some ⟨Γ.ρ id, Γ.δ id + off, none⟩) len cap, .slice (some a) n c]).run P Γ.w = .ok (.slice (some ⟨Γ.w.heap.size, 0, none⟩) (len + n) (grownCap Γ.w (len + n) cap e)) w' ∧
                  ∃ arr : Array Value, w'.heap = Γ.w.heap.push (.cells arr e (0, 0)) ∧ w'.os = Γ.w.os ∧ w'.tape = Γ.w.tape ∧ w'.output = Γ.w.output ∧ arr.size = grownCap Γ.w (len + n) cap e * i.size ∧
                  ∀ k u, (olds ++ us)[k]? = some u → arr[k]? = some u := fun hg => by
                have hrun := run_append_grow (P := P) Γ.w t ty e i z ht hi hz ⟨Γ.ρ id, Γ.δ id + off, none⟩ len cap olds ol o3 a n c us src.len (src.cell a rfl) hg (by omega) (growslice_fits hg hroom)
                have hge := grownCap_ge Γ.w (len + n) cap e
                refine ⟨_, hrun, _, rfl, rfl, rfl, rfl, ?_, fun k u hu => ?_⟩
                · simp only [Array.size_append, List.size_toArray, src.len, ol, size_zeroCells, hzs]
                  rw [← Nat.add_mul, ← Nat.add_mul]; congr 1; omega
                · have hk : k < (olds ++ us).length := (List.getElem?_eq_some_iff.1 hu).1
                  rw [Array.getElem?_append_left (by simpa using hk)]
                  simpa using hu
              have hge := grownCap_ge Γ.w (len + n) cap e
              have hcat := o1.append src.rel
              have hone : ∀ c ∈ (cs.drop off).take (len * i.size) ++ news, c.one = true := fun c hc => by
                rcases List.mem_append.1 hc with h4 | h4
                · exact o2 c h4
                · exact src.one c h4
              split at h
              · -- in place, surely
                rename_i hin
                have key : fz ≤ off + len * i.size → bar ≤ id → (base ≤ id ∨ AV.top.tops news ≤ id + 1) → ∃ Δ v', (Builtin.append_ #[t, t] ty #[.slice (some ⟨Γ.ρ id, Γ.δ id + off, none⟩) len cap, .slice (some a) n c]).run P Γ.w = .ok v' Δ.w ∧ VR Δ (.vec id ver' off (len + n) i.size) v' ∧ Good base bar [id] Γ Δ H (H.set id (.row ver' (setCells cs (off + len * i.size) news) fz ex)) := fun hfz hb1 htop => by
                  have hfits : len + n ≤ cap := by
                    have : (len + n) * i.size ≤ cap * i.size := by omega
                    exact Nat.le_of_mul_le_mul_right this (Nat.pos_of_ne_zero hsz)
                  have hfm : (len + n) * i.size ≤ cap * i.size := Nat.mul_le_mul_right _ hfits
                  have hrun := run_append_room' (P := P) Γ.w t ty e i ht hi (Γ.ρ id) (Γ.δ id + off) len cap cc tt e3 a n c us src.len (src.cell a rfl) (ones_of src.rel src.one) hfits (by rw [src.len]; omega)
                  have g := write_good (base := base) (bar := bar) s hid src.rel src.one hfz (by rw [hnl]; omega) hb1 htop e3
                  rw [← Nat.add_assoc] at g
                  refine ⟨_, _, hrun, ?_, g⟩
                  exact .vec _ _ _ _ _ _ _ hn hle (fun _ => ⟨rfl, by show Γ.δ id + off + cap * i.size = (Γ.bsz id).1; rw [e4]; omega, hfits⟩)
                split at h
                · rename_i hcc
                  simp only [Option.some.injEq, Prod.mk.injEq] at h
                  obtain ⟨rfl, rfl, rfl⟩ := h
                  exact key hcc.2.1 hcc.2.2.1 hcc.2.2.2
                · split at h
                  · rename_i hcc
                    simp only [Option.some.injEq, Prod.mk.injEq] at h
                    obtain ⟨rfl, rfl, rfl⟩ := h
                    exact key hcc.2.1 hcc.2.2.1 hcc.2.2.2
                  · cases h
              · rename_i hin
                split at h
                · -- surely a new block
                  rename_i hex
                  simp only [Option.some.injEq, Prod.mk.injEq] at h
                  obtain ⟨rfl, rfl, rfl⟩ := h
                  have hcs := e6 hex
                  have hlt : cap < len + n := by
                    rcases Nat.lt_or_ge cap (len + n) with h1 | h1
                    · exact h1
                    · have := Nat.mul_le_mul_right i.size h1
                      omega
                  obtain ⟨w', hrun, arr, g1, g2, g3, g4, g5, g6⟩ := grow hlt
                  have g := Good.push (base := base) (bar := bar) (cs := (cs.drop off).take (len * i.size) ++ news) (t := e) (ex := false) s hbase hbar g1 g2 g3 g4
                    (by rw [g5, hcat.1, List.length_append, ol, src.len, ← Nat.add_mul]; exact Nat.mul_le_mul_right _ hge) (by simp) (fun k c hc => by
                      obtain ⟨u, h2, h3⟩ := hcat.get hc
                      exact ⟨hone c (List.mem_of_getElem? hc), u, g6 k u h2, h3⟩)
                  refine ⟨_, _, hrun, ?_, g⟩
                  refine .vec _ _ _ _ _ _ _ (by simp [Ctx.push, s.n]) (by simp) (fun _ => ⟨by simp [Ctx.push, Ctx.δ, s.n], by simp only [Ctx.push, Ctx.δ, s.n, if_true, g5]; omega, hge⟩)
                · -- either
                  have key : fz ≤ off + len * i.size → bar ≤ id → (base ≤ id ∨ AV.top.tops ((cs.drop off).take (len * i.size) ++ news) ≤ id + 1) → ∃ Δ v', (Builtin.append_ #[t, t] ty #[.slice (some ⟨Γ.ρ id, Γ.δ id + off, none⟩) len cap, .slice (some a) n c]).run P Γ.w = .ok v' Δ.w ∧ VR Δ (.vec id (ver' + 1) 0 (len + n) i.size) v' ∧ Good base bar [id] Γ Δ H (H.set id (.row (ver' + 1) ((cs.drop off).take (len * i.size) ++ news) (fz - off) false)) := fun hfz hb1 htop => by
                    have htop' : base ≤ id ∨ AV.top.tops ((cs.drop off).take (len * i.size) ++ news) ≤ max (AV.top.tops cs) (id + 1) := by
                      rcases htop with h1 | h1
                      · exact .inl h1
                      · right; omega
                    rcases Nat.lt_or_ge cap (len + n) with hlt | hfits
                    · obtain ⟨w', hrun, arr, g1, g2, g3, g4, g5, g6⟩ := grow hlt
                      have g := Good.renew (base := base) (bar := bar) (w' := w') (r := Γ.w.heap.size) (d := 0) (fz' := fz - off) (ex' := false) (cs' := (cs.drop off).take (len * i.size) ++ news) (c' := arr) (t' := e) s hid e3 (.inr ⟨rfl, g1⟩) g2 g3 g4
                        (by rw [g5, hcat.1, List.length_append, ol, src.len, ← Nat.add_mul, Nat.zero_add]; exact Nat.mul_le_mul_right _ hge) (by simp) hb1 htop' (fun k c hc => by
                          obtain ⟨u, h2, h3⟩ := hcat.get hc
                          exact ⟨hone c (List.mem_of_getElem? hc), u, by rw [Nat.zero_add]; exact g6 k u h2, h3⟩)
                      refine ⟨_, _, hrun, ?_, g⟩
                      exact .vec _ _ _ _ _ _ _ (by simpa [Ctx.renew] using hn) (by simp [Ctx.renew, e2]) (fun _ => ⟨by simp [Ctx.renew, Ctx.δ], by simp only [Ctx.renew, Ctx.δ, if_true, g5]; omega, hge⟩)
                    · have hfit' : (len + n) * i.size ≤ cap * i.size := Nat.mul_le_mul_right _ hfits
                      have hrun := run_append_room' (P := P) Γ.w t ty e i ht hi (Γ.ρ id) (Γ.δ id + off) len cap cc tt e3 a n c us src.len (src.cell a rfl) (ones_of src.rel src.one) hfits (by rw [src.len]; omega)
                      have hsegl : Γ.δ id + off + len * i.size + us.length ≤ cc.toList.length := by simp [src.len]; omega
                      have g := Good.renew (base := base) (bar := bar) (w' := Γ.w.setRow (Γ.ρ id) (cc.toList.take (Γ.δ id + off + len * i.size) ++ us ++ cc.toList.drop (Γ.δ id + off + len * i.size + us.length)).toArray) (r := Γ.ρ id) (d := Γ.δ id + off) (fz' := fz - off) (ex' := false)
                        (cs' := (cs.drop off).take (len * i.size) ++ news) (c' := (cc.toList.take (Γ.δ id + off + len * i.size) ++ us ++ cc.toList.drop (Γ.δ id + off + len * i.size + us.length)).toArray) (t' := tt) s hid e3
                        (.inl ⟨rfl, setRow_set e3, fun k hk => by
                          simp only [List.getElem?_toArray]
                          rw [seg_get cc.toList us (Γ.δ id + off + len * i.size) k hsegl, if_neg (by omega)]; simp, by omega⟩) rfl rfl rfl
                        (by simp [src.len, hnl]; omega) (by simp) hb1 htop' (fun k c hc => by
                          have hone' := hone c (List.mem_of_getElem? hc)
                          simp only [List.getElem?_toArray]
                          rw [seg_get cc.toList us (Γ.δ id + off + len * i.size) (Γ.δ id + off + k) hsegl]
                          obtain ⟨u, h2, h3⟩ := hcat.get hc
                          refine ⟨hone', u, ?_, h3⟩
                          rw [List.getElem?_append] at h2
                          split at h2
                          · rename_i hk
                            rw [if_neg (by omega)]
                            have := o3 k u h2
                            rw [add_at, cell_iff e3] at this
                            simpa using this
                          · rename_i hk
                            have hk2 := (List.getElem?_eq_some_iff.1 h2).1
                            rw [if_pos (by omega), show Γ.δ id + off + k - (Γ.δ id + off + len * i.size) = k - olds.length by omega]
                            exact h2)
                      refine ⟨_, _, hrun, ?_, g⟩
                      refine .vec _ _ _ _ _ _ _ (by simpa [Ctx.renew] using hn) (by simp [Ctx.renew, e2]) (fun _ => ⟨by simp [Ctx.renew, Ctx.δ], ?_, hfits⟩)
                      simp only [Ctx.renew, Ctx.δ, if_true]
                      simp [src.len, Ctx.δ] at hbsz ⊢; omega
                  split at h
                  · rename_i hcc
                    obtain ⟨h0', hfz, hb1, htop⟩ := hcc
                    simp only [Option.some.injEq, Prod.mk.injEq] at h
                    obtain ⟨rfl, rfl, rfl⟩ := h
                    have := key (by omega) hb1 (by rw [h0', List.drop_zero]; exact htop)
                    rw [h0', List.drop_zero, Nat.sub_zero] at this
                    rw [h0']
                    exact this
                  · split at h
                    · rename_i hcc
                      obtain ⟨_, hfz, hb1, htop⟩ := hcc
                      simp only [Option.some.injEq, Prod.mk.injEq] at h
                      obtain ⟨rfl, rfl, rfl⟩ := h
                      exact key hfz hb1 htop
                    · cases h
      · cases h
  | _ => simp [aappend] at h

end Go.Ab
