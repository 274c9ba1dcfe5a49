/-
  Parts of the proofs about this chapter, joined: contracts of functions and plain laws.
-/
import Derived.Test.YtoipleipokpnaaaWmb
import Derived.KernelRfl
set_option linter.all false
section
namespace Go.Proofs.Ytoipleipokpnaaa.Code
open Go Go.Ab
variable {pure : Bool} {base bar : Nat} {H : Heap} {Q : AV → Heap → Prop} {K : AV → Heap → List Nat → Prop}
/-! Middle: what is taken off last -/
def lastM (n : Nat) (w : Nat → Nat) : Nat := (rdsW n w).getLastD 0
theorem rdsM_lt {w : Nat → Nat} : ∀ {t left : Nat}, ∀ m ∈ rdsM w t left, m < 512
  | 0, _, m, h => by cases h
  | t + 1, left, m, h => by
    simp only [rdsM] at h
    split at h
    · cases h
    · rcases List.mem_cons.1 h with rfl | h
      · exact offM_lt
      · exact rdsM_lt m h
theorem lastM_lt {n : Nat} {w : Nat → Nat} : lastM n w < 512 := by
  unfold lastM
  cases h : rdsW n w with
  | nil => decide
  | cons a r =>
    rw [List.getLastD_eq_getLast?, List.getLast?_eq_some_getLast (by simp)]
    simp only [Option.getD_some]
    refine rdsM_lt (w := w) (t := 9) (left := pw n - 1) _ ?_
    have e : rdsM w 9 (pw n - 1) = a :: r := h
    rw [e]; exact List.getLast_mem _
theorem rdsW_pos {n : Nat} {w : Nat → Nat} (h1 : 1 ≤ n) : 1 ≤ (rdsW n w).length := by
  unfold rdsW
  have : pw n - 1 ≠ 0 := by
    have := Nat.pow_le_pow_right (n := 2) (by decide) h1
    unfold pw; omega
  simp [rdsM, this]
theorem frz_ifc {t : TypeId} {v : AV} {d : Nat} : frz (d + 1) bar H (.ifc t v) = some (.ifc t v, H) := rfl
theorem k132 {n : Nat} {ex : Bool} {l : List ZZ} {w : Nat → Nat} {D : Nat → Nat → Nat} (hT : TM (fun x => x < n) (tieB l) D) (hw : Wd n l w) (hn : n ≤ 9) (h1 : 1 ≤ n) (hbar : bar ≤ H.length)
    (h : Q (.ifc 100 (.int .u16 (lastM n w : Nat))) H) : WpCall E pure base bar 132 [.agg [], .lst 1 ex (wc n w)] H Q := by
  rw [call132]
  have e0 : frzAll bar H [.agg [], .lst 1 ex (wc n w)] = some ([.agg [], .lst 1 ex (wc n w)], H) := rfl
  rw [e0]
  have hb' : (if pure = true then H.length else bar) ≤ H.length := bar_if hbar
  simp [go_sem, WpFun, c132, aload, AV.isTup, AV.cells]
  refine k57 hT hw hn h1 (by simp; omega) fun u hu => ?_
  have hp := rdsW_pos (w := w) h1
  have hle : (rdsW n w).length ≤ 9 := rdsM_len
  have hlast : (rdsW n w).length - 1 < (rdsW n w).length := by omega
  have hw1 : IntKind.i64.wrap (((rdsW n w).length : Int) - 1) = (((rdsW n w).length - 1 : Nat) : Int) := by
    rw [Go.IntWalk.i64_in _ (by omega)]; omega
  have hix := fun (H : Heap) (K : AV → Heap → List Nat → Prop) => hu.ix (H := H) (K := K) (k := .i64) hlast
  have eg : (rdsW n w)[(rdsW n w).length - 1] = lastM n w := by
    unfold lastM
    rw [List.getLastD_eq_getLast?, List.getLast?_eq_getElem?, List.getElem?_eq_getElem hlast]; rfl
  rw [eg] at hix
  simp [go_sem, hu.len, hw1, hix, aop, Opd.evo, frz_ifc, AV.top]
  exact h
theorem k132v {id ver n fz : Nat} {l : List ZZ} {w : Nat → Nat} {D : Nat → Nat → Nat} {ex : Bool} (hid : H[id]? = some (.row ver (wc n w) fz ex)) (hib : bar ≤ id) (hn : n ≤ 9) (hT : TM (fun x => x < n) (tieB l) D) (hw : Wd n l w) (hD : ∀ x y, x < n → y < n → D x y < n)
    (h1 : 1 ≤ n) (h : ∀ b, Q (.ifc 100 (.int .u16 (lastM n w : Nat))) (H.set id b)) : WpCall E pure base bar 132 [.agg [], .vec id ver 0 n 1] H Q := by
  have hlt := (List.getElem?_eq_some_iff.1 hid).1
  obtain ⟨b, f1⟩ := wood_frz (d := 5) hid hib
  have k := k132 (pure := pure) (base := base) (bar := bar) (H := H.set id b) (Q := Q) (ex := false) hT hw hn h1 (by simp; omega) (h b)
  have e1 : frzAll bar H [.agg [], .vec id ver 0 n 1] = some ([.agg [], .lst 1 false (wc n w)], H.set id b) := by
    have : frz 8 bar H (.agg []) = some (.agg [], H) := rfl
    simp [frzAll, frz.frzs, frzsW, f1, this]
  have e2 : frzAll bar (H.set id b) [.agg [], .lst 1 false (wc n w)] = some ([.agg [], .lst 1 false (wc n w)], H.set id b) := rfl
  rw [call132, e2] at k
  rw [call132, e1]
  exact k
theorem k75m {n : Int} {q : AV} {l : List ZZ} {D : Nat → Nat → Nat} (hD : TrD n l D) (hq : isP q l) (hl : l.length < 1000) (hbar : bar ≤ H.length)
    (h1 : errT n l ≠ 0 → Q (.tup [.nili, .int .i64 (errT n l)]) H)
    (h2 : ∀ (m : Nat) w, n = m → 1 ≤ m → m ≤ 9 → errT n l = 0 → Wd m l w → Q (.tup [.ifc 100 (.int .u16 (lastM m w : Nat)), .int .i64 0]) H) : WpCall E pure base bar 75 [.agg [.int .i64 n, q], .ifc 97 (.agg [])] H Q := by
  rw [call75]
  have e0 : frzAll bar H [.agg [.int .i64 n, q], .ifc 97 (.agg [])] = some ([.agg [.int .i64 n, q], .ifc 97 (.agg [])], H) := by simp [frzAll, frz.frzs, frzsW, frz_agg, frz_int, hq.frz, frz_q0]
  rw [e0]
  have hb' : (if pure = true then H.length else bar) ≤ H.length := bar_if hbar
  simp [go_sem, WpFun, c75, hq.isTup, hq.cells, aload, AV.isTup, AV.cells]
  refine k49 hq hl (by simp; omega) (fun G he => ?_) (fun m w hm p1 p2 hw he => ?_)
  · have hh := h1 he
    simp [go_sem, he, frz_nili]
    exact hh
  · have hh := h2 m
    obtain ⟨t1, t2⟩ := hD he m hm
    simp [go_sem, Nat.add_assoc]
    refine k132v (fz := 0) (ex := true) (w := w) (by simp [own_get]) (by omega) p2 t1 hw t2 p1 fun b => ?_
    have hk := hh w hm p1 p2 he hw
    simp [go_sem, frz_ifc, AV.top, tops_cons, tops_nil, own_set]
    exact hk
theorem k51m {n : Int} {q : AV} {l : List ZZ} {D : Nat → Nat → Nat} (hD : TrD n l D) (hq : isP q l) (hl : l.length < 1000) (hbar : bar ≤ H.length)
    (h1 : errT n l ≠ 0 → Q (.tup [.nils, .int .i64 (errT n l)]) H)
    (h2 : ∀ (m : Nat) w u, n = m → 1 ≤ m → m ≤ 9 → errT n l = 0 → Wd m l w → isL u (bitsN (lastM m w)) → Q (.tup [u, .int .i64 0]) H) : WpCall E pure base bar 51 [.agg [.int .i64 n, q], .ifc 97 (.agg [])] H Q := by
  rw [call51]
  have e0 : frzAll bar H [.agg [.int .i64 n, q], .ifc 97 (.agg [])] = some ([.agg [.int .i64 n, q], .ifc 97 (.agg [])], H) := by simp [frzAll, frz.frzs, frzsW, frz_agg, frz_int, hq.frz, frz_q0]
  rw [e0]
  have hb' : (if pure = true then H.length else bar) ≤ H.length := bar_if hbar
  simp [go_sem, WpFun, c51, hq.isTup, hq.cells, aload, AV.isTup, AV.cells]
  refine k75m hD hq hl (by simp; omega) (fun he => ?_) (fun m w hm p1 p2 he hw => ?_)
  · have hh := h1 he
    simp [go_sem, aop, Opd.evo, mres]
    exact hh
  · have hu : isL (outL 1 (nats (bitsN (lastM m w)))) (bitsN (lastM m w)) := isL.out
    have hh := h2 m w _ hm p1 p2 he hw hu
    simp [go_sem, aop, Opd.evo, mres]
    refine k58 lastM_lt (by simp; omega) ?_
    simp [go_sem, hu.frz, hu.top, tops_cons, tops_nil]
    exact hh
theorem k16 {n : Int} {q : AV} {l : List ZZ} {D : Nat → Nat → Nat} (hD : TrD n l D) (hq : isP q l) (hl : l.length < 1000) (hbar : bar ≤ H.length)
    (h1 : errT n l ≠ 0 → Q (.tup [.nils, .int .i64 (errT n l)]) H)
    (h2 : ∀ (m : Nat) w u, n = m → 1 ≤ m → m ≤ 9 → errT n l = 0 → Wd m l w → isL u (bitsN (lastM m w)) → Q (.tup [u, .int .i64 0]) H) : WpCall E pure base bar 16 [.agg [.int .i64 n, q]] H Q := by
  rw [call16]
  have e0 : frzAll bar H [.agg [.int .i64 n, q]] = some ([.agg [.int .i64 n, q]], H) := by simp [frzAll, frz.frzs, frzsW, frz_agg, frz_int, hq.frz]
  rw [e0]
  have hb' : (if pure = true then H.length else bar) ≤ H.length := bar_if hbar
  simp [go_sem, WpFun, c16, hq.isTup, hq.cells, aload, AV.isTup, AV.cells, aop, Opd.evo, fillA, setCells]
  refine k51m hD hq hl (by simp; omega) (fun he => ?_) (fun m w u hm p1 p2 he hw hu => ?_)
  · have hh := h1 he
    simp [go_sem]
    exact hh
  · have hh := h2 m w u hm p1 p2 he hw hu
    simp [go_sem, hu.frz, hu.top, tops_cons, tops_nil]
    exact hh
end Go.Proofs.Ytoipleipokpnaaa.Code
end
section
namespace Go.Proofs.Ytoipleipokpnaaa.Code
open Go Go.Ab
variable {pure : Bool} {base bar : Nat} {H : Heap} {Q : AV → Heap → Prop} {K : AV → Heap → List Nat → Prop}
/-! lists of lists -/
def LL : List AV → List (List Nat) → Prop
  | [], [] => True
  | u :: us, l :: ls => isL u l ∧ LL us ls
  | _, _ => False
theorem LL.len : ∀ {us : List AV} {ls : List (List Nat)}, LL us ls → us.length = ls.length
  | [], [], _ => rfl
  | u :: us, l :: ls, h => by simp [LL.len h.2]
  | [], _ :: _, h => h.elim
  | _ :: _, [], h => h.elim
theorem LL.get : ∀ {us : List AV} {ls : List (List Nat)} {i : Nat} (_ : LL us ls) (h1 : i < us.length) (h2 : i < ls.length), isL us[i] ls[i]
  | u :: us, l :: ls, 0, h, _, _ => h.1
  | u :: us, l :: ls, i + 1, h, h1, h2 => LL.get (us := us) (ls := ls) (i := i) h.2 (by simpa using h1) (by simpa using h2)
  | [], _, _, _, h1, _ => by simp at h1
  | _ :: _, [], _, h, _, _ => h.elim
theorem LL.snoc : ∀ {us : List AV} {ls : List (List Nat)} {u : AV} {l : List Nat}, LL us ls → isL u l → LL (us ++ [u]) (ls ++ [l])
  | [], [], _, _, _, h => ⟨h, trivial⟩
  | u :: us, l :: ls, _, _, h, h' => ⟨h.1, LL.snoc h.2 h'⟩
  | [], _ :: _, _, _, h, _ => h.elim
  | _ :: _, [], _, _, h, _ => h.elim
theorem LL.all {P : AV → Prop} (hP : ∀ u l, isL u l → P u) : ∀ {us : List AV} {ls : List (List Nat)}, LL us ls → ∀ c ∈ us, P c
  | [], _, _, c, hc => by cases hc
  | u :: us, l :: ls, h, c, hc => by
    rcases List.mem_cons.1 hc with rfl | hc
    · exact hP _ _ h.1
    · exact LL.all hP h.2 c hc
  | _ :: _, [], h, _, _ => h.elim
def isLL (v : AV) (ls : List (List Nat)) : Prop := (v = .nils ∧ ls = []) ∨ ∃ ex us, v = .lst 1 ex us ∧ LL us ls
theorem isLL.len {v : AV} {ls : List (List Nat)} (h : isLL v ls) : lenWp (some v) H K = K (.int .i64 (ls.length : Int)) H [] := by
  rcases h with ⟨rfl, rfl⟩ | ⟨ex, us, rfl, hu⟩
  · rfl
  · rw [lenWp_lst, hu.len]
theorem isLL.frz {v : AV} {ls : List (List Nat)} (h : isLL v ls) {d : Nat} : Go.Ab.frz (d + 1) bar H v = some (v, H) := by
  rcases h with ⟨rfl, rfl⟩ | ⟨ex, us, rfl, hu⟩ <;> rfl
theorem isLL.top {v : AV} {ls : List (List Nat)} (h : isLL v ls) : v.top = 0 := by
  rcases h with ⟨rfl, rfl⟩ | ⟨ex, us, rfl, hu⟩
  · rfl
  · rw [top_lst]; exact tops_zero fun x hx => LL.all (P := fun c => c.top = 0) (fun u l h => h.top) hu x hx
theorem isLL.isTup {v : AV} {ls : List (List Nat)} (h : isLL v ls) : v.isTup = false := by
  rcases h with ⟨rfl, rfl⟩ | ⟨ex, us, rfl, hu⟩ <;> rfl
theorem isLL.cells {v : AV} {ls : List (List Nat)} (h : isLL v ls) : v.cells = [v] := by
  rcases h with ⟨rfl, rfl⟩ | ⟨ex, us, rfl, hu⟩ <;> rfl
theorem isLL.ix {v : AV} {ls : List (List Nat)} (h : isLL v ls) {i : Nat} (hi : i < ls.length) : ∃ u, isL u ls[i] ∧ ∀ {H : Heap} {K : AV → Heap → List Nat → Prop} {k : IntKind}, ixaSWp 1 (some v) (some (.int k (i : Int))) H K = K (.fp u) H [] := by
  rcases h with ⟨rfl, rfl⟩ | ⟨ex, us, rfl, hu⟩
  · simp at hi
  · have hl : i < us.length := by rw [hu.len]; exact hi
    refine ⟨us[i], hu.get hl hi, fun {H K k} => ?_⟩
    rw [ixaSWp_lst]
    simp only [Int.toNat_natCast]
    rw [List.getElem?_eq_getElem hl]
    simp [valWp_some]
theorem isLL.outG {us : List AV} {ls : List (List Nat)} (h : LL us ls) : isLL (outL 1 us) ls := by
  unfold outL
  split
  · rename_i e; subst e
    cases ls with
    | nil => exact .inl ⟨rfl, rfl⟩
    | cons _ _ => exact h.elim
  · exact .inr ⟨false, us, by rw [Nat.div_one, chunks_one], h⟩
theorem Grow.lls {base bytes : Nat} {us : List AV} {H0 : Heap} {v : AV} {ex : Bool} {u : AV} {l : List Nat} (hu : isL u l) (g : Grow 1 us H0 v H) (hb : bar ≤ H0.length) (hbase : base ≤ H0.length)
    (hlen : (us.length + 1) * bytes ≤ 140737488355328)
    (h : ∀ v' H' tc, Grow 1 (us ++ [u]) H0 v' H' → K v' H' tc) : appWp base bar 1 bytes (some v) (some (.lst 1 ex [u])) H K := by
  have e : [u].flatMap AV.cells = [u] := by simp [hu.cells]
  refine g.app (by omega) (Nat.one_dvd _) (fun c hc => ?_) (Nat.one_dvd _) hb hbase ?_ fun v' H' tc g' => h v' H' tc ?_
  · rw [e, List.mem_singleton] at hc; subst hc; exact hu.plain
  · simpa [hu.cells] using hlen
  · rw [e] at g'; exact g'
theorem l19_l {mv : AV} {ms : List Nat} {H0 : Heap} (hm : isM mv ms) (hlt : ∀ m ∈ ms, m < 512) (hlen : ms.length < 1000) (hb : bar ≤ H0.length) (hbase : base ≤ H0.length) {R : PQ} : ∀ (k i : Nat), i + k = ms.length → ∀ (us : List AV) (v : AV) (H : Heap), LL us ((ms.take i).map bitsN) → Grow 1 us H0 v H →
    (∀ us' v' H', LL us' (ms.map bitsN) → Grow 1 us' H0 v' H' → R (.exit 0) [(6, v'), (18, mv), (19, .int .i64 (ms.length : Nat)), (20, .int .i64 (ms.length : Nat)), (21, .bool false)] H') →
    Wp E base bar (.loop c19_l0) [(6, v), (18, mv), (19, .int .i64 (ms.length : Nat)), (20, .int .i64 (i : Nat))] H R := by
  intro k
  induction k with
  | zero =>
    intro i hi us v H hL gr h
    obtain rfl : i = ms.length := by omega
    rw [List.take_length] at hL
    rw [wp_round c19_l0.eq_1]
    simp [go_sem]
    exact h us v H hL gr
  | succ k ih =>
    intro i hi us v H hL gr h
    have hltm : i < ms.length := by omega
    have gl := gr.len
    have hix := fun (H : Heap) (K : AV → Heap → List Nat → Prop) => hm.ix (H := H) (K := K) (k := .i64) hltm
    have h5 := hlt _ (List.getElem_mem hltm)
    have hul := hL.len
    rw [List.length_map, List.length_take] at hul
    have htk : (ms.take (i + 1)).map bitsN = (ms.take i).map bitsN ++ [bitsN ms[i]] := by
      rw [List.take_add_one, List.getElem?_eq_getElem hltm, List.map_append]; rfl
    have hu : isL (outL 1 (nats (bitsN ms[i]))) (bitsN ms[i]) := isL.out
    have hnext := fun us v H hL gr => ih (i + 1) (by omega) us v H hL gr h
    rw [htk] at hnext
    have hsn := hL.snoc hu
    generalize ms[i] = m at *
    rw [wp_round c19_l0.eq_1]
    simp [go_sem, hltm, hix]
    refine k58 h5 (by omega) ?_
    generalize outL 1 (nats (bitsN m)) = u at *
    simp [go_sem, aop, fillA, setCells, chunks, hu.frz, hu.isTup, hu.noVec, hu.cells, AV.noVec.noVecs]
    refine Grow.lls hu gr hb hbase (by omega) fun v' H' tc gr' => ?_
    simp [go_sem, i64_suc (show i < 1000000 by omega)]
    exact hnext _ v' H' hsn gr'
theorem LL.plain {us : List AV} {ls : List (List Nat)} (h : LL us ls) : ∀ c ∈ us, Plain c := LL.all (P := Plain) (fun _ _ h => h.plain) h
/-- Rounds -/
theorem k19 {n : Int} {q : AV} {l : List ZZ} {D : Nat → Nat → Nat} (hD : TrD n l D) (hq : isP q l) (hl : l.length < 1000) (hbar : bar ≤ H.length)
    (h1 : errT n l ≠ 0 → Q (.tup [.nils, .int .i64 (errT n l)]) H)
    (h2 : ∀ (m : Nat) w u, n = m → 1 ≤ m → m ≤ 9 → errT n l = 0 → Wd m l w → isLL u ((rdsW m w).map bitsN) → Q (.tup [u, .int .i64 0]) H) : WpCall E pure base bar 19 [.agg [.int .i64 n, q]] H Q := by
  rw [call19]
  have e0 : frzAll bar H [.agg [.int .i64 n, q]] = some ([.agg [.int .i64 n, q]], H) := by simp [frzAll, frz.frzs, frzsW, frz_agg, frz_int, hq.frz]
  rw [e0]
  have hb' : (if pure = true then H.length else bar) ≤ H.length := bar_if hbar
  simp [go_sem, WpFun, c19, hq.isTup, hq.cells, aload, AV.isTup, AV.cells]
  refine k49 hq hl (by simp; omega) (fun G he => ?_) (fun m w hm p1 p2 hw he => ?_)
  · have hh := h1 he
    simp [go_sem, he]
    exact hh
  · have hh := h2 m
    obtain ⟨t1, t2⟩ := hD he m hm
    simp [go_sem, Nat.add_assoc]
    refine k57v (fz := 0) (ex := true) (w := w) (by simp [own_get]) (by omega) t1 hw p2 p1 fun u b hu => ?_
    have hle : (rdsW m w).length ≤ 9 := rdsM_len
    simp [go_sem, hu.len, own_set]
    refine l19_l hu (fun x hx => rdsM_lt x hx) (by omega) ?_ ?_ (rdsW m w).length 0 (by omega) [] .nils _ (by simp [LL]) (by exact Grow.nil) fun us v H2 hL gr => ?_
    · simp; omega
    · simp
    · obtain ⟨H3, f1, f2, f3, f4⟩ := gr.frz (d := 5) (bar := if pure = true then H.length else bar) (by decide) (Nat.one_dvd _) hL.plain (by simp; omega)
      have hu : isLL (outL 1 us) ((rdsW m w).map bitsN) := .outG hL
      have hk := hh w _ hm p1 p2 he hw hu
      have e3 : H3.take H.length = H := by
        have := congrArg (List.take H.length) f4
        rw [List.take_take] at this
        simp at this
        exact this
      simp [go_sem, f1, (Grow.one gr).1, hu.top, tops_cons, tops_nil, e3, frz_int]
      exact hk
end Go.Proofs.Ytoipleipokpnaaa.Code
end
section
namespace Go.Proofs.Ytoipleipokpnaaa.Code
open Go Go.Ab
variable {pure : Bool} {base bar : Nat} {H : Heap} {Q : AV → Heap → Prop} {K : AV → Heap → List Nat → Prop}
/-! Way: from knot to knot -/
/-- the next knot on the way -/
def nxtF (n : Nat) (l : List ZZ) (D : Nat → Nat → Nat) (at0 to : Nat) : Nat := ((List.range n).find? fun b => tieB l at0 b && decide (D to b + 1 = D to at0)).getD 0
def wayF (n : Nat) (l : List ZZ) (D : Nat → Nat → Nat) (to : Nat) : Nat → Nat → List Nat
  | 0, a => [a]
  | t + 1, a => a :: wayF n l D to t (nxtF n l D a to)
theorem nxtF_ok {n a to : Nat} {l : List ZZ} {D : Nat → Nat → Nat} (hT : TM (fun x => x < n) (tieB l) D) (ha : a < n) (hto : to < n) (hne : a ≠ to) :
    tieB l a (nxtF n l D a to) = true ∧ D to (nxtF n l D a to) + 1 = D to a ∧ ∀ b, tieB l a b = true → D to b + 1 = D to a → b = nxtF n l D a to := by
  obtain ⟨p, p1, p2, p3⟩ := hT.par hto ha (fun e => hne e.symm)
  have hp := (hT.inV p1).2.1
  cases hf : (List.range n).find? fun b => tieB l a b && decide (D to b + 1 = D to a) with
  | none =>
    have := List.find?_eq_none.1 hf p (List.mem_range.2 hp)
    simp [p1, p2] at this
  | some b =>
    have hb := List.find?_some hf
    simp only [Bool.and_eq_true, decide_eq_true_eq] at hb
    have e : nxtF n l D a to = b := by unfold nxtF; rw [hf]; rfl
    rw [e]
    exact ⟨hb.1, hb.2, fun c c1 c2 => (p3 c c1 c2).trans (p3 b hb.1 hb.2).symm⟩
theorem wayF_len {n to : Nat} {l : List ZZ} {D : Nat → Nat → Nat} : ∀ {t a : Nat}, (wayF n l D to t a).length = t + 1
  | 0, _ => rfl
  | t + 1, a => by simp [wayF, wayF_len]
/-- where the walk came from -/
def From (l : List ZZ) (D : Nat → Nat → Nat) (fr a : Nat) (before : Int) : Prop := (before = -1 ∧ a = fr) ∨ ∃ b : Nat, before = b ∧ tieB l a b = true ∧ D fr b + 1 = D fr a
/-- the answer of the walk -/
def wayV (n : Nat) (l : List ZZ) (D : Nat → Nat → Nat) (fr to a : Nat) (u : AV) : Prop := if D fr a + D a to = D fr to then ∃ ex, u = .lst 1 ex (nats (wayF n l D to (D to a) a)) else u = .nils
/-- what the walk needs of the heap -/
structure WalkH (n fr to : Nat) (w : Nat → Nat) (p2 p3 p4 : Nat) (H : Heap) : Prop where
  q : H[p2]? = some (.row 0 [.int .i64 (fr : Nat), .int .i64 (to : Nat)] 0 true)
  wd : ∃ ex, H[p3]? = some (.row 0 [.lst 1 ex (wc n w)] 0 true)
  me : H[p4]? = some (.row 0 [.fn 130 [] [.ptr p2 0 0, .ptr p3 0 0, .ptr p4 0 0]] 0 true)
theorem WalkH.top {n fr to : Nat} {w : Nat → Nat} {p2 p3 p4 : Nat} (h : WalkH n fr to w p2 p3 p4 H) : p4 < H.length := (List.getElem?_eq_some_iff.1 h.me).1
theorem app_two {a bytes : Nat} {ex : Bool} {path : List Nat} (hne : path ≠ []) (hlen : (path.length + 1) * bytes ≤ 140737488355328)
    (h : ∀ v H' tc, Grow 1 (nats (a :: path)) H v H' → K v H' tc) : appWp base bar 1 bytes (some (.lst 1 true [.int .i64 (a : Int)])) (some (.lst 1 ex (nats path))) H K := by
  have e : asrc H 1 (.lst 1 ex (nats path)) = some (nats path) := by rw [asrc_lst, flat_nats]
  have hz : frzsW (frz 8 bar) H (nats path) = some (nats path, H) := plains (d := 6) nats_plain
  have hl2 : (nats path).length = path.length := nats_len
  have hne2 : ¬ nats path = [] := fun e' => hne (by simpa [nats] using e')
  simp [appWp, e, go_sem, aappend, hz, hl2, AV.cells, hne2, show (1 + path.length) * bytes ≤ 140737488355328 by rw [Nat.add_comm]; exact hlen]
  refine h _ _ _ (.inr ⟨0, 0, by simp [nats], by omega, ?_, by simp [nats]⟩)
  simp [nats]; omega
theorem wayF_ne {n to t a : Nat} {l : List ZZ} {D : Nat → Nat → Nat} : wayF n l D to t a ≠ [] := fun e => by
  have := wayF_len (n := n) (l := l) (D := D) (to := to) (t := t) (a := a)
  rw [e] at this; simp at this
theorem l130 {n fr to a p2 p3 p4 : Nat} {before : Int} {lv : AV} {L : List Nat} {l : List ZZ} {D : Nat → Nat → Nat} (hL : isL lv L) (hlen : L.length ≤ 9) (h4 : p4 < H.length)
    (hme : H[p4]? = some (.row 0 [.fn 130 [] [.ptr p2 0 0, .ptr p3 0 0, .ptr p4 0 0]] 0 true)) (hb : bar ≤ H.length) (hDb : ∀ b ∈ L, D to b ≤ 9)
    (hcall : ∀ b ∈ L, (b : Int) ≠ before → ∀ {base bar : Nat} {Q : AV → Heap → Prop}, bar ≤ H.length → (∀ u, wayV n l D fr to b u → Q u H) → WpCall E false base bar 130 [.int .i64 (b : Nat), .int .i64 (a : Nat), .ptr p2 0 0, .ptr p3 0 0, .ptr p4 0 0] H Q) {R : PQ}
    (hsome : ∀ b ∈ L, (b : Int) ≠ before → D fr b + D b to = D fr to → ∀ v H', Grow 1 (nats (a :: wayF n l D to (D to b) b)) H v H' → R .ret [(7, v)] H')
    (hnone : (∀ b ∈ L, (b : Int) ≠ before → D fr b + D b to ≠ D fr to) → R (.exit 0) [(0, .int .i64 (a : Nat)), (1, .int .i64 before), (4, .ptr p4 0 0), (21, lv), (22, .int .i64 (L.length : Nat)), (23, .int .i64 (L.length : Nat)), (24, .bool false)] H) :
    ∀ (k i : Nat), i + k = L.length → (∀ b ∈ L.take i, (b : Int) ≠ before → D fr b + D b to ≠ D fr to) →
    Wp E base bar (.loop c130_l0) [(0, .int .i64 (a : Nat)), (1, .int .i64 before), (4, .ptr p4 0 0), (21, lv), (22, .int .i64 (L.length : Nat)), (23, .int .i64 (i : Nat))] H R := by
  intro k
  induction k with
  | zero =>
    intro i hi ht
    obtain rfl : i = L.length := by omega
    rw [List.take_length] at ht
    rw [wp_round c130_l0.eq_1]
    simp [go_sem]
    exact hnone ht
  | succ k ih =>
    intro i hi ht
    have hlt : i < L.length := by omega
    have hnext := ih (i + 1) (by omega)
    have htk : L.take (i + 1) = L.take i ++ [L[i]] := by rw [List.take_add_one, List.getElem?_eq_getElem hlt]; rfl
    rw [htk] at hnext
    have hmem := List.getElem_mem hlt
    have hix := fun (H : Heap) (K : AV → Heap → List Nat → Prop) => hL.ix (H := H) (K := K) (k := .i64) hlt
    have hc := hcall _ hmem
    have hs := hsome _ hmem
    have hd := hDb _ hmem
    generalize L[i] = b at *
    have hlt4 := hL.top
    have h41 : p4 + 1 ≤ H.length := h4
    have hnx : ((b : Int) ≠ before → D fr b + D b to ≠ D fr to) → Wp E base bar (.loop c130_l0) [(0, .int .i64 (a : Nat)), (1, .int .i64 before), (4, .ptr p4 0 0), (21, lv), (22, .int .i64 (L.length : Nat)), (23, .int .i64 ((i + 1 : Nat) : Int))] H R := fun hb2 => hnext fun x hx => by
      rcases List.mem_append.1 hx with hx | hx
      · exact ht x hx
      · rw [List.mem_singleton.1 hx]; exact hb2
    rw [wp_round c130_l0.eq_1]
    by_cases c1 : (b : Int) = before
    · have hh := hnx (fun h => absurd c1 h)
      simp [go_sem, hlt, hix, c1, ftop, AV.top, hlt4, h41, List.take_length, i64_suc (show i < 1000000 by omega)]
      exact hh
    · simp [go_sem, hlt, hix, c1, aload, hme]
      refine hc c1 (by omega) fun u hu => ?_
      unfold wayV at hu
      by_cases c2 : D fr b + D b to = D fr to
      · rw [if_pos c2] at hu
        obtain ⟨ex, rfl⟩ := hu
        have eq_ln : ∀ {l : List AV} {H : Heap} {K : AV → Heap → List Nat → Prop}, eqWp true .nilS (some (.lst 1 ex l)) (some .nils) H K = K (.bool true) H [] := (rfl)
        simp [go_sem, eq_ln, aop, fillA, setCells, AV.cells, chunks]
        refine app_two wayF_ne (by rw [wayF_len]; omega) fun v H' tc g => ?_
        simp [go_sem]
        exact hs c1 c2 v H' g
      · rw [if_neg c2] at hu
        subst hu
        have eq_nn : ∀ {H : Heap} {K : AV → Heap → List Nat → Prop}, eqWp true .nilS (some .nils) (some .nils) H K = K (.bool false) H [] := (rfl)
        have hh := hnx (fun _ => c2)
        simp [go_sem, eq_nn, ftop, AV.top, hlt4, h41, List.take_length, i64_suc (show i < 1000000 by omega)]
        exact hh
theorem k130 {n fr to p2 p3 p4 : Nat} {l : List ZZ} {w : Nat → Nat} {D : Nat → Nat → Nat} (hT : TM (fun x => x < n) (tieB l) D) (hw : Wd n l w) (hD : ∀ x y, x < n → y < n → D x y < n) (hn : n ≤ 9) (hfr : fr < n) (hto : to < n) :
    ∀ (m a : Nat) (before : Int), a < n → n ≤ D fr a + m → From l D fr a before → ∀ {pure : Bool} {base bar : Nat} {H : Heap} {Q : AV → Heap → Prop}, bar ≤ H.length → WalkH n fr to w p2 p3 p4 H → (∀ u, wayV n l D fr to a u → Q u H) →
    WpCall E pure base bar 130 [.int .i64 (a : Nat), .int .i64 before, .ptr p2 0 0, .ptr p3 0 0, .ptr p4 0 0] H Q
  | 0, a, before, ha, hm, hf, _, _, _, _, _, _, _, _ => by have := hD fr a hfr ha; omega
  | m + 1, a, before, ha, hm, hf, pure, base, bar, H, Q, hbar, hH, h => by
    rw [call130]
    have e0 : frzAll bar H [.int .i64 (a : Nat), .int .i64 before, .ptr p2 0 0, .ptr p3 0 0, .ptr p4 0 0] = some ([.int .i64 (a : Nat), .int .i64 before, .ptr p2 0 0, .ptr p3 0 0, .ptr p4 0 0], H) := rfl
    rw [e0]
    have hb' : (if pure = true then H.length else bar) ≤ H.length := bar_if hbar
    obtain ⟨ex, hwd⟩ := hH.wd
    by_cases e : a = to
    · subst e
      have hh := h (.lst 1 true [.int .i64 (a : Nat)]) (by
        unfold wayV
        rw [hT.zero ha, if_pos (by omega)]
        exact ⟨true, rfl⟩)
      simp [go_sem, WpFun, c130, hH.q, aload, Ab.part, aop, fillA, setCells, chunks, AV.cells, AV.noVec, AV.noVec.noVecs, Opd.ev, AV.top, tops_cons, tops_nil]
      exact hh
    · have e' : ¬ (a : Int) = (to : Int) := by omega
      have hL : isL (outL 1 (nats (bitsN (w a)))) (bitsN (w a)) := isL.out
      have hmemT : ∀ b ∈ bitsN (w a), tieB l a b = true := fun b hb => by
        rw [mem_bitsN (hw.lt a), hw.bit] at hb; exact hb
      have hchild : ∀ b ∈ bitsN (w a), (b : Int) ≠ before → D fr b = D fr a + 1 := fun b hb hne => by
        have ht := hmemT b hb
        rcases hT.step hfr ht with h1 | h1
        · exact h1
        · rcases hf with ⟨_, rfl⟩ | ⟨c, rfl, c1, c2⟩
          · rw [hT.zero ha] at h1; omega
          · have hfa : fr ≠ a := fun e => by subst e; rw [hT.zero hfr] at h1; omega
            obtain ⟨p, _, _, p3⟩ := hT.par hfr ha hfa
            have := p3 b ht h1.symm
            have := p3 c c1 c2
            omega
      obtain ⟨n1, n2, n3⟩ := nxtF_ok hT ha hto e
      have hlr := fun {R : PQ} {base bar : Nat} hb hs hn' => l130 (R := R) (base := base) (bar := bar) (H := H) (n := n) (fr := fr) (to := to) (a := a) (before := before) (l := l) (D := D) hL bitsN_len hH.top hH.me hb (fun b hb => by
          have := hD to b hto ((hT.inV (hmemT b hb)).2.1); omega) (fun b hb hne {base bar Q} hbar hQ => k130 hT hw hD hn hfr hto m b (a : Int) ((hT.inV (hmemT b hb)).2.1) (by have := hchild b hb hne; omega) (.inr ⟨a, rfl, hT.symF (hmemT b hb), (hchild b hb hne).symm⟩) hbar hH hQ) hs hn' (bitsN (w a)).length 0 (by omega) (by simp)
      simp [go_sem, WpFun, c130, hH.q, aload, Ab.part, e, e', hwd, ha, wc_getE, wc_len, wc_get]
      refine k58 (hw.lt a) (by omega) ?_
      simp [go_sem, hL.len]
      refine hlr (by omega) (fun b hb hne hs v H' g => ?_) (fun hno => ?_)
      · -- the way goes on
        have ht := hmemT b hb
        have hb' := (hT.inV ht).2.1
        have hst := hchild b hb hne
        have hbn : b = nxtF n l D a to := n3 b ht (by
          have h1 := hT.sym hb' hto
          have h2 := hT.sym ha hto
          have h3 := hT.tri hfr ha (D a to) hto rfl
          rcases hT.step hto ht with h4 | h4
          · omega
          · omega)
        obtain ⟨H2, f1, f2, f3, f4⟩ := g.frz (d := 5) (bar := if pure = true then H.length else bar) (by decide) (Nat.one_dvd _) nats_plain (by omega)
        have hs1 := hT.sym hb' hto
        have hs2 := hT.sym ha hto
        have hda : D to a = D to b + 1 := by rw [hbn]; omega
        have hk := h (outL 1 (nats (a :: wayF n l D to (D to b) b))) (by
          unfold wayV
          rw [if_pos (by omega), hda]
          refine ⟨false, ?_⟩
          rw [outL_nats, if_neg (by simp)]
          simp only [wayF, ← hbn])
        have hu : isL (outL 1 (nats (a :: wayF n l D to (D to b) b))) (a :: wayF n l D to (D to b) b) := isL.out
        simp [go_sem, f1, (Grow.one g).1, hu.top, tops_cons, tops_nil, f4]
        exact hk
      · have hk := h .nils (by
          unfold wayV
          rw [if_neg]
          intro hs
          have hb0 := (hT.inV n1).2.1
          have hs1 := hT.sym hb0 hto
          have hs2 := hT.sym ha hto
          have h3 := hT.tri hfr hb0 (D (nxtF n l D a to) to) hto rfl
          have hmem : nxtF n l D a to ∈ bitsN (w a) := by rw [mem_bitsN (hw.lt a), hw.bit]; exact n1
          have hne : ((nxtF n l D a to : Nat) : Int) ≠ before := by
            rcases hf with ⟨rfl, _⟩ | ⟨c, rfl, c1, c2⟩
            · omega
            · intro e3
              have : nxtF n l D a to = c := by omega
              rw [this] at h3 hs1 n2
              omega
          have := hno _ hmem hne
          have := hchild _ hmem hne
          omega)
        simp [go_sem, AV.top, tops_cons, tops_nil]
        exact hk
end Go.Proofs.Ytoipleipokpnaaa.Code
end
section
namespace Go.Proofs.Ytoipleipokpnaaa.Code
open Go Go.Ab
variable {pure : Bool} {base bar : Nat} {H : Heap} {Q : AV → Heap → Prop} {K : AV → Heap → List Nat → Prop}
theorem k129 {fr to n : Nat} {ex : Bool} {l : List ZZ} {w : Nat → Nat} {D : Nat → Nat → Nat} (hT : TM (fun x => x < n) (tieB l) D) (hw : Wd n l w) (hD : ∀ x y, x < n → y < n → D x y < n) (hn : n ≤ 9) (hfr : fr < n) (hto : to < n) (hbar : bar ≤ H.length)
    (h : ∀ u, isL u (wayF n l D to (D to fr) fr) → Q (.ifc 28 u) H) : WpCall E pure base bar 129 [.agg [.int .i64 (fr : Nat), .int .i64 (to : Nat)], .lst 1 ex (wc n w)] H Q := by
  rw [call129]
  have e0 : frzAll bar H [.agg [.int .i64 (fr : Nat), .int .i64 (to : Nat)], .lst 1 ex (wc n w)] = some ([.agg [.int .i64 (fr : Nat), .int .i64 (to : Nat)], .lst 1 ex (wc n w)], H) := rfl
  rw [e0]
  have hb' : (if pure = true then H.length else bar) ≤ H.length := bar_if hbar
  have hb2 : (if pure = true then H.length else bar) ≤ H.length + 2 := by omega
  simp [go_sem, WpFun, c129, aload, AV.isTup, AV.cells, storeWp, astore, hb2, Ab.part, setCells, AV.top]
  refine k130 (fr := fr) (to := to) hT hw hD hn hfr hto n fr (-1) hfr (by omega) (.inl ⟨rfl, rfl⟩) (by simp; omega) ⟨by simp, ⟨ex, by simp⟩, by simp⟩ fun u hu => ?_
  unfold wayV at hu
  rw [hT.zero hfr, if_pos (by omega)] at hu
  obtain ⟨ex', rfl⟩ := hu
  have hu : isL (.lst 1 ex' (nats (wayF n l D to (D to fr) fr))) (wayF n l D to (D to fr) fr) := .lst
  have hk := h _ hu
  simp [go_sem, aop, Opd.evo, ifc_frz hu, ifc_top hu]
  exact hk
theorem k129v {fr to id ver n fz : Nat} {l : List ZZ} {w : Nat → Nat} {D : Nat → Nat → Nat} {ex : Bool} (hid : H[id]? = some (.row ver (wc n w) fz ex)) (hib : bar ≤ id) (hn : n ≤ 9) (hT : TM (fun x => x < n) (tieB l) D) (hw : Wd n l w) (hD : ∀ x y, x < n → y < n → D x y < n)
    (hfr : fr < n) (hto : to < n) (h : ∀ u b, isL u (wayF n l D to (D to fr) fr) → Q (.ifc 28 u) (H.set id b)) : WpCall E pure base bar 129 [.agg [.int .i64 (fr : Nat), .int .i64 (to : Nat)], .vec id ver 0 n 1] H Q := by
  have hlt := (List.getElem?_eq_some_iff.1 hid).1
  obtain ⟨b, f1⟩ := wood_frz (d := 5) hid hib
  have k := k129 (pure := pure) (base := base) (bar := bar) (H := H.set id b) (Q := Q) (ex := false) hT hw hD hn hfr hto (by simp; omega) fun u hu => h u b hu
  have e1 : frzAll bar H [.agg [.int .i64 (fr : Nat), .int .i64 (to : Nat)], .vec id ver 0 n 1] = some ([.agg [.int .i64 (fr : Nat), .int .i64 (to : Nat)], .lst 1 false (wc n w)], H.set id b) := by
    have : frz 8 bar H (.agg [.int .i64 (fr : Nat), .int .i64 (to : Nat)]) = some (.agg [.int .i64 (fr : Nat), .int .i64 (to : Nat)], H) := rfl
    simp [frzAll, frz.frzs, frzsW, f1, this]
  have e2 : frzAll bar (H.set id b) [.agg [.int .i64 (fr : Nat), .int .i64 (to : Nat)], .lst 1 false (wc n w)] = some ([.agg [.int .i64 (fr : Nat), .int .i64 (to : Nat)], .lst 1 false (wc n w)], H.set id b) := rfl
  rw [call129, e2] at k
  rw [call129, e1]
  exact k
theorem k75w {fr to : Nat} {n : Int} {q : AV} {l : List ZZ} {D : Nat → Nat → Nat} (hD : TrD n l D) (hfr : (fr : Int) < n) (hto : (to : Int) < n) (hq : isP q l) (hl : l.length < 1000) (hbar : bar ≤ H.length)
    (h1 : errT n l ≠ 0 → Q (.tup [.nili, .int .i64 (errT n l)]) H)
    (h2 : ∀ (m : Nat) u, n = m → 1 ≤ m → m ≤ 9 → errT n l = 0 → isL u (wayF m l D to (D to fr) fr) → Q (.tup [.ifc 28 u, .int .i64 0]) H) : WpCall E pure base bar 75 [.agg [.int .i64 n, q], .ifc 91 (.agg [.int .i64 (fr : Nat), .int .i64 (to : Nat)])] H Q := by
  rw [call75]
  have e0 : frzAll bar H [.agg [.int .i64 n, q], .ifc 91 (.agg [.int .i64 (fr : Nat), .int .i64 (to : Nat)])] = some ([.agg [.int .i64 n, q], .ifc 91 (.agg [.int .i64 (fr : Nat), .int .i64 (to : Nat)])], H) := by simp [frzAll, frz.frzs, frzsW, frz_agg, frz_int, hq.frz, frz_ifc]
  rw [e0]
  have hb' : (if pure = true then H.length else bar) ≤ H.length := bar_if hbar
  simp [go_sem, WpFun, c75, hq.isTup, hq.cells, aload, AV.isTup, AV.cells]
  refine k49 hq hl (by simp; omega) (fun G he => ?_) (fun m w hm p1 p2 hw he => ?_)
  · have hh := h1 he
    simp [go_sem, he, frz_nili]
    exact hh
  · have hh := h2 m
    obtain ⟨t1, t2⟩ := hD he m hm
    simp [go_sem, Nat.add_assoc]
    refine k129v (fz := 0) (ex := true) (w := w) (by simp [own_get]) (by omega) p2 t1 hw t2 (by omega) (by omega) fun u b hu => ?_
    have hk := hh u hm p1 p2 he hu
    simp [go_sem, ifc_frz hu, ifc_top hu, tops_cons, tops_nil, own_set]
    exact hk
theorem k51w {fr to : Nat} {n : Int} {q : AV} {l : List ZZ} {D : Nat → Nat → Nat} (hD : TrD n l D) (hfr : (fr : Int) < n) (hto : (to : Int) < n) (hq : isP q l) (hl : l.length < 1000) (hbar : bar ≤ H.length)
    (h1 : errT n l ≠ 0 → Q (.tup [.nils, .int .i64 (errT n l)]) H)
    (h2 : ∀ (m : Nat) u, n = m → 1 ≤ m → m ≤ 9 → errT n l = 0 → isL u (wayF m l D to (D to fr) fr) → Q (.tup [u, .int .i64 0]) H) : WpCall E pure base bar 51 [.agg [.int .i64 n, q], .ifc 91 (.agg [.int .i64 (fr : Nat), .int .i64 (to : Nat)])] H Q := by
  rw [call51]
  have e0 : frzAll bar H [.agg [.int .i64 n, q], .ifc 91 (.agg [.int .i64 (fr : Nat), .int .i64 (to : Nat)])] = some ([.agg [.int .i64 n, q], .ifc 91 (.agg [.int .i64 (fr : Nat), .int .i64 (to : Nat)])], H) := by simp [frzAll, frz.frzs, frzsW, frz_agg, frz_int, hq.frz, frz_ifc]
  rw [e0]
  have hb' : (if pure = true then H.length else bar) ≤ H.length := bar_if hbar
  simp [go_sem, WpFun, c51, hq.isTup, hq.cells, aload, AV.isTup, AV.cells]
  refine k75w hD hfr hto hq hl (by simp; omega) (fun he => ?_) (fun m u hm p1 p2 he hu => ?_)
  · have hh := h1 he
    simp [go_sem, aop, Opd.evo, mres]
    exact hh
  · have hh := h2 m u hm p1 p2 he hu
    simp [go_sem, aop, Opd.evo, mres, hu.frz, hu.top, tops_cons, tops_nil]
    exact hh
noncomputable def wyE (n : Int) (l : List ZZ) (a b : Int) : Int := if errT n l ≠ 0 then errT n l else if (0 ≤ a ∧ a ≤ n - 1) ∧ 0 ≤ b ∧ b ≤ n - 1 then 0 else 2
/-- Way -/
theorem k12 {n a b : Int} {q : AV} {l : List ZZ} {D : Nat → Nat → Nat} (hD : TrD n l D) (hq : isP q l) (hl : l.length < 1000) (hbar : bar ≤ H.length)
    (h1 : wyE n l a b ≠ 0 → Q (.tup [.nils, .int .i64 (wyE n l a b)]) H)
    (h2 : ∀ (m fr to : Nat) u, n = m → a = fr → b = to → fr < m → to < m → 1 ≤ m → m ≤ 9 → errT n l = 0 → isL u (wayF m l D to (D to fr) fr) → Q (.tup [u, .int .i64 0]) H) : WpCall E pure base bar 12 [.agg [.int .i64 n, q], .int .i64 a, .int .i64 b] H Q := by
  rw [call12]
  have e0 : frzAll bar H [.agg [.int .i64 n, q], .int .i64 a, .int .i64 b] = some ([.agg [.int .i64 n, q], .int .i64 a, .int .i64 b], H) := by simp [frzAll, frz.frzs, frzsW, frz_agg, frz_int, hq.frz]
  rw [e0]
  have hb' : (if pure = true then H.length else bar) ≤ H.length := bar_if hbar
  simp [go_sem, WpFun, c12, hq.isTup, hq.cells, aload, AV.isTup, AV.cells]
  refine k49 hq hl (by simp; omega) (fun G he => ?_) (fun m w hm p1 p2 hw he => ?_)
  · have hh := h1 (by unfold wyE; rw [if_pos he]; exact he)
    unfold wyE at hh
    rw [if_pos he] at hh
    simp [go_sem, he]
    exact hh
  · have hw1 : IntKind.i64.wrap ((m : Int) - 1) = (m : Int) - 1 := Go.IntWalk.i64_in _ (by omega)
    by_cases c1 : 0 ≤ a ∧ a ≤ n - 1
    · by_cases c2 : 0 ≤ b ∧ b ≤ n - 1
      · obtain ⟨fr, rfl⟩ := Int.eq_ofNat_of_zero_le c1.1
        obtain ⟨to, rfl⟩ := Int.eq_ofNat_of_zero_le c2.1
        have d1 : (fr : Int) ≤ (m : Int) - 1 := by omega
        have d2 : (to : Int) ≤ (m : Int) - 1 := by omega
        have hh := fun u => h2 m fr to u hm rfl rfl (by omega) (by omega) p1 p2 he
        simp [go_sem, Nat.add_assoc, hw1, k50, d1, d2, aload, hq.isTup, hq.cells, AV.isTup, AV.cells, aop, Opd.evo, fillA, setCells]
        refine k51w hD (by omega) (by omega) hq hl (by simp; omega) (fun he' => absurd he he') (fun m' u hm' _ _ _ hu => ?_)
        obtain rfl : m = m' := by omega
        have hk := hh u hu
        simp [go_sem, hu.frz, hu.top, tops_cons, tops_nil]
        exact hk
      · have ee : wyE n l a b = 2 := by unfold wyE; rw [if_neg (by simpa using he), if_neg (fun h => c2 h.2)]
        have hh := h1 (by rw [ee]; decide)
        rw [ee] at hh
        have d1 : (decide (0 ≤ a) && decide (a ≤ (m : Int) - 1)) = true := by simp; omega
        have d2 : (decide (0 ≤ b) && decide (b ≤ (m : Int) - 1)) = false := by simp; omega
        simp [go_sem, Nat.add_assoc, hw1, k50, d1, d2]
        exact hh
    · have ee : wyE n l a b = 2 := by unfold wyE; rw [if_neg (by simpa using he), if_neg (fun h => c1 h.1)]
      have hh := h1 (by rw [ee]; decide)
      rw [ee] at hh
      have d1 : (decide (0 ≤ a) && decide (a ≤ (m : Int) - 1)) = false := by simp; omega
      simp [go_sem, Nat.add_assoc, hw1, k50, d1]
      exact hh
end Go.Proofs.Ytoipleipokpnaaa.Code
end
section
namespace Go.Proofs.Ytoipleipokpnaaa.Code
open Go Go.Ab
variable {pure : Bool} {base bar : Nat} {H : Heap} {Q : AV → Heap → Prop} {K : AV → Heap → List Nat → Prop}
/-! the reference: reach and middle -/
theorem dc_congr {n : Nat} {D D' : Nat → Int} (h : ∀ x, x < n → D x = D' x) : dc n D = dc n D' := by
  unfold dc
  exact List.map_congr_left fun x hx => by rw [h x (List.mem_range.1 hx)]
theorem min_cast {m d : Nat} : (if d < m then (d : Int) else (m : Int)) = ((min m d : Nat) : Int) := by split <;> omega
end Go.Proofs.Ytoipleipokpnaaa.Code
end
section
namespace Go.Proofs.Ytoipleipokpnaaa.Code
open Go Go.Ab
variable {pure : Bool} {base bar : Nat} {H : Heap} {Q : AV → Heap → Prop} {K : AV → Heap → List Nat → Prop}
/-! the reference: the middle -/
def mnF (m0 : Nat) (F : Nat → Nat) : Nat → Nat
  | 0 => m0
  | n + 1 => min (mnF m0 F n) (F n)
theorem mnF_le {m0 : Nat} {F : Nat → Nat} : ∀ {n x : Nat}, x < n → mnF m0 F n ≤ F x
  | 0, _, h => by omega
  | n + 1, x, h => by
    simp only [mnF]
    by_cases e : x = n
    · subst e; omega
    · have := mnF_le (m0 := m0) (F := F) (n := n) (x := x) (by omega); omega
theorem mnF_get {m0 : Nat} {F : Nat → Nat} : ∀ {n : Nat}, mnF m0 F n = m0 ∨ ∃ x, x < n ∧ mnF m0 F n = F x
  | 0 => .inl rfl
  | n + 1 => by
    simp only [mnF]
    rcases Nat.le_total (mnF m0 F n) (F n) with h | h
    · rw [Nat.min_eq_left h]
      rcases mnF_get (m0 := m0) (F := F) (n := n) with e | ⟨x, h1, h2⟩
      · exact .inl e
      · exact .inr ⟨x, by omega, h2⟩
    · rw [Nat.min_eq_right h]; exact .inr ⟨n, by omega, rfl⟩
theorem rch_get {n : Nat} {D : Nat → Nat → Nat} {i : Nat} (h : i < (rchL n D).length) : (rchL n D)[i] = rchF n D i := by simp [rchL]
theorem rchL_len {n : Nat} {D : Nat → Nat → Nat} : (rchL n D).length = n := by simp [rchL]
def midF (n : Nat) (D : Nat → Nat → Nat) : Nat → List Nat := fun i => (List.range i).filter fun k => decide (rchF n D k = mnF n (rchF n D) n)
/-- the middle is what is taken off last -/
theorem last_cen {n : Nat} {l : List ZZ} {w : Nat → Nat} {D : Nat → Nat → Nat} (hw : Wd n l w) : ∀ (t left : Nat), RS n l D left → left ≠ 0 → (bitsN left).length ≤ t →
    ∀ x, ((rdsM w t left).getLastD 0).testBit x = true ↔ IsCen n (fun x => left.testBit x) D x
  | 0, left, h, h0, ht, x => absurd (bits_none h.lt (by omega)) h0
  | t + 1, left, h, h0, ht, x => by
    have hf := h.fuel hw h0
    have e : rdsM w (t + 1) left = offM w left :: rdsM w t (bcl left (offM w left)) := by simp [rdsM, h0]
    rw [e]
    by_cases e2 : bcl left (offM w left) = 0
    · have e3 : rdsM w t (bcl left (offM w left)) = [] := by
        rw [e2]
        cases t with
        | zero => rfl
        | succ t => simp [rdsM]
      rw [e3]
      have hall : ∀ y, left.testBit y = true → LfS (tieB l) (fun x => left.testBit x) y := fun y hy => by
        apply Classical.byContradiction
        intro hl
        have := (h.off hw y).2 ⟨hy, hl⟩
        rw [e2] at this; simp at this
      show (offM w left).testBit x = true ↔ _
      rw [offM_bit h.lt]
      constructor
      · rintro ⟨h1, _⟩; exact h.tree.cen_all h.inn hall h1
      · rintro ⟨h1, _⟩; exact ⟨h1, (off_leaf hw h h1).2 (hall x h1)⟩
    · obtain ⟨v, hv⟩ : ∃ v, (bcl left (offM w left)).testBit v = true := Nat.exists_testBit_of_ne_zero e2
      have ih := last_cen hw t _ (h.step hw) e2 (by omega) x
      have hne : rdsM w t (bcl left (offM w left)) ≠ [] := by
        cases t with
        | zero => exact absurd (bits_none (h.step hw).lt (by omega)) e2
        | succ t => simp [rdsM, e2]
      have eg : (offM w left :: rdsM w t (bcl left (offM w left))).getLastD 0 = (rdsM w t (bcl left (offM w left))).getLastD 0 := by
        cases hL : rdsM w t (bcl left (offM w left)) with
        | nil => exact absurd hL hne
        | cons a r => simp [List.getLastD]
      rw [eg, ih]
      exact (h.tree.cen_round h.inn (h.off hw) hv).symm
theorem ecc_all {n left x : Nat} {D : Nat → Nat → Nat} (h : ∀ y, left.testBit y = true ↔ y < n) : ecc n (fun x => left.testBit x) D x = rchF n D x := by
  unfold ecc rchF
  have : ∀ m, m ≤ n → mx m (fun y => if left.testBit y = true then D x y else 0) = mx m (D x) := fun m hm => by
    induction m with
    | zero => rfl
    | succ m ih =>
      simp only [mx]
      rw [ih (by omega), if_pos ((h m).2 (by omega))]
  exact this n (Nat.le_refl n)
theorem mid_same {n : Nat} {l : List ZZ} {w : Nat → Nat} {D : Nat → Nat → Nat} (hn : n ≤ 9) (h1 : 1 ≤ n) (hT : TM (fun x => x < n) (tieB l) D) (hw : Wd n l w) (hD : ∀ x y, x < n → y < n → D x y < n) : bitsN (lastM n w) = midF n D n := by
  have hR := RS.start hn hT
  have h0 : pw n - 1 ≠ 0 := by
    have := Nat.pow_le_pow_right (n := 2) (by decide) h1
    unfold pw; omega
  have hb : ∀ y, (pw n - 1).testBit y = true ↔ y < n := fun y => by rw [pwm_bit]; simp
  have hc := last_cen hw 9 _ hR h0 bitsN_len
  have hc' : ∀ x, (lastM n w).testBit x = true ↔ x < n ∧ ∀ y, y < n → rchF n D x ≤ rchF n D y := fun x => by
    have := hc x
    unfold IsCen at this
    simp only [ecc_all hb, hb] at this
    exact this
  have hle : ∀ x, x < n → rchF n D x < n := fun x hx => by
    have : rchF n D x ≤ n - 1 := mx_le fun y hy => by have := hD x y hx hy; omega
    omega
  have hmin : ∀ x, x < n → (rchF n D x = mnF n (rchF n D) n ↔ ∀ y, y < n → rchF n D x ≤ rchF n D y) := fun x hx => by
    constructor
    · intro e y hy; rw [e]; exact mnF_le hy
    · intro h
      have h2 := mnF_le (m0 := n) (F := rchF n D) hx
      rcases mnF_get (m0 := n) (F := rchF n D) (n := n) with e | ⟨y, hy, e⟩
      · have := hle x hx; omega
      · have := h y hy; omega
  have e9 : List.range 9 = List.range n ++ List.range' n (9 - n) := by
    rw [List.range_eq_range', List.range_eq_range']
    have := List.range'_append (s := 0) (m := n) (n := 9 - n) (step := 1)
    rw [← show n + (9 - n) = 9 by omega, ← this]; simp
  unfold bitsN midF
  rw [e9, List.filter_append]
  have e1 : (List.range' n (9 - n)).filter (lastM n w).testBit = [] := by
    rw [List.filter_eq_nil_iff]
    intro x hx hbx
    have := (hc' x).1 hbx
    have := (List.mem_range'_1.1 hx).1
    omega
  rw [e1, List.append_nil]
  refine List.filter_congr fun x hx => ?_
  have hx := List.mem_range.1 hx
  rw [Bool.eq_iff_iff, decide_eq_true_iff, hc', hmin x hx]
  exact ⟨fun h => h.2, fun h => ⟨hx, h⟩⟩
end Go.Proofs.Ytoipleipokpnaaa.Code
end
section
namespace Go.Proofs.Ytoipleipokpnaaa.Code
open Go Go.Ab
variable {pure : Bool} {base bar : Nat} {H : Heap} {Q : AV → Heap → Prop} {K : AV → Heap → List Nat → Prop}
/-- a list that grows from a literal of one number -/
def OA (a : Nat) (H0 : Heap) (l : List Nat) (v : AV) (H : Heap) : Prop := (l = [a] ∧ v = .lst 1 true [.int .i64 (a : Int)] ∧ H = H0) ∨ Grow 1 (nats l) H0 v H
theorem OA.add {a : Nat} {H0 : Heap} {x : Nat} {l : List Nat} {v : AV} {ex : Bool} (g : OA a H0 l v H) (hb : bar ≤ H0.length) (hbase : base ≤ H0.length) (hlen : l.length < 1000)
    (h : ∀ v' H' tc, OA a H0 (l ++ [x]) v' H' → K v' H' tc) : appWp base bar 1 8 (some v) (some (.lst 1 ex [.int .i64 (x : Int)])) H K := by
  rcases g with ⟨rfl, rfl, rfl⟩ | g
  · exact app_two (path := [x]) (by simp) (by simp) fun v' H' tc g' => h v' H' tc (.inr g')
  · exact g.nat hb hbase (by omega) fun v' H' tc g' => h v' H' tc (.inr g')
theorem OA.get {a : Nat} {H0 : Heap} {l : List Nat} {v : AV} {i : Nat} {b : Blk} (g : OA a H0 l v H) (h : H0[i]? = some b) : H[i]? = some b := by
  rcases g with ⟨rfl, rfl, rfl⟩ | g
  · exact h
  · exact g.get h
theorem OA.len {a : Nat} {H0 : Heap} {l : List Nat} {v : AV} (g : OA a H0 l v H) : H0.length ≤ H.length := by
  rcases g with ⟨rfl, rfl, rfl⟩ | g
  · exact Nat.le_refl _
  · exact g.len
theorem OA.frz {a : Nat} {H0 : Heap} {l : List Nat} {v : AV} {d : Nat} (g : OA a H0 l v H) (hb : bar ≤ H0.length) : ∃ u H', Go.Ab.frz (d + 3) bar H v = some (u, H') ∧ isL u l ∧ H'.take H0.length = H0 := by
  rcases g with ⟨rfl, rfl, rfl⟩ | g
  · exact ⟨_, _, rfl, .inr ⟨true, rfl⟩, by simp⟩
  · obtain ⟨H', h1, h2, h3, h4⟩ := g.frz (d := d) (bar := bar) (by omega) (Nat.one_dvd _) nats_plain hb
    exact ⟨_, _, h1, isL.out, h4⟩
theorem OA.one {a : Nat} {H0 : Heap} {l : List Nat} {v : AV} (g : OA a H0 l v H) : v.isTup = false := by
  rcases g with ⟨rfl, rfl, rfl⟩ | g
  · rfl
  · exact (Grow.one g).1
end Go.Proofs.Ytoipleipokpnaaa.Code
end
section
namespace Go.Proofs.Ytoipleipokpnaaa.Code
open Go Go.Ab
variable {pure : Bool} {base bar : Nat} {H : Heap} {Q : AV → Heap → Prop} {K : AV → Heap → List Nat → Prop}
/-! the reference: rounds -/
theorem bitsN_range {n s : Nat} (hn : n ≤ 9) (h : ∀ x, s.testBit x = true → x < n) : bitsN s = (List.range n).filter s.testBit := by
  have e9 : List.range 9 = List.range n ++ List.range' n (9 - n) := by
    rw [List.range_eq_range', List.range_eq_range']
    have := List.range'_append (s := 0) (m := n) (n := 9 - n) (step := 1)
    rw [← show n + (9 - n) = 9 by omega, ← this]; simp
  unfold bitsN
  rw [e9, List.filter_append]
  have e1 : (List.range' n (9 - n)).filter s.testBit = [] := by
    rw [List.filter_eq_nil_iff]
    intro x hx hbx
    have := h x hbx
    have := (List.mem_range'_1.1 hx).1
    omega
  rw [e1, List.append_nil]
theorem Grow.vlen {L : List Nat} {H0 : Heap} {v : AV} (g : Grow 1 (nats L) H0 v H) {H' : Heap} : lenWp (some v) H' K = K (.int .i64 (L.length : Int)) H' [] := by
  rcases g with ⟨h1, rfl, rfl⟩ | ⟨ver, fz, h1, h2, rfl, rfl⟩
  · have : L = [] := by simpa [nats] using h1
    subst this; rfl
  · rw [nats_len, Nat.div_one]; rfl
theorem Grow.vix {L : List Nat} {H0 : Heap} {v : AV} (g : Grow 1 (nats L) H0 v H) {i : Nat} (hi : i < L.length) : ∃ p, (∀ {H' : Heap} {k : IntKind} {K : AV → Heap → List Nat → Prop}, ixaSWp 1 (some v) (some (.int k (i : Int))) H' K = K p H' []) ∧ ∀ {s : Nat}, aload H ⟨false, s⟩ p = some (.int .i64 ((L[i] : Nat) : Int)) := by
  rcases g with ⟨h1, rfl, rfl⟩ | ⟨ver, fz, h1, h2, rfl, rfl⟩
  · have : L = [] := by simpa [nats] using h1
    subst this; simp at hi
  · refine ⟨.ptr H0.length ver i, fun {H' k K} => by simp [go_sem, nats_len, hi], fun {s} => ?_⟩
    rw [aload_ptr (show (H0 ++ [Blk.row ver (nats L) fz false])[H0.length]? = some (.row ver (nats L) fz false) by simp), part_one]
    simp [nats, hi]
end Go.Proofs.Ytoipleipokpnaaa.Code
end
section
namespace Go.Proofs.Ytoipleipokpnaaa.Code
open Go Go.Ab
variable {pure : Bool} {base bar : Nat} {H : Heap} {Q : AV → Heap → Prop} {K : AV → Heap → List Nat → Prop}
theorem filt_two {α : Type} {P : α → Bool} : ∀ {l : List α}, (l.filter fun x => !P x).length + (l.filter P).length = l.length
  | [] => rfl
  | a :: l => by
    have := filt_two (P := P) (l := l)
    rw [List.filter_cons, List.filter_cons]
    cases P a <;> simp <;> omega
theorem bits_two {left o : Nat} (hl : left < 512) (ho : ∀ x, o.testBit x = true → left.testBit x = true) : (bitsN (bcl left o)).length + (bitsN o).length = (bitsN left).length := by
  have e1 : bitsN (bcl left o) = (bitsN left).filter fun i => !o.testBit i := by
    unfold bitsN
    rw [List.filter_filter]
    congr 1; funext i
    rw [testBit_bcl hl, Bool.and_comm]
  have e2 : bitsN o = (bitsN left).filter o.testBit := by
    unfold bitsN
    rw [List.filter_filter]
    congr 1; funext i
    cases h : o.testBit i with
    | false => simp
    | true => rw [ho i h]; rfl
  rw [e1, e2]; exact filt_two
end Go.Proofs.Ytoipleipokpnaaa.Code
end
section
namespace Go.Proofs.Ytoipleipokpnaaa.Code
open Go Go.Ab
variable {pure : Bool} {base bar : Nat} {H : Heap} {Q : AV → Heap → Prop} {K : AV → Heap → List Nat → Prop}
theorem isL.ld {a : AV} {x : List Nat} (h : isL a x) : aload H ⟨false, 1⟩ (.fp a) = some a := by
  rcases h with ⟨rfl, rfl⟩ | ⟨ex, rfl⟩ <;> rfl
end Go.Proofs.Ytoipleipokpnaaa.Code
end
section
namespace Go.Proofs.Ytoipleipokpnaaa.Code
open Go Go.Ab
/-! BranchMiddle: plain facts -/
/-- two knots of the middle are one tie apart at most -/
theorem last_near {n : Nat} {l : List ZZ} {w : Nat → Nat} {D : Nat → Nat → Nat} (hw : Wd n l w) : ∀ (t left : Nat), RS n l D left → left ≠ 0 → (bitsN left).length ≤ t →
    (∀ x y, ((rdsM w t left).getLastD 0).testBit x = true → ((rdsM w t left).getLastD 0).testBit y = true → D x y ≤ 1) ∧
    (∀ a b c, left.testBit a = true → left.testBit b = true → Dia (fun x => left.testBit x) D (D a b) → ((rdsM w t left).getLastD 0).testBit c = true → D a c + D c b = D a b)
  | 0, left, h, h0, ht => absurd (bits_none h.lt (by omega)) h0
  | t + 1, left, h, h0, ht => by
    have hf := h.fuel hw h0
    have e : rdsM w (t + 1) left = offM w left :: rdsM w t (bcl left (offM w left)) := by simp [rdsM, h0]
    rw [e]
    by_cases e2 : bcl left (offM w left) = 0
    · have e3 : rdsM w t (bcl left (offM w left)) = [] := by
        rw [e2]
        cases t with
        | zero => rfl
        | succ t => simp [rdsM]
      rw [e3]
      have hall : ∀ y, left.testBit y = true → LfS (tieB l) (fun x => left.testBit x) y := fun y hy => by
        apply Classical.byContradiction
        intro hl
        have := (h.off hw y).2 ⟨hy, hl⟩
        rw [e2] at this; simp at this
      have hin : ∀ x, (offM w left).testBit x = true → left.testBit x = true := fun x hx => ((offM_bit h.lt).1 hx).1
      exact ⟨fun x y hx hy => h.tree.near hall (hin x hx) (hin y hy), fun a b c ha hb hd hc => h.tree.dia_all hall ha hb (hin c hc) hd⟩
    · obtain ⟨v, hv⟩ : ∃ v, (bcl left (offM w left)).testBit v = true := Nat.exists_testBit_of_ne_zero e2
      have ih := last_near hw t _ (h.step hw) e2 (by omega)
      have hne : rdsM w t (bcl left (offM w left)) ≠ [] := by
        cases t with
        | zero => exact absurd (bits_none (h.step hw).lt (by omega)) e2
        | succ t => simp [rdsM, e2]
      have eg : (offM w left :: rdsM w t (bcl left (offM w left))).getLastD 0 = (rdsM w t (bcl left (offM w left))).getLastD 0 := by
        cases hL : rdsM w t (bcl left (offM w left)) with
        | nil => exact absurd hL hne
        | cons a r => simp [List.getLastD]
      rw [eg]
      refine ⟨ih.1, fun a b c ha hb hd hc => ?_⟩
      obtain ⟨a', b', a1, b1, d1, d2, d3⟩ := h.tree.dia_round h.inn (h.off hw) hv ha hb hd
      have hc' : (bcl left (offM w left)).testBit c = true := ((last_cen hw t _ (h.step hw) e2 (by omega) c).1 hc).1
      have := ih.2 a' b' c a1 b1 d1 hc
      have h3 := d3 c hc'
      have hb2 := (h.off hw b').1 b1
      have hc2 := (h.off hw c).1 hc'
      have s1 := h.tree.sym hc2.1 hb
      have s2 := h.tree.sym hc2.1 hb2.1
      omega
theorem near_two {n : Nat} {f : Nat → Nat → Bool} {D : Nat → Nat → Nat} (hT : TM (fun x => x < n) f D) {L : List Nat} (hnd : L.Nodup) (hL : ∀ x ∈ L, x < n) (hn : ∀ x ∈ L, ∀ y ∈ L, D x y ≤ 1) : L.length ≤ 2 := by
  match L, hnd, hL, hn with
  | [], _, _, _ => simp
  | [_], _, _, _ => simp
  | [_, _], _, _, _ => simp
  | a :: b :: c :: r, hnd, hL, hn =>
    have ha : a < n := hL a (by simp)
    have hb : b < n := hL b (by simp)
    have hc : c < n := hL c (by simp)
    simp only [List.nodup_cons, List.mem_cons, not_or] at hnd
    have d1 : D a b ≠ 0 := fun e => hnd.1.1 (hT.eq ha hb e)
    have d2 : D a c ≠ 0 := fun e => hnd.1.2.1 (hT.eq ha hc e)
    have d3 : D b c ≠ 0 := fun e => hnd.2.1.1 (hT.eq hb hc e)
    have e1 := hn a (by simp) b (by simp)
    have e2 := hn a (by simp) c (by simp)
    have e3 := hn b (by simp) c (by simp)
    have ft := hT.adj' hb hc (by omega)
    rcases hT.step ha ft with h | h <;> omega
theorem filt_sm {P : Nat → Bool} : ∀ {n : Nat}, ((List.range n).filter P).length = Sm n fun x => if P x then 1 else 0
  | 0 => rfl
  | n + 1 => by
    rw [List.range_succ, List.filter_append, List.length_append, filt_sm]
    simp only [Sm]
    congr 1
    cases h : P n <;> simp [h]
/-- ties of a knot whose other knot has a property -/
def ownP (l : List ZZ) (k : Nat) (P : Nat → Bool) : Nat := (l.filter fun p => (decide (p.1 = (k : Int)) && P p.2.toNat) || (decide (p.2 = (k : Int)) && P p.1.toNat)).length
theorem bits_add {s b : Nat} {P : Nat → Bool} (hs : s < 512) (hb : b < 9) (h : s.testBit b = false) : ((bitsN (bxor s (pw b))).filter P).length = ((bitsN s).filter P).length + if P b then 1 else 0 := by
  unfold bitsN
  rw [List.filter_filter, List.filter_filter, filt_sm, filt_sm]
  cases hP : P b with
  | false =>
    rw [if_neg (by decide), Nat.add_zero]
    refine Sm_congr fun x hx => ?_
    rw [testBit_bxor, testBit_pw]
    by_cases e : b = x
    · subst e; simp [hP]
    · simp [e]
  | true =>
    rw [if_pos rfl]
    refine (Sm_upd (n := 9) (a := b) (d := 1) hb (fun x hx hne => ?_) ?_).symm
    · rw [testBit_bxor, testBit_pw]
      simp [show ¬ b = x from fun e => hne e.symm]
    · rw [testBit_bxor, testBit_pw]
      simp [h, hP]
theorem wd_ownP {n : Nat} (hn : n ≤ 9) (P : Nat → Bool) : ∀ {r b : List ZZ} {w : Nat → Nat}, Wd n b w → errL n b r = 0 → (∀ x, ((bitsN (w x)).filter P).length = ownP b x P) → ∃ w', Wd n (b ++ r) w' ∧ ∀ x, ((bitsN (w' x)).filter P).length = ownP (b ++ r) x P
  | [], b, w, hw, _, hs => ⟨w, by rw [List.append_nil]; exact ⟨hw, hs⟩⟩
  | p :: r, b, w, hw, he, hs => by
    unfold errL at he
    split at he
    · rename_i h1; exact absurd he h1
    · rename_i h1
      split at he
      · cases he
      · rename_i h2
        have hok := mayS_ok.1 (show mayS n p = 0 by simpa using h1)
        obtain ⟨a, c⟩ := p
        obtain ⟨q1, q2, q3, q4, q5⟩ := hok
        simp only at q1 q2 q3 q4 q5
        obtain ⟨a, rfl⟩ := Int.eq_ofNat_of_zero_le q1
        obtain ⟨c, rfl⟩ := Int.eq_ofNat_of_zero_le q2
        have ha : a < n := by omega
        have hc : c < n := by omega
        have hac : a ≠ c := by omega
        have ht : tieB b a c = false := by simpa using h2
        have hw' := hw.tie hn ha hc hac ht
        have h1 : (w a).testBit c = false := by rw [hw.bit]; exact ht
        have h3 : (w c).testBit a = false := by rw [hw.bit, tieB_symm]; exact ht
        have hca : upd w a (bxor (w a) (pw c)) c = w c := by unfold upd; rw [if_neg (fun e => hac e.symm)]
        have c1 := bits_add (P := P) (hw.lt a) (show c < 9 by omega) h1
        have c2 := bits_add (P := P) (hw.lt c) (show a < 9 by omega) h3
        have hown : ∀ x, ownP (b ++ [((a : Int), (c : Int))]) x P = ownP b x P + if x = a then (if P c then 1 else 0) else if x = c then (if P a then 1 else 0) else 0 := fun x => by
          unfold ownP
          rw [List.filter_append, List.length_append]
          congr 1
          by_cases e1 : x = a
          · subst e1
            have : ¬ (c : Int) = (x : Int) := by omega
            cases hP : P c <;> simp [this, hP]
          · have e3 : ¬ (a : Int) = (x : Int) := by omega
            by_cases e2 : x = c
            · subst e2; cases hP : P a <;> simp [e1, e3, hP]
            · have e4 : ¬ (c : Int) = (x : Int) := by omega
              simp [e1, e2, e3, e4]
        have wa : tieW w a c a = bxor (w a) (pw c) := by unfold tieW; rw [hca]; unfold upd; rw [if_neg hac, if_pos rfl]
        have wt : tieW w a c c = bxor (w c) (pw a) := by unfold tieW; rw [hca]; unfold upd; rw [if_pos rfl]
        obtain ⟨w', k1, k2⟩ := wd_ownP hn P (r := r) (b := b ++ [((a : Int), (c : Int))]) hw' he (fun x => by
          rw [hown]
          by_cases e1 : x = a
          · subst e1; rw [wa, c1, hs, if_pos rfl]
          · by_cases e2 : x = c
            · subst e2; rw [wt, c2, hs, if_neg e1, if_pos rfl]
            · have : tieW w a c x = w x := by unfold tieW upd; rw [if_neg e2, if_neg e1]
              rw [this, hs, if_neg e1, if_neg e2]; rfl)
        refine ⟨w', ?_, ?_⟩
        · simpa using k1
        · simpa using k2
theorem ownP_bits {n left : Nat} {l : List ZZ} {w : Nat → Nat} (hn : n ≤ 9) (hw : Wd n l w) (he : errL n [] l = 0) (x : Nat) : ownP l x (fun y => left.testBit y) = (bitsN (band (w x) left)).length := by
  obtain ⟨w', k1, k2⟩ := wd_ownP hn (fun y => left.testBit y) (r := l) Wd.nil he (fun x => by simp [ownP, bitsN])
  rw [List.nil_append] at k1 k2
  obtain rfl := wd_unique hw k1
  rw [← k2 x]
  unfold bitsN
  rw [List.filter_filter]
  congr 2; funext i
  rw [testBit_band, Bool.and_comm]
theorem wayF_facts {n to : Nat} {l : List ZZ} {D : Nat → Nat → Nat} (hT : TM (fun x => x < n) (tieB l) D) (hto : to < n) : ∀ (t a : Nat), a < n → D to a = t → ∀ (i : Nat) (hi : i < (wayF n l D to t a).length),
    (wayF n l D to t a)[i] < n ∧ D a (wayF n l D to t a)[i] = i ∧ D to (wayF n l D to t a)[i] + i = t ∧ ∀ (h : 0 < i), D ((wayF n l D to t a)[i - 1]'(by omega)) (wayF n l D to t a)[i] = 1
  | 0, a, ha, hd, i, hi => by
    simp [wayF] at hi
    subst hi
    simp [wayF, ha, hT.zero ha, hd]
  | t + 1, a, ha, hd, i, hi => by
    have hne : a ≠ to := fun e => by subst e; rw [hT.zero ha] at hd; omega
    obtain ⟨n1, n2, n3⟩ := nxtF_ok hT ha hto hne
    have hbn := (hT.inV n1).2.1
    have ih := wayF_facts hT hto t (nxtF n l D a to) hbn (by omega)
    have hab := hT.adj n1
    cases i with
    | zero => simp [wayF, ha, hT.zero ha, hd]
    | succ i =>
      have hi' : i < (wayF n l D to t (nxtF n l D a to)).length := by simpa [wayF] using hi
      obtain ⟨i1, i2, i4, i3⟩ := ih i hi'
      have eg : (wayF n l D to (t + 1) a)[i + 1] = (wayF n l D to t (nxtF n l D a to))[i] := by simp [wayF]
      rw [eg]
      refine ⟨i1, ?_, by omega, fun _ => ?_⟩
      · -- D a x = i + 1
        have hx := i1
        generalize (wayF n l D to t (nxtF n l D a to))[i] = x at *
        have u1 := hT.tri ha hbn (D (nxtF n l D a to) x) hx rfl
        have u2 := hT.tri ha hx (D x to) hto rfl
        have s1 := hT.sym hto hx
        have s2 := hT.sym hto ha
        omega
      · cases i with
        | zero =>
          have : (wayF n l D to (t + 1) a)[0 + 1 - 1]'(by omega) = a := by simp [wayF]
          rw [this]
          have e0 : (wayF n l D to t (nxtF n l D a to))[0] = nxtF n l D a to := by cases t <;> simp [wayF]
          rw [e0]; exact hab
        | succ i =>
          have e1 : (wayF n l D to (t + 1) a)[i + 1 + 1 - 1]'(by omega) = (wayF n l D to t (nxtF n l D a to))[i + 1 - 1]'(by omega) := by simp [wayF]
          rw [e1]; exact i3 (by omega)
end Go.Proofs.Ytoipleipokpnaaa.Code
end
section
namespace Go.Proofs.Ytoipleipokpnaaa.Code
open Go Go.Ab
variable {pure : Bool} {base bar : Nat} {H : Heap} {Q : AV → Heap → Prop} {K : AV → Heap → List Nat → Prop}
theorem isSq.congr {v : AV} {n : Nat} {M M' : Mat} (h : isSq v n M) (hM : ∀ a b, a < n → b < n → M a b = M' a b) : isSq v n M' := by
  subst h
  unfold isSq
  congr 1
  refine List.map_congr_left fun i hi => ?_
  rw [dc_congr fun x hx => by rw [cRow, hM i x (List.mem_range.1 hi) hx]]
theorem row_isL {n i : Nat} {M : Mat} : isL (.lst 1 false (dc n (cRow M i))) ((List.range n).map (M i)) := by
  refine .inr ⟨false, ?_⟩
  simp [nats, dc, Function.comp_def]
theorem max_row {n i m : Nat} {D : Mat} (h1 : 1 ≤ n) (hm : m ∈ (List.range n).map (D i)) (hall : ∀ x ∈ (List.range n).map (D i), x ≤ m) : m = rchF n D i := by
  obtain ⟨j, hj, rfl⟩ := List.mem_map.1 hm
  apply Nat.le_antisymm
  · exact le_mx (List.mem_range.1 hj)
  · exact mx_le fun x hx => hall _ (List.mem_map.2 ⟨x, List.mem_range.2 hx, rfl⟩)
theorem l8a {n : Nat} {v1 v2 v7 v11 v13 sq u9 : AV} {D : Mat} (hs : isSq sq n D) (h9 : isL u9 (rchL n D)) (hn : n ≤ 9) (h1 : 1 ≤ n) {R : PQ} : ∀ (k i : Nat), i + k = n →
    R (.exit 0) [(1, v1), (2, v2), (7, v7), (8, sq), (9, u9), (11, v11), (13, v13), (15, .int .i64 (mnF 100 (rchF n D) n : Nat)), (79, sq), (80, .int .i64 (n : Nat)), (81, .int .i64 (n : Nat)), (82, .bool false)] H →
    Wp E base bar (.loop c8_l0) [(1, v1), (2, v2), (7, v7), (8, sq), (9, u9), (11, v11), (13, v13), (15, .int .i64 (mnF 100 (rchF n D) i : Nat)), (79, sq), (80, .int .i64 (n : Nat)), (81, .int .i64 (i : Nat))] H R := by
  intro k
  induction k with
  | zero =>
    intro i hi h
    obtain rfl : i = n := by omega
    rw [wp_round c8_l0.eq_1]
    simp [go_sem]
    exact h
  | succ k ih =>
    intro i hi h
    have hlt : i < n := by omega
    have hnext := ih (i + 1) (by omega) h
    simp only [mnF] at hnext
    have hix := fun (H : Heap) (K : AV → Heap → List Nat → Prop) => h9.ix (H := H) (K := K) (k := .i64) (i := i) (by rw [rchL_len]; exact hlt)
    simp only [rch_get] at hix
    have hsx := fun (H : Heap) (K : AV → Heap → List Nat → Prop) => hs.ix (H := H) (K := K) (k := .i64) hlt
    have hrl : isL (.lst 1 false (dc n (cRow D i))) ((List.range n).map (D i)) := row_isL
    have hld := fun (H : Heap) => isL.ld (H := H) hrl
    have hmr := fun m => max_row (m := m) (i := i) (D := D) h1
    have hlen : ((List.range n).map (D i)).length = n := by simp
    generalize AV.lst 1 false (dc n (cRow D i)) = row at *
    generalize rchF n D i = r at *
    generalize mnF 100 (rchF n D) i = m at *
    rw [wp_round c8_l0.eq_1]
    simp [go_sem, hlt, hsx, hld, hix]
    refine k38x hrl (by omega) (by omega) fun m' hm hall => ?_
    obtain rfl := hmr m' hm hall
    simp [go_sem, hix, aload, aop, Opd.ev, min_cast, i64_suc (show i < 1000000 by omega)]
    exact hnext
def wantF (n : Nat) (D : Mat) (i : Nat) : List Nat := (List.range i).filter fun k => decide (rchF n D k = mnF 100 (rchF n D) n)
theorem l8b {n : Nat} {v1 v2 v7 v11 v13 v8 u9 : AV} {D : Mat} {H0 : Heap} (h9 : isL u9 (rchL n D)) (hn : n ≤ 9) (hb : bar ≤ H0.length) (hbase : base ≤ H0.length) {R : PQ} : ∀ (k i : Nat), i + k = n → ∀ (v : AV) (H : Heap), Grow 1 (nats (wantF n D i)) H0 v H →
    (∀ v' H', Grow 1 (nats (wantF n D n)) H0 v' H' → R (.exit 2) [(1, v1), (2, v2), (7, v7), (8, v8), (9, u9), (11, v11), (13, v13), (15, .int .i64 (mnF 100 (rchF n D) n : Nat)), (18, v'), (101, .int .i64 (n : Nat)), (102, .int .i64 (n : Nat)), (103, .bool false)] H') →
    Wp E base bar (.loop c8_l1) [(1, v1), (2, v2), (7, v7), (8, v8), (9, u9), (11, v11), (13, v13), (15, .int .i64 (mnF 100 (rchF n D) n : Nat)), (18, v), (101, .int .i64 (n : Nat)), (102, .int .i64 (i : Nat))] H R := by
  intro k
  induction k with
  | zero =>
    intro i hi v H gr h
    obtain rfl : i = n := by omega
    rw [wp_round c8_l1.eq_1]
    simp [go_sem]
    exact h v H gr
  | succ k ih =>
    intro i hi v H gr h
    have hlt : i < n := by omega
    have gl := gr.len
    have hnext := fun v H gr => ih (i + 1) (by omega) v H gr h
    have hmid : wantF n D (i + 1) = wantF n D i ++ if rchF n D i = mnF 100 (rchF n D) n then [i] else [] := by
      unfold wantF
      rw [List.range_succ, List.filter_append]
      congr 1
      by_cases e : rchF n D i = mnF 100 (rchF n D) n <;> simp [e]
    rw [hmid] at hnext
    have hix := fun (H : Heap) (K : AV → Heap → List Nat → Prop) => h9.ix (H := H) (K := K) (k := .i64) (i := i) (by rw [rchL_len]; exact hlt)
    simp only [rch_get] at hix
    have hlen : (wantF n D i).length ≤ i := by
      have := List.length_filter_le (fun k => decide (rchF n D k = mnF 100 (rchF n D) n)) (List.range i)
      rw [List.length_range] at this; exact this
    generalize mnF 100 (rchF n D) n = m at *
    generalize rchF n D i = r at *
    rw [wp_round c8_l1.eq_1]
    by_cases c : r = m
    · subst c
      rw [if_pos rfl] at hnext
      simp [go_sem, hlt, hix, aload, aop, fillA, setCells, AV.cells, chunks]
      refine gr.nat hb hbase (by omega) fun v' H' tc gr' => ?_
      simp [go_sem, i64_suc (show i < 1000000 by omega)]
      exact hnext v' H' gr'
    · have c' : ¬ (r : Int) = (m : Int) := by omega
      rw [if_neg c, List.append_nil] at hnext
      simp [go_sem, hlt, hix, aload, c, c', i64_suc (show i < 1000000 by omega)]
      exact hnext v H gr
/-- ties to what is left -/
theorem ownP_snoc {l : List ZZ} {p : ZZ} {k0 : Nat} {P : Nat → Bool} : ownP (l ++ [p]) k0 P = ownP l k0 P + if (p.1 = (k0 : Int) ∧ P p.2.toNat = true) ∨ (p.2 = (k0 : Int) ∧ P p.1.toNat = true) then 1 else 0 := by
  unfold ownP
  rw [List.filter_append, List.length_append]
  congr 1
  by_cases h : (p.1 = (k0 : Int) ∧ P p.2.toNat = true) ∨ (p.2 = (k0 : Int) ∧ P p.1.toNat = true)
  · rw [if_pos h, List.filter_cons]
    have : (decide (p.1 = (k0 : Int)) && P p.2.toNat || decide (p.2 = (k0 : Int)) && P p.1.toNat) = true := by simpa using h
    rw [this]; rfl
  · rw [if_neg h, List.filter_cons]
    have : (decide (p.1 = (k0 : Int)) && P p.2.toNat || decide (p.2 = (k0 : Int)) && P p.1.toNat) = false := by
      rw [Bool.eq_false_iff]; simpa using h
    rw [this]; rfl
theorem ownP_le {l : List ZZ} {k0 : Nat} {P : Nat → Bool} : ownP l k0 P ≤ l.length := List.length_filter_le ..
def lacks (ks : List Nat) (x : Nat) : Bool := !ks.contains x
end Go.Proofs.Ytoipleipokpnaaa.Code
end
section
namespace Go.Proofs.Ytoipleipokpnaaa.Code
open Go Go.Ab
variable {pure : Bool} {base bar : Nat} {H : Heap} {Q : AV → Heap → Prop} {K : AV → Heap → List Nat → Prop}
theorem l8c {n k0 id : Nat} {q v1 v2 v7 v8 v9 v11 v156 v157 v158 v22 v23 v163 v164 : AV} {l : List ZZ} {ks : List Nat} {fs : Ab.Frame} (hq : isP q l) (hl : l.length < 1000) (hv : ∀ p ∈ l, okP n p) (hn : n ≤ 9) (hid : H[id]? = some (.map (mks ks)))
    (hfs : fs = [(1, v1), (2, v2), (7, v7), (8, v8), (9, v9), (11, v11), (20, .mp id), (156, v156), (157, v157), (158, v158), (22, v22), (23, v23), (163, v163), (164, v164)]) (ht : ftop fs ≤ H.length) (hb : bar ≤ H.length) {R : PQ} : ∀ (k i : Nat), i + k = l.length →
    R (.exit 8) (fs ++ [(24, .int .i64 (k0 : Nat)), (25, .int .i64 (ownP l k0 (lacks ks) : Nat)), (168, q), (169, .int .i64 (l.length : Nat)), (170, .int .i64 (l.length : Nat)), (171, .bool false)]) H →
    Wp E base bar (.loop c8_l2) (fs ++ [(24, .int .i64 (k0 : Nat)), (25, .int .i64 (ownP (l.take i) k0 (lacks ks) : Nat)), (168, q), (169, .int .i64 (l.length : Nat)), (170, .int .i64 (i : Nat))]) H R := by
  subst hfs
  intro k
  induction k with
  | zero =>
    intro i hi h
    obtain rfl : i = l.length := by omega
    rw [List.take_length]
    rw [wp_round c8_l2.eq_1]
    simp [go_sem]
    exact h
  | succ k ih =>
    intro i hi h
    have hlt : i < l.length := by omega
    have hnext := ih (i + 1) (by omega) h
    have htk : l.take (i + 1) = l.take i ++ [l[i]] := by rw [List.take_add_one, List.getElem?_eq_getElem hlt]; rfl
    rw [htk, ownP_snoc] at hnext
    have hle : ownP (l.take i) k0 (lacks ks) ≤ 1000 := by
      have := ownP_le (l := l.take i) (k0 := k0) (P := lacks ks)
      rw [List.length_take] at this; omega
    have hvi := hv _ (List.getElem_mem hlt)
    obtain ⟨⟨x, y⟩, hp⟩ : ∃ p, l[i] = p := ⟨_, rfl⟩
    have hix := fun (H : Heap) (K : AV → Heap → List Nat → Prop) => hq.ix (H := H) (K := K) (k := .i64) hlt
    simp only [hp, zc] at hix
    rw [hp] at hnext hvi
    obtain ⟨q1, q2, q3, q4, q5⟩ := hvi
    simp only at q1 q2 q3 q4 q5
    obtain ⟨x, rfl⟩ := Int.eq_ofNat_of_zero_le q1
    obtain ⟨y, rfl⟩ := Int.eq_ofNat_of_zero_le q2
    generalize ownP (l.take i) k0 (lacks ks) = S at *
    have hqt := hq.top
    have hidl : id < H.length := (List.getElem?_eq_some_iff.1 hid).1
    have hidG : ∀ G : List Blk, (H ++ G)[id]? = some (.map (mks ks)) := fun G => by rw [List.getElem?_append_left hidl]; exact hid
    have hw1 : IntKind.i64.wrap ((x : Int) + (y : Int)) = (x : Int) + (y : Int) := Go.IntWalk.i64_in _ (by omega)
    have hw2 : ∀ z : Nat, z < n → IntKind.i64.wrap ((k0 : Int) + (z : Int) - (k0 : Int)) = (z : Int) := fun z hz => by rw [Go.IntWalk.i64_in _ (by omega)]; omega
    have hw3 : ∀ z : Nat, z < n → IntKind.i64.wrap ((z : Int) + (k0 : Int) - (k0 : Int)) = (z : Int) := fun z hz => by rw [Go.IntWalk.i64_in _ (by omega)]; omega
    have htt := ht
    clear ht
    simp only [List.cons_append, List.nil_append] at hnext
    have hlk : ∀ z, ks.contains z = !lacks ks z := fun z => by simp [lacks]
    have hyk : (y : Int) < n := by omega
    by_cases c1 : x = k0
    · subst c1
      have hww := hw2 y (by omega)
      have c2 : ¬ (y : Int) = (x : Int) := by omega
      simp only [true_and, c2, false_and, or_false, Int.toNat_natCast] at hnext
      rw [wp_round c8_l2.eq_1]
      simp [go_sem, hlt, hix, aload, fillA, setCells, AV.cells, storeWp, astore, AV.isTup, hb, Ab.part, hw1, hww]
      refine mlook_wp (x := y) (ks := ks) (id := id) (by simp [go_sem]) (by simp [go_sem]) (hidG _) ?_
      rw [hlk]
      cases hL : lacks ks y with
      | true =>
        rw [hL, if_pos rfl] at hnext
        simp [go_sem, i64_suc (show S < 1000000 by omega), i64_suc (show i < 1000000 by omega), ftop, hqt]
        exact ⟨by simpa [ftop] using htt, hnext⟩
      | false =>
        rw [hL, if_neg (by decide)] at hnext
        simp [go_sem, i64_suc (show i < 1000000 by omega), ftop, hqt]
        exact ⟨by simpa [ftop] using htt, hnext⟩
    · have c1' : ¬ (x : Int) = (k0 : Int) := by omega
      by_cases c2 : y = k0
      · subst c2
        have hww : IntKind.i64.wrap (x : Int) = (x : Int) := Go.IntWalk.i64_in _ (by omega)
        simp only [true_and, c1', false_and, false_or, Int.toNat_natCast] at hnext
        rw [wp_round c8_l2.eq_1]
        simp [go_sem, hlt, hix, aload, fillA, setCells, AV.cells, storeWp, astore, AV.isTup, hb, Ab.part, hw1, hww, c1, c1']
        refine mlook_wp (x := x) (ks := ks) (id := id) (by simp [go_sem]) (by simp [go_sem, hww]) (hidG _) ?_
        rw [hlk]
        cases hL : lacks ks x with
        | true =>
          rw [hL, if_pos rfl] at hnext
          simp [go_sem, i64_suc (show S < 1000000 by omega), i64_suc (show i < 1000000 by omega), ftop, hqt]
          exact ⟨by simpa [ftop] using htt, hnext⟩
        | false =>
          rw [hL, if_neg (by decide)] at hnext
          simp [go_sem, i64_suc (show i < 1000000 by omega), ftop, hqt]
          exact ⟨by simpa [ftop] using htt, hnext⟩
      · have c2' : ¬ (y : Int) = (k0 : Int) := by omega
        simp only [c1', c2', false_and, or_false, if_false, Nat.add_zero] at hnext
        rw [wp_round c8_l2.eq_1]
        simp [go_sem, hlt, hix, aload, fillA, setCells, AV.cells, storeWp, astore, AV.isTup, hb, Ab.part, c1, c1', c2, c2', i64_suc (show i < 1000000 by omega), ftop, hqt]
        exact ⟨by simpa [ftop] using htt, hnext⟩
/-- what has at most one tie to what is left -/
def offK (n : Nat) (l : List ZZ) (ks : List Nat) (k : Nat) : Bool := lacks ks k && decide (ownP l k (lacks ks) ≤ 1)
theorem l8d {n id idt : Nat} {q v1 v2 v8 v9 v11 v156 v157 v158 v22 : AV} {l : List ZZ} {ks : List Nat} {H0 : Heap} (hq : isP q l) (hl : l.length < 1000) (hv : ∀ p ∈ l, okP n p) (hn : n ≤ 9) (hid : H0[id]? = some (.map (mks ks))) (ht7 : H0[idt]? = some (.row 0 [.int .i64 (n : Nat), q] 0 true))
    (ht : ftop [(1, v1), (2, v2), (7, .ptr idt 0 0), (8, v8), (9, v9), (11, v11), (20, .mp id), (156, v156), (157, v157), (158, v158), (22, v22)] ≤ H0.length) (hb : bar ≤ H0.length) (hbase : base ≤ H0.length) {R : PQ} : ∀ (k i : Nat), i + k = n → ∀ (v : AV) (H : Heap), Grow 1 (nats ((List.range i).filter (offK n l ks))) H0 v H →
    (∀ v' H', Grow 1 (nats ((List.range n).filter (offK n l ks))) H0 v' H' → R (.exit 6) [(1, v1), (2, v2), (7, .ptr idt 0 0), (8, v8), (9, v9), (11, v11), (20, .mp id), (156, v156), (157, v157), (158, v158), (22, v22), (23, v'), (163, .int .i64 (n : Nat)), (164, .int .i64 (n : Nat)), (165, .bool false)] H') →
    Wp E base bar (.loop c8_l3) [(1, v1), (2, v2), (7, .ptr idt 0 0), (8, v8), (9, v9), (11, v11), (20, .mp id), (156, v156), (157, v157), (158, v158), (22, v22), (23, v), (163, .int .i64 (n : Nat)), (164, .int .i64 (i : Nat))] H R := by
  intro k
  induction k with
  | zero =>
    intro i hi v H gr h
    obtain rfl : i = n := by omega
    rw [wp_round c8_l3.eq_1]
    simp [go_sem]
    exact h v H gr
  | succ k ih =>
    intro i hi v H gr h
    have hlt : i < n := by omega
    have gl := gr.len
    have hg7 := gr.get ht7
    have hgid : H[id]? = some (.map (mks ks)) := gr.get hid
    have hnext := fun v H gr => ih (i + 1) (by omega) v H gr h
    have hmid : (List.range (i + 1)).filter (offK n l ks) = (List.range i).filter (offK n l ks) ++ if offK n l ks i then [i] else [] := by
      rw [List.range_succ, List.filter_append]
      congr 1
      cases e : offK n l ks i <;> simp [e]
    rw [hmid] at hnext
    have hlen : ((List.range i).filter (offK n l ks)).length ≤ i := by
      have := List.length_filter_le (offK n l ks) (List.range i)
      rw [List.length_range] at this; exact this
    have hvt : v.top ≤ H.length := by
      rcases gr with ⟨_, rfl, _⟩ | ⟨_, _, _, _, rfl, rfl⟩
      · simp [AV.top]
      · simp [AV.top]
    have htop : ftop [(1, v1), (2, v2), (7, .ptr idt 0 0), (8, v8), (9, v9), (11, v11), (20, .mp id), (156, v156), (157, v157), (158, v158), (22, v22), (23, v), (163, .int .i64 (n : Nat)), (164, .int .i64 (i : Nat))] ≤ H.length := by
      have h2 := Nat.le_trans ht gl
      clear hnext ih h hmid
      simp only [ftop, AV.top, Nat.max_le] at h2 ⊢
      simp only [h2, hvt, and_self, true_and, Nat.zero_le, and_true]
    have lc := fun {R : PQ} {base bar : Nat} hb hR => l8c (R := R) (base := base) (bar := bar) (H := H) (k0 := i) (v1 := v1) (v2 := v2) (v7 := .ptr idt 0 0) (v8 := v8) (v9 := v9) (v11 := v11) (v156 := v156) (v157 := v157) (v158 := v158) (v22 := v22) (v23 := v) (v163 := .int .i64 (n : Nat)) (v164 := .int .i64 (i : Nat)) hq hl hv hn hgid rfl htop hb l.length 0 (by omega) hR
    simp only [List.take_zero, show ownP [] i (lacks ks) = 0 from rfl, List.cons_append, List.nil_append] at lc
    have ok : offK n l ks i = (lacks ks i && decide (ownP l i (lacks ks) ≤ 1)) := rfl
    have hlk : ks.contains i = !lacks ks i := by simp [lacks]
    have lenq := fun (H : Heap) (K : AV → Heap → List Nat → Prop) => hq.len (H := H) (K := K)
    generalize ownP l i (lacks ks) = S at *
    rw [wp_round c8_l3.eq_1]
    simp [go_sem, hlt, aload, hg7, Ab.part, lenq]
    refine lc (by omega) ?_
    simp [go_sem]
    refine mlook_wp (x := i) (ks := ks) (id := id) (by simp [go_sem]) (by simp [go_sem]) hgid ?_
    rw [hlk]
    cases hL : lacks ks i with
    | false =>
      rw [ok, hL, Bool.false_and, if_neg (by decide), List.append_nil] at hnext
      simp [go_sem, i64_suc (show i < 1000000 by omega)]
      exact hnext v H gr
    | true =>
      rw [ok, hL, Bool.true_and] at hnext
      by_cases c : S ≤ 1
      · have c' : (S : Int) ≤ 1 := by omega
        rw [decide_eq_true c, if_pos rfl] at hnext
        simp [go_sem, c, c', aop, fillA, setCells, AV.cells, chunks]
        refine gr.nat hb hbase (by omega) fun v' H' tc gr' => ?_
        simp [go_sem, i64_suc (show i < 1000000 by omega)]
        exact hnext v' H' gr'
      · have c' : ¬ (S : Int) ≤ 1 := by omega
        rw [decide_eq_false c, if_neg (by decide), List.append_nil] at hnext
        simp [go_sem, c, c', i64_suc (show i < 1000000 by omega)]
        exact hnext v H gr
end Go.Proofs.Ytoipleipokpnaaa.Code
end
section
namespace Go.Proofs.Ytoipleipokpnaaa.Code
open Go Go.Ab
variable {pure : Bool} {base bar : Nat} {H : Heap} {Q : AV → Heap → Prop} {K : AV → Heap → List Nat → Prop}
/-- a list is compared with one under construction -/
theorem k18v {u v : AV} {L : List Nat} {H0 : Heap} (hu : isL u L) (g : Grow 1 (nats L) H0 v H) (hne : L ≠ []) (hl : L.length < 1000) (hb : bar ≤ H0.length) (h : ∀ H', Grow 1 (nats L) H0 v H' → Q (.bool true) H') : WpCall E pure base bar 18 [u, v] H Q := by
  obtain ⟨H', f1, f2, f3, f4⟩ := g.frz (d := 5) (bar := bar) (by decide) (Nat.one_dvd _) nats_plain hb
  rw [if_neg (by simpa [nats] using hne)] at f2
  have hv : isL (outL 1 (nats L)) L := isL.out
  have k := k18 (pure := pure) (base := base) (bar := bar) hu hv hl (h H' f2)
  have e1 : frzAll bar H [u, v] = some ([u, outL 1 (nats L)], H') := by simp [frzAll, frz.frzs, frzsW, hu.frz, f1]
  have e2 : frzAll bar H' [u, outL 1 (nats L)] = some ([u, outL 1 (nats L)], H') := by simp [frzAll, frz.frzs, frzsW, hu.frz, hv.frz]
  rw [call18, e2] at k
  rw [call18, e1]
  exact k
def addL (ks L : List Nat) : List Nat := L.foldl addS ks
theorem l8e {id : Nat} {v v1 v2 v7 v8 v9 v11 v156 v157 v158 : AV} {L : List Nat} {H0 : Heap} (hlen : L.length < 1000) (hid : id < H0.length) (hb : bar ≤ id) {R : PQ} : ∀ (k i : Nat), i + k = L.length → ∀ (ks : List Nat) (H : Heap), Grow 1 (nats L) (H0.set id (.map (mks ks))) v H →
    (∀ H', Grow 1 (nats L) (H0.set id (.map (mks (addL ks (L.drop i))))) v H' → R (.exit 10) [(1, v1), (2, v2), (7, v7), (8, v8), (9, v9), (11, v11), (20, .mp id), (156, v156), (157, v157), (158, v158), (221, v), (222, .int .i64 (L.length : Nat)), (223, .int .i64 (L.length : Nat)), (224, .bool false)] H') →
    Wp E base bar (.loop c8_l4) [(1, v1), (2, v2), (7, v7), (8, v8), (9, v9), (11, v11), (20, .mp id), (156, v156), (157, v157), (158, v158), (221, v), (222, .int .i64 (L.length : Nat)), (223, .int .i64 (i : Nat))] H R := by
  intro k
  induction k with
  | zero =>
    intro i hi ks H gr h
    obtain rfl : i = L.length := by omega
    rw [List.drop_length] at h
    rw [wp_round c8_l4.eq_1]
    simp [go_sem]
    exact h H gr
  | succ k ih =>
    intro i hi ks H gr h
    have hlt : i < L.length := by omega
    obtain ⟨pp, p1, p2⟩ := Grow.vix gr hlt
    rw [List.drop_eq_getElem_cons hlt] at h
    have hg := gr.get (i := id) (b := .map (mks ks)) (by rw [List.getElem?_set_self hid])
    have gr2 := gr.set (i := id) (b := .map (mks (addS ks L[i]))) (by simpa using hid)
    rw [List.set_set] at gr2
    have hnext := ih (i + 1) (by omega) _ _ gr2 h
    generalize L[i] = a at *
    rw [wp_round c8_l4.eq_1]
    simp [go_sem, hlt, p1, p2]
    refine mupd_wp (x := a) (ks := ks) (id := id) (by simp [go_sem]) (by simp [go_sem]) (by simp [go_sem]) hb hg ?_
    simp [go_sem, i64_suc (show i < 1000000 by omega)]
    exact hnext
theorem addL_new : ∀ {L ks : List Nat}, L.Nodup → (∀ x ∈ L, x ∉ ks) → addL ks L = ks ++ L
  | [], ks, _, _ => by simp [addL]
  | a :: L, ks, hnd, h => by
    have e : addL ks (a :: L) = addL (addS ks a) L := rfl
    have ha := h a (List.mem_cons_self ..)
    have e2 : addS ks a = ks ++ [a] := by
      unfold addS
      rw [if_neg]
      simpa using ha
    have hnd' := List.nodup_cons.1 hnd
    rw [e, e2, addL_new hnd'.2 fun x hx => ?_]
    · simp
    · intro hc
      rcases List.mem_append.1 hc with hc | hc
      · exact h x (List.mem_cons_of_mem _ hx) hc
      · rw [List.mem_singleton] at hc; subst hc; exact hnd'.1 hx
/-- what is gone is what the set lacks -/
def LfK (n : Nat) (ks : List Nat) (left : Nat) : Prop := ∀ x, x < n → lacks ks x = left.testBit x
theorem ownP_congr {l : List ZZ} {k n : Nat} {P P' : Nat → Bool} (hv : ∀ p ∈ l, okP n p) (h : ∀ x, x < n → P x = P' x) : ownP l k P = ownP l k P' := by
  unfold ownP
  congr 1
  refine List.filter_congr fun p hp => ?_
  obtain ⟨q1, q2, q3, q4, q5⟩ := hv p hp
  rw [h p.1.toNat (by omega), h p.2.toNat (by omega)]
theorem offK_left {n left : Nat} {l : List ZZ} {w : Nat → Nat} {ks : List Nat} {D : Nat → Nat → Nat} (hn : n ≤ 9) (hw : Wd n l w) (he : errL n [] l = 0) (hR : RS n l D left) (hk : LfK n ks left) : (List.range n).filter (offK n l ks) = bitsN (offM w left) := by
  rw [bitsN_range (n := n) hn fun x hx => hR.inn x ((offM_bit hR.lt).1 hx).1]
  refine List.filter_congr fun b hb => ?_
  have hb := List.mem_range.1 hb
  have hb9 : band (w b) left < 512 := band9 (hw.lt b)
  rw [Bool.eq_iff_iff, offM_bit hR.lt]
  unfold offK offS
  rw [hk b hb, ownP_congr hw.val hk, ownP_bits hn hw he, Bool.and_eq_true, decide_eq_true_iff, decide_eq_true_iff, lowS_bits _ hb9]
theorem l8f {n idt id : Nat} {q v1 v2 v8 v9 v11 u : AV} {l : List ZZ} {w : Nat → Nat} {D : Nat → Nat → Nat} {ms : List Nat} (hq : isP q l) (hl : l.length < 1000) (hw : Wd n l w) (he : errL n [] l = 0) (hn : n ≤ 9) (hu : isLL u (ms.map bitsN)) (hms : ms.length < 1000)
    (htp : ∀ m, idt < m → id < m → ftop [(1, v1), (2, v2), (7, .ptr idt 0 0), (8, v8), (9, v9), (11, v11), (20, .mp id), (156, u)] ≤ m) (hb : bar ≤ id) {R : PQ} : ∀ (t i left : Nat) (ks : List Nat) (X : Heap), RS n l D left → LfK n ks left → ks.length + (bitsN left).length = n → (bitsN left).length ≤ t → i + (rdsM w t left).length = ms.length → ms.drop i = rdsM w t left →
    X[id]? = some (.map (mks ks)) → X[idt]? = some (.row 0 [.int .i64 (n : Nat), q] 0 true) →
    (∀ ks' X', ks'.length = n → X'[id]? = some (.map (mks ks')) → (∀ j, j ≠ id → X'[j]? = X[j]?) → R (.exit 4) [(1, v1), (2, v2), (7, .ptr idt 0 0), (8, v8), (9, v9), (11, v11), (20, .mp id), (156, u), (157, .int .i64 (ms.length : Nat)), (158, .int .i64 (ms.length : Nat)), (159, .bool false)] X') →
    Wp E base bar (.loop c8_l5) [(1, v1), (2, v2), (7, .ptr idt 0 0), (8, v8), (9, v9), (11, v11), (20, .mp id), (156, u), (157, .int .i64 (ms.length : Nat)), (158, .int .i64 (i : Nat))] X R := by
  have hend : ∀ (i left : Nat) (ks : List Nat) (X : Heap), RS n l D left → left = 0 → ks.length + (bitsN left).length = n → i = ms.length → X[id]? = some (.map (mks ks)) → 
      (∀ ks' X', ks'.length = n → X'[id]? = some (.map (mks ks')) → (∀ j, j ≠ id → X'[j]? = X[j]?) → R (.exit 4) [(1, v1), (2, v2), (7, .ptr idt 0 0), (8, v8), (9, v9), (11, v11), (20, .mp id), (156, u), (157, .int .i64 (ms.length : Nat)), (158, .int .i64 (ms.length : Nat)), (159, .bool false)] X') →
      Wp E base bar (.loop c8_l5) [(1, v1), (2, v2), (7, .ptr idt 0 0), (8, v8), (9, v9), (11, v11), (20, .mp id), (156, u), (157, .int .i64 (ms.length : Nat)), (158, .int .i64 (i : Nat))] X R := fun i left ks X hR h0 hk hi hX h => by
    subst h0 hi
    have hk' : ks.length = n := by
      have : (bitsN 0).length = 0 := by decide
      omega
    rw [wp_round c8_l5.eq_1]
    simp [go_sem]
    exact h ks X hk' hX fun _ _ => rfl
  intro t
  induction t with
  | zero =>
    intro i left ks X hR hK hk ht hi hdrop hX hXt h
    have h0 := bits_none hR.lt (show (bitsN left).length = 0 by omega)
    exact hend i left ks X hR h0 hk (by simpa [rdsM] using hi) hX h
  | succ t ih =>
    intro i left ks X hR hK hk ht hi hdrop hX hXt h
    by_cases e0 : left = 0
    · exact hend i left ks X hR e0 hk (by simpa [rdsM, e0] using hi) hX h
    · have er : rdsM w (t + 1) left = offM w left :: rdsM w t (bcl left (offM w left)) := by simp [rdsM, e0]
      rw [er] at hi hdrop
      rw [List.length_cons] at hi
      have hlt : i < ms.length := by omega
      have hlt' : i < (ms.map bitsN).length := by rw [List.length_map]; exact hlt
      have hf := hR.fuel hw e0
      rw [List.drop_eq_getElem_cons hlt] at hdrop
      injection hdrop with hd1 hd2
      obtain ⟨lu, a1, a2⟩ := hu.ix hlt'
      have eg : (ms.map bitsN)[i] = bitsN (offM w left) := by rw [List.getElem_map, hd1]
      rw [eg] at a1
      have hoff := offK_left hn hw he hR hK
      have hne : bitsN (offM w left) ≠ [] := fun e => by
        have := hR.some hw e0
        exact this (bits_none offM_lt (by rw [e]; rfl))
      have hidl := (List.getElem?_eq_some_iff.1 hX).1
      have hidtl := (List.getElem?_eq_some_iff.1 hXt).1
      have hidne : idt ≠ id := fun e => by subst e; rw [hX] at hXt; cases hXt
      have hld := fun (H : Heap) => isL.ld (H := H) a1
      have hl7 : aload X ⟨false, 1⟩ (.ptr idt 0 0) = some (.int .i64 (n : Nat)) := by simp [aload, hXt, Ab.part]
      have htX := htp X.length hidtl hidl
      have htX2 : ftop [(1, v1), (2, v2), (7, .ptr idt 0 0), (8, v8), (9, v9), (11, v11), (20, .mp id), (156, u), (157, .int .i64 (ms.length : Nat)), (158, .int .i64 (i : Nat)), (22, lu)] ≤ X.length := by
        have hlu := a1.top
        clear h ih
        simp only [ftop, AV.top, Nat.max_le] at htX ⊢
        simp only [htX, hlu, and_self, true_and, Nat.zero_le, and_true]
      have ld := fun {R : PQ} {base bar : Nat} hb hbase hR' => l8d (R := R) (base := base) (bar := bar) (n := n) (id := id) (idt := idt) (v1 := v1) (v2 := v2) (v8 := v8) (v9 := v9) (v11 := v11) (v156 := u) (v157 := .int .i64 (ms.length : Nat)) (v158 := .int .i64 (i : Nat)) (v22 := lu) (ks := ks) hq hl hw.val hn hX hXt htX2 hb hbase n 0 (by omega) .nils X (by simpa [nats] using Grow.nil) hR'
      rw [hoff] at ld
      have hbl := bitsN_len (s := offM w left)
      have hnd : (bitsN (offM w left)).Nodup := (List.nodup_range).filter _
      have hdis : ∀ x ∈ bitsN (offM w left), x ∉ ks := fun x hx hc => by
        have h1 := ((offM_bit hR.lt).1 ((mem_bitsN offM_lt).1 hx)).1
        have h2 := hK x (hR.inn x h1)
        rw [h1] at h2
        simp [lacks, hc] at h2
      have hadd := addL_new hnd hdis
      have htwo := bits_two (o := offM w left) hR.lt fun x hx => ((offM_bit hR.lt).1 hx).1
      have hKn : LfK n (ks ++ bitsN (offM w left)) (bcl left (offM w left)) := fun x hx => by
        rw [testBit_bcl hR.lt, ← hK x hx]
        have : (bitsN (offM w left)).contains x = (offM w left).testBit x := by
          rw [Bool.eq_iff_iff, List.contains_iff_mem, mem_bitsN offM_lt]
        unfold lacks
        rw [← this]
        simp
      have hnext := fun X' hX' hXt' h' => ih (i + 1) (bcl left (offM w left)) (ks ++ bitsN (offM w left)) X' (hR.step hw) hKn (by simp; omega) (by omega) (by omega) hd2 hX' hXt' h'
      have hlen0 : ¬ (((bitsN (offM w left)).length : Int) = 0) := by
        have := List.length_pos_iff.2 hne
        omega
      generalize bitsN (offM w left) = L at *
      rw [wp_round c8_l5.eq_1]
      simp [go_sem, hlt, a2, hld, hl7]
      refine ld (by omega) (Nat.le_refl _) fun v H1 gr => ?_
      simp [go_sem]
      refine k18v a1 gr hne (by omega) (by omega) fun H2 gr2 => ?_
      have hvl := fun (H' : Heap) (K : AV → Heap → List Nat → Prop) => Grow.vlen gr2 (H' := H') (K := K)
      have gr3 : Grow 1 (nats L) (X.set id (.map (mks ks))) v H2 := by rw [set_same hX]; exact gr2
      have le := fun {R : PQ} {base : Nat} hR' => l8e (R := R) (base := base) (bar := bar) (v := v) (v1 := v1) (v2 := v2) (v7 := .ptr idt 0 0) (v8 := v8) (v9 := v9) (v11 := v11) (v156 := u) (v157 := .int .i64 (ms.length : Nat)) (v158 := .int .i64 (i : Nat)) (L := L) (by omega) hidl hb L.length 0 (by omega) ks H2 gr3 hR'
      simp [go_sem, hvl, hlen0, hne]
      refine le fun H3 gr4 => ?_
      rw [List.drop_zero, hadd] at gr4
      have htk : H3.take X.length = X.set id (.map (mks (ks ++ L))) := by
        rcases gr4 with ⟨_, _, rfl⟩ | ⟨_, _, _, _, _, rfl⟩
        · rw [List.take_of_length_le (by simp)]
        · rw [List.take_append_of_le_length (by simp), List.take_of_length_le (by simp)]
      have htX3 : ftop [(1, v1), (2, v2), (7, .ptr idt 0 0), (8, v8), (9, v9), (11, v11), (20, .mp id), (156, u), (157, .int .i64 (ms.length : Nat)), (158, .int .i64 (i : Nat))] ≤ X.length := by
        clear h ih hnext
        simp only [ftop, AV.top, Nat.max_le] at htX ⊢
        simp only [htX, and_self, true_and, Nat.zero_le, and_true]
      simp [go_sem, htk, i64_suc (show i < 1000000 by omega)]
      refine ⟨by simpa [ftop, AV.top] using htX3, hnext _ (by rw [List.getElem?_set_self hidl]) (by rw [List.getElem?_set_ne (fun e => hidne e.symm)]; exact hXt) fun ks' X' h1 h2 h3 => h ks' X' h1 h2 fun j hj => ?_⟩
      rw [h3 j hj, List.getElem?_set_ne (fun e => hj e.symm)]
end Go.Proofs.Ytoipleipokpnaaa.Code
end
section
namespace Go.Proofs.Ytoipleipokpnaaa.Code
open Go Go.Ab
variable {pure : Bool} {base bar : Nat} {H : Heap} {Q : AV → Heap → Prop} {K : AV → Heap → List Nat → Prop}
theorem row_ix {n i : Nat} {M : Mat} {k : IntKind} (hi : i < n) {a : Nat} : ixaSWp 1 (some (.lst 1 false (dc n (cRow M a)))) (some (.int k (i : Int))) H K = K (.fp (.int .i64 ((M a i : Nat) : Int))) H [] := by
  rw [ixaSWp_lst]
  simp [dc_get hi, valWp_some]
theorem l8g {n a b idt : Nat} {q sq v9 v11 u : AV} {D : Mat} {L : List Nat} (hs : isSq sq n D) (hL : isL u L) (hn : n ≤ 9) (ha : a < n) (hb : b < n) (hlen : L.length < 1000) (hid : H[idt]? = some (.row 0 [.int .i64 (n : Nat), q] 0 true))
    (hf : ∀ (i : Nat) (hi : i < L.length), L[i] < n ∧ D a L[i] = i ∧ ∀ (h : 0 < i), D (L[i - 1]'(by omega)) L[i] = 1) {R : PQ} : ∀ (k i : Nat), i + k = L.length →
    R (.exit 12) [(7, .ptr idt 0 0), (8, sq), (9, v9), (11, v11), (30, .int .i64 (a : Nat)), (31, .int .i64 (b : Nat)), (32, u), (287, u), (288, .int .i64 (L.length : Nat)), (289, .int .i64 (L.length : Nat)), (290, .bool false)] H →
    Wp E base bar (.loop c8_l6) [(7, .ptr idt 0 0), (8, sq), (9, v9), (11, v11), (30, .int .i64 (a : Nat)), (31, .int .i64 (b : Nat)), (32, u), (287, u), (288, .int .i64 (L.length : Nat)), (289, .int .i64 (i : Nat))] H R := by
  intro k
  induction k with
  | zero =>
    intro i hi h
    obtain rfl : i = L.length := by omega
    rw [wp_round c8_l6.eq_1]
    simp [go_sem]
    exact h
  | succ k ih =>
    intro i hi h
    have hlt : i < L.length := by omega
    have hnext := ih (i + 1) (by omega) h
    obtain ⟨f1, f2, f3⟩ := hf i hlt
    have hix := fun (H : Heap) (K : AV → Heap → List Nat → Prop) => hL.ix (H := H) (K := K) (k := .i64) hlt
    have hsa := fun (H : Heap) (K : AV → Heap → List Nat → Prop) => hs.ix (H := H) (K := K) (k := .i64) ha
    have hld : ∀ (H : Heap) (j : Nat), aload H ⟨false, 1⟩ (.fp (.lst 1 false (dc n (cRow D j)))) = some (.lst 1 false (dc n (cRow D j))) := fun _ _ => rfl
    have hl7 : aload H ⟨false, 1⟩ (.ptr idt 0 0) = some (.int .i64 (n : Nat)) := by simp [aload, hid, Ab.part]
    have hli : ∀ (H : Heap) (z : Int), aload H ⟨false, 1⟩ (.fp (.int .i64 z)) = some (.int .i64 z) := fun _ _ => rfl
    by_cases c : 0 < i
    · have hw : IntKind.i64.wrap ((i : Int) - 1) = ((i - 1 : Nat) : Int) := by rw [Go.IntWalk.i64_in _ (by omega)]; omega
      have hlt1 : i - 1 < L.length := by omega
      have hix1 := fun (H : Heap) (K : AV → Heap → List Nat → Prop) => hL.ix (H := H) (K := K) (k := .i64) hlt1
      have f4 := f3 c
      have f5 := (hf (i - 1) hlt1).1
      clear f3
      have hsp := fun (H : Heap) (K : AV → Heap → List Nat → Prop) => hs.ix (H := H) (K := K) (k := .i64) f5
      generalize L[i] = x at *
      generalize L[i - 1] = y at *
      have r1 := fun (H : Heap) (K : AV → Heap → List Nat → Prop) => row_ix (H := H) (K := K) (k := .i64) (M := D) (a := a) f1
      have r2 := fun (H : Heap) (K : AV → Heap → List Nat → Prop) => row_ix (H := H) (K := K) (k := .i64) (M := D) (a := y) f1
      rw [f2] at r1
      rw [f4] at r2
      clear hlt1
      generalize i - 1 = j at *
      have c1 : ¬ (n : Int) ≤ (x : Int) := by omega
      have c1' : ¬ n ≤ x := by omega
      have c2 : ¬ (x : Int) < 0 := by omega
      have c3 : (0 : Int) < (i : Int) := by omega
      rw [wp_round c8_l6.eq_1]
      simp [go_sem, hlt, hix, hsa, hld, hl7, hli, r1, c1, c1', c2, c3]
      rw [if_pos c, hw, hix1]
      simp [go_sem, hsp, hld, hli, r2, i64_suc (show i < 1000000 by omega)]
      exact hnext
    · have c0 : i = 0 := by omega
      generalize L[i] = x at *
      have r1 := fun (H : Heap) (K : AV → Heap → List Nat → Prop) => row_ix (H := H) (K := K) (k := .i64) (M := D) (a := a) f1
      rw [f2] at r1
      have c1 : ¬ (n : Int) ≤ (x : Int) := by omega
      have c1' : ¬ n ≤ x := by omega
      have c2 : ¬ (x : Int) < 0 := by omega
      have c3 : ¬ (0 : Int) < (i : Int) := by omega
      rw [wp_round c8_l6.eq_1]
      simp [go_sem, hlt, hix, hsa, hld, hl7, hli, r1, c1, c1', c2, c, c3, i64_suc (show i < 1000000 by omega)]
      exact hnext
theorem l8h {n a b : Nat} {sq u9 u : AV} {D : Mat} {L : List Nat} (hs : isSq sq n D) (h9 : isL u9 (rchL n D)) (hL : isL u L) (hn : n ≤ 9) (ha : a < n) (hb : b < n) (hLn : ∀ x ∈ L, x < n) (hDb : ∀ x y, x < n → y < n → D x y < n) (hlen : L.length < 1000)
    (hf : (∀ x, x < n → rchF n D x ≤ D a b) → ∀ c ∈ L, D a c + D c b = D a b) {R : PQ} : ∀ (k i : Nat), i + k = L.length →
    R (.exit 14) [(8, sq), (9, u9), (30, .int .i64 (a : Nat)), (31, .int .i64 (b : Nat)), (332, u), (333, .int .i64 (L.length : Nat)), (334, .int .i64 (L.length : Nat)), (335, .bool false)] H →
    Wp E base bar (.loop c8_l7) [(8, sq), (9, u9), (30, .int .i64 (a : Nat)), (31, .int .i64 (b : Nat)), (332, u), (333, .int .i64 (L.length : Nat)), (334, .int .i64 (i : Nat))] H R := by
  intro k
  induction k with
  | zero =>
    intro i hi h
    obtain rfl : i = L.length := by omega
    rw [wp_round c8_l7.eq_1]
    simp [go_sem]
    exact h
  | succ k ih =>
    intro i hi h
    have hlt : i < L.length := by omega
    have hnext := ih (i + 1) (by omega) h
    have hmem := List.getElem_mem hlt
    have hix := fun (H : Heap) (K : AV → Heap → List Nat → Prop) => hL.ix (H := H) (K := K) (k := .i64) hlt
    have hsa := fun (H : Heap) (K : AV → Heap → List Nat → Prop) => hs.ix (H := H) (K := K) (k := .i64) ha
    have hld : ∀ (H : Heap) (j : Nat), aload H ⟨false, 1⟩ (.fp (.lst 1 false (dc n (cRow D j)))) = some (.lst 1 false (dc n (cRow D j))) := fun _ _ => rfl
    have hli : ∀ (H : Heap) (z : Int), aload H ⟨false, 1⟩ (.fp (.int .i64 z)) = some (.int .i64 z) := fun _ _ => rfl
    have hx := hLn _ hmem
    have hfx := fun hd => hf hd _ hmem
    generalize L[i] = x at *
    have hsx := fun (H : Heap) (K : AV → Heap → List Nat → Prop) => hs.ix (H := H) (K := K) (k := .i64) hx
    have r1 := fun (H : Heap) (K : AV → Heap → List Nat → Prop) => row_ix (H := H) (K := K) (k := .i64) (M := D) (a := a) hb
    have r2 := fun (H : Heap) (K : AV → Heap → List Nat → Prop) => row_ix (H := H) (K := K) (k := .i64) (M := D) (a := a) hx
    have r3 := fun (H : Heap) (K : AV → Heap → List Nat → Prop) => row_ix (H := H) (K := K) (k := .i64) (M := D) (a := x) hb
    have b1 := hDb a x ha hx
    have b2 := hDb x b hx hb
    have hw : IntKind.i64.wrap (((D a x : Nat) : Int) + ((D x b : Nat) : Int)) = ((D a x : Nat) : Int) + ((D x b : Nat) : Int) := Go.IntWalk.i64_in _ (by omega)
    rw [wp_round c8_l7.eq_1]
    simp [go_sem, hlt, hix, hsa, hld, hli, r1]
    refine k38x h9 (by rw [rchL_len]; omega) (by rw [rchL_len]; omega) fun m hm hall => ?_
    by_cases c : D a b = m
    · have hd := hfx fun y hy => by
        rw [c]
        exact hall _ (List.mem_map.2 ⟨y, List.mem_range.2 hy, rfl⟩)
      have hd' : ((D a x : Nat) : Int) + ((D x b : Nat) : Int) = ((D a b : Nat) : Int) := by omega
      have b3 := hDb a b ha hb
      have hw' : IntKind.i64.wrap ((D a b : Nat) : Int) = ((D a b : Nat) : Int) := Go.IntWalk.i64_in _ (by omega)
      rw [← c]
      simp [go_sem, hsa, hld, hli, r1, r2, hsx, r3, hw, hd', hw', i64_suc (show i < 1000000 by omega)]
      exact hnext
    · have c' : ¬ ((D a b : Nat) : Int) = (m : Int) := by omega
      simp [go_sem, c, c', i64_suc (show i < 1000000 by omega)]
      exact hnext
end Go.Proofs.Ytoipleipokpnaaa.Code
end
section
namespace Go.Proofs.Ytoipleipokpnaaa.Code
open Go Go.Ab
theorem want_mid {n : Nat} {D : Mat} (h1 : 1 ≤ n) (hn : n ≤ 9) (hD : ∀ x y, x < n → y < n → D x y < n) : wantF n D n = midF n D n := by
  have hle : ∀ x, x < n → rchF n D x < n := fun x hx => by
    have : rchF n D x ≤ n - 1 := mx_le fun y hy => by have := hD x y hx hy; omega
    omega
  have e : mnF 100 (rchF n D) n = mnF n (rchF n D) n := by
    have l1 := fun x hx => mnF_le (m0 := 100) (F := rchF n D) (n := n) (x := x) hx
    have l2 := fun x hx => mnF_le (m0 := n) (F := rchF n D) (n := n) (x := x) hx
    have h0 := hle 0 h1
    have a1 := l1 0 h1
    have a2 := l2 0 h1
    rcases mnF_get (m0 := 100) (F := rchF n D) (n := n) with e1 | ⟨x, x1, e1⟩
    · omega
    · rcases mnF_get (m0 := n) (F := rchF n D) (n := n) with e2 | ⟨y, y1, e2⟩
      · omega
      · have := l1 y y1
        have := l2 x x1
        omega
  unfold wantF midF
  rw [e]
/-- what the law asks of a way -/
theorem way_facts {n a b : Nat} {l : List ZZ} {D : Mat} {u : AV} (hT : TM (fun x => x < n) (tieB l) D) (ha : a < n) (hb : b < n) (hu : isL u (wayF n l D b (D b a) a)) :
    ∃ L, isL u L ∧ L[0]? = some a ∧ L[D a b]? = some b ∧ L.length = D a b + 1 ∧ ∀ (i : Nat) (hi : i < L.length), L[i] < n ∧ D a L[i] = i ∧ ∀ (h : 0 < i), D (L[i - 1]'(by omega)) L[i] = 1 := by
  have hfx := wayF_facts hT hb (D b a) a ha rfl
  have hs := hT.sym ha hb
  have hl : (wayF n l D b (D b a) a).length = D a b + 1 := by rw [wayF_len, hs]
  refine ⟨_, hu, ?_, ?_, hl, fun i hi => ⟨(hfx i hi).1, (hfx i hi).2.1, (hfx i hi).2.2.2⟩⟩
  · cases D b a <;> simp [wayF]
  · have hlt : D a b < (wayF n l D b (D b a) a).length := by omega
    obtain ⟨l1, l2, l3, _⟩ := hfx (D a b) hlt
    rw [List.getElem?_eq_getElem hlt]
    exact congrArg some (hT.eq hb l1 (by omega)).symm
/-- law 8: BranchMiddle -/
theorem middle_true {f : Nat → Nat} {a b : Nat} (hf : ∀ i, f i < 256) (ha : a < 256) (hb : b < 256) : ∃ f' H', acall E f' 8 [.agg (tw f), .int .u8 (a : Nat), .int .u8 (b : Nat)] [] = some (.bool true, H') := by
  have key : WpCall E false 0 0 8 [.agg (tw f), .int .u8 (a : Nat), .int .u8 (b : Nat)] [] (fun v _ => v = .bool true) := by
    rw [call8]
    have e0 : frzAll 0 [] [.agg (tw f), .int .u8 (a : Nat), .int .u8 (b : Nat)] = some ([.agg (tw f), .int .u8 (a : Nat), .int .u8 (b : Nat)], []) := by
      simp [frzAll, frz.frzs, frzsW, frz_agg, frz_int, plains (d := 5) tw_plain]
    rw [e0]
    obtain ⟨n, hN⟩ : ∃ N, N = f 0 % 9 + 1 := ⟨_, rfl⟩
    have hn : n ≤ 9 := by omega
    have h1 : 1 ≤ n := by omega
    have hT := errT_tw (f := f) h1 hn
    have hTl := tw_n (f := f) h1
    have hl : (twT f n).length < 1000 := by omega
    obtain ⟨m, em, _, _, hv, hE, hlen, hc⟩ := errT_ok hT
    obtain rfl : n = m := by omega
    obtain ⟨w, hw⟩ := wd_ex hn hE
    obtain ⟨D, hD⟩ := trD_ex (n := n) (l := twT f n)
    obtain ⟨t1, t2⟩ := hD hT n rfl
    have hms := mid_same hn h1 t1 hw t2
    have hwm := want_mid h1 hn t2
    have hRS := RS.start hn t1
    have hw9 : IntKind.i64.wrap ((a : Nat) : Int) = ((a : Nat) : Int) := Go.IntWalk.i64_in _ (by omega)
    have hw10 : IntKind.i64.wrap ((b : Nat) : Int) = ((b : Nat) : Int) := Go.IntWalk.i64_in _ (by omega)
    simp [go_sem, WpFun, c8, aload, AV.isTup, AV.cells, tw_len, List.take_of_length_le]
    refine k31 (m := 9) hf (by omega) (by omega) hN (by omega) fun u hu => ?_
    obtain ⟨q, hq, rfl⟩ := hu
    simp [go_sem, AV.isTup, AV.cells, hq.isTup, hq.cells, storeWp, astore, aload]
    refine k37 hq hl hn h1 hv (by simp) fun sq hs => ?_
    have hs' := hs.congr fun a b ha hb => farF_tm t1 hv (fun x y hx hy => by have := t2 x y hx hy; omega) ha hb
    simp [go_sem, aload]
    refine k14 hD hq hl (by simp) (fun he => absurd hT he) fun m' u9 e1 _ _ _ h9 => ?_
    obtain rfl : n = m' := by omega
    simp [go_sem, aload]
    refine k16 hD hq hl (by simp) (fun he => absurd hT he) fun m' w' u11 e1 _ _ _ hw' h11 => ?_
    obtain rfl : n = m' := by omega
    obtain rfl := wd_unique hw hw'
    simp [go_sem, aload]
    refine k19 hD hq hl (by simp) (fun he => absurd hT he) fun m' w' u13 e1 _ _ _ hw' h13 => ?_
    obtain rfl : n = m' := by omega
    obtain rfl := wd_unique hw hw'
    have hp := rdsW_pos (w := w) h1
    have hle : (rdsW n w).length ≤ 9 := rdsM_len
    have len9 := fun (H : Heap) (K : AV → Heap → List Nat → Prop) => h9.len (H := H) (K := K)
    rw [rchL_len] at len9
    have len13 := fun (H : Heap) (K : AV → Heap → List Nat → Prop) => h13.len (H := H) (K := K)
    rw [List.length_map] at len13
    have hp0 : ¬ ((rdsW n w).length : Int) = 0 := by omega
    have hp0' : ¬ (rdsW n w).length = 0 := by omega
    have lens := fun (H : Heap) (K : AV → Heap → List Nat → Prop) => hs'.len (H := H) (K := K)
    simp [go_sem, aload, Ab.part, len9, len13, hp0, hp0', lens]
    refine l8a hs' h9 hn h1 n 0 (by omega) ?_
    simp [go_sem, lens]
    have hne : midF n D n ≠ [] := fun e => by
      have hle : ∀ x, x < n → rchF n D x < n := fun x hx => by
        have : rchF n D x ≤ n - 1 := mx_le fun y hy => by have := t2 x y hx hy; omega
        omega
      have h0 := hle 0 h1
      have a2 := mnF_le (m0 := n) (F := rchF n D) (n := n) (x := 0) h1
      rcases mnF_get (m0 := n) (F := rchF n D) (n := n) with e2 | ⟨y, y1, e2⟩
      · omega
      · have : y ∈ midF n D n := by
          unfold midF
          rw [List.mem_filter]
          exact ⟨List.mem_range.2 y1, by simp [e2]⟩
        rw [e] at this; cases this
    have hml : (midF n D n).length < 1000 := by
      have := List.length_filter_le (fun k => decide (rchF n D k = mnF n (rchF n D) n)) (List.range n)
      rw [List.length_range] at this
      unfold midF; omega
    refine l8b (H0 := [Blk.row 0 (tw f) 0 true, Blk.row 0 [.int .i64 (n : Nat), q] 0 true]) h9 hn (by simp) (by simp) n 0 (by omega) .nils _ (by simpa [nats, wantF] using Grow.nil) fun v H1 gr => ?_
    rw [hwm] at gr
    rw [hms] at h11
    simp [go_sem]
    refine k18v h11 gr hne hml (by simp) fun H2 gr2 => ?_
    simp [go_sem]
    have hlastlt : (rdsW n w).length - 1 < ((rdsW n w).map bitsN).length := by rw [List.length_map]; omega
    obtain ⟨lu, c1, c2⟩ := h13.ix hlastlt
    have eg : ((rdsW n w).map bitsN)[(rdsW n w).length - 1] = midF n D n := by
      rw [List.getElem_map, ← hms]
      congr 1
      unfold lastM
      rw [List.getLastD_eq_getLast?, List.getLast?_eq_getElem?, List.getElem?_eq_getElem (by omega)]; rfl
    rw [eg] at c1
    have hldu := fun (H : Heap) => isL.ld (H := H) c1
    have hwl : IntKind.i64.wrap (((rdsW n w).length : Int) - 1) = (((rdsW n w).length - 1 : Nat) : Int) := by
      rw [Go.IntWalk.i64_in _ (by omega)]; omega
    have h0w : pw n - 1 ≠ 0 := by
      have := Nat.pow_le_pow_right (n := 2) (by decide) h1
      unfold pw; omega
    have hln := last_near hw 9 _ hRS h0w bitsN_len
    have hmem : ∀ x, x ∈ midF n D n ↔ (lastM n w).testBit x = true := fun x => by rw [← hms, mem_bitsN lastM_lt]
    have hmidlt : ∀ x ∈ midF n D n, x < n := fun x hx => by
      unfold midF at hx
      exact List.mem_range.1 (List.mem_filter.1 hx).1
    have hnear : ∀ x ∈ midF n D n, ∀ y ∈ midF n D n, D x y ≤ 1 := fun x hx y hy => hln.1 x y ((hmem x).1 hx) ((hmem y).1 hy)
    have hnd : (midF n D n).Nodup := (List.nodup_range).filter _
    have h2 := near_two t1 hnd hmidlt hnear
    simp only [len13, hwl, go_sem]
    simp [go_sem, len13, hwl, c2, hldu]
    refine k18v c1 gr2 hne hml (by simp) fun H3 gr3 => ?_
    have hvl := fun (H' : Heap) (K : AV → Heap → List Nat → Prop) => Grow.vlen gr3 (H' := H') (K := K)
    have hgt : ¬ (2 : Int) < ((midF n D n).length : Int) := by omega
    have hgt' : ¬ 2 < (midF n D n).length := by omega
    have H3l : H3[0]? = some (.row 0 (tw f) 0 true) := gr3.get (by simp)
    have H3t : H3[1]? = some (.row 0 [.int .i64 (n : Nat), q] 0 true) := gr3.get (by simp)
    have h3len := gr3.len
    have ebits : (bitsN (pw n - 1)).length = n := by
      rw [bitsN_range (n := n) hn fun x hx => by rw [pwm_bit] at hx; simpa using hx]
      rw [List.filter_eq_self.2 fun x hx => by rw [pwm_bit]; simpa using hx]
      simp
    have hsq1 : ∀ (j : Nat) (H : Heap), aload H ⟨false, 1⟩ (.fp (.lst 1 false (dc n (cRow D j)))) = some (.lst 1 false (dc n (cRow D j))) := fun _ _ => rfl
    have hli : ∀ (H : Heap) (z : Int), aload H ⟨false, 1⟩ (.fp (.int .i64 z)) = some (.int .i64 z) := fun _ _ => rfl
    have hal : a % n < n := Nat.mod_lt _ (by omega)
    have hbl : b % n < n := Nat.mod_lt _ (by omega)
    have hra := rem_n (x := a) (m := n) (by omega)
    have hrb := rem_n (x := b) (m := n) (by omega)
    rcases Decidable.em ((midF n D n).length = 2) with hl2 | hl2
    case' inl =>
      obtain ⟨x, y, hxy⟩ : ∃ x y, midF n D n = [x, y] := by
        match hm : midF n D n, hl2 with
        | [x, y], _ => exact ⟨x, y, rfl⟩
      obtain ⟨p0, i0, j0⟩ := Grow.vix gr3 (i := 0) (by omega)
      obtain ⟨p1, i1, j1⟩ := Grow.vix gr3 (i := 1) (by omega)
      have i0' : ∀ (H' : Heap) (k : IntKind) (K : AV → Heap → List Nat → Prop), ixaSWp 1 (some v) (some (.int k 0)) H' K = K p0 H' [] := fun _ _ _ => i0
      have i1' : ∀ (H' : Heap) (k : IntKind) (K : AV → Heap → List Nat → Prop), ixaSWp 1 (some v) (some (.int k 1)) H' K = K p1 H' [] := fun _ _ _ => i1
      have e0 : (midF n D n)[0]'(by omega) = x := by simp [hxy]
      have e1 : (midF n D n)[1]'(by omega) = y := by simp [hxy]
      rw [e0] at j0
      rw [e1] at j1
      have hxm : x ∈ midF n D n := by rw [hxy]; simp
      have hym : y ∈ midF n D n := by rw [hxy]; simp
      have hx := hmidlt x hxm
      have hy := hmidlt y hym
      have hne2 : x ≠ y := fun e => by
        rw [hxy] at hnd
        subst e; simp at hnd
      have hd1 : D x y = 1 := by
        have a1 := hnear x hxm y hym
        have a2 : D x y ≠ 0 := fun e => hne2 (t1.eq hx hy e)
        omega
      have hsx := fun (H : Heap) (K : AV → Heap → List Nat → Prop) => hs'.ix (H := H) (K := K) (k := .i64) hx
      have r1 := fun (H : Heap) (K : AV → Heap → List Nat → Prop) => row_ix (H := H) (K := K) (k := .i64) (M := D) (a := x) hy
      rw [hd1] at r1
      simp [go_sem, hvl, hl2]
      rw [i0']
      simp [go_sem, j0, hsx, hsq1]
      rw [i1']
      simp [go_sem, j1, r1, hli]
    case' inr =>
      have hl2' : ¬ ((midF n D n).length : Int) = 2 := by omega
      simp [go_sem, hvl, hl2, hl2', hgt, hgt']
    all_goals
      rw [len13]
      simp [go_sem]
      refine l8f (bar := 0) (base := 0) (n := n) (idt := 1) (id := H3.length) (q := q) (w := w) (D := D) (ms := rdsW n w) hq hl hw hE hn h13 (by omega) (fun m hm1 hm2 => ?_) (Nat.zero_le _) 9 0 (pw n - 1) [] (H3 ++ [.map []]) hRS (fun x hx => ?_) (by rw [ebits]; simp) bitsN_len (by rw [Nat.zero_add]; rfl) (by rw [List.drop_zero]; rfl) (by simp [mks]) (by rw [List.getElem?_append_left (by simp at h3len; omega)]; exact H3t) fun ks' X' hk' hX' hXs => ?_
      · have := hs'.top
        have := h9.top
        have := h11.top
        have := h13.top
        simp [ftop, AV.top, *]
        omega
      · rw [pwm_bit]; simp [lacks, hx]
      · have hXt : X'[1]? = some (.row 0 [.int .i64 (n : Nat), q] 0 true) := by
          rw [hXs 1 (by simp at h3len; omega), List.getElem?_append_left (by simp at h3len; omega)]; exact H3t
        have ewy : wyE n (twT f n) ((a % n : Nat) : Int) ((b % n : Nat) : Int) = 0 := by unfold wyE; rw [if_neg (by simpa using hT), if_pos (by omega)]
        have hdab := t2 (a % n) (b % n) hal hbl
        have hsy := t1.sym hal hbl
        have hwa : IntKind.i64.wrap (((D (a % n) (b % n) : Nat) : Int) + 1) = ((D (a % n) (b % n) + 1 : Nat) : Int) := by rw [Go.IntWalk.i64_in _ (by omega)]; rfl
        have hsa := fun (H : Heap) (K : AV → Heap → List Nat → Prop) => hs'.ix (H := H) (K := K) (k := .i64) hal
        have r1 := fun (H : Heap) (K : AV → Heap → List Nat → Prop) => row_ix (H := H) (K := K) (k := .i64) (M := D) (a := a % n) hbl
        have hml2 : (mks ks').length = n := by rw [← hk']; simp [mks]
        have hdia : (∀ x, x < n → rchF n D x ≤ D (a % n) (b % n)) → ∀ c ∈ midF n D n, D (a % n) c + D c (b % n) = D (a % n) (b % n) := fun hd c hc => by
          refine hln.2 (a % n) (b % n) c (by rw [pwm_bit]; simpa using hal) (by rw [pwm_bit]; simpa using hbl) (fun x y hx hy => ?_) ((hmem c).1 hc)
          simp only [pwm_bit] at hx hy
          have hx' : x < n := by simpa using hx
          have hy' : y < n := by simpa using hy
          exact Nat.le_trans (le_mx hy') (hd x hx')
        generalize a % n = a' at *
        generalize b % n = b' at *
        simp [go_sem, aload, hXt, Ab.part, hw9, hw10, hra, hrb]
        refine k12 hD hq hl (by omega) (fun h => absurd ewy h) fun m' fr to u32 e1 e2 e3 _ _ _ _ _ h32 => ?_
        obtain rfl : n = m' := by omega
        obtain rfl : a' = fr := by omega
        obtain rfl : b' = to := by omega
        obtain ⟨L, h32, hL0, hLl, hwl2, hfx'⟩ := way_facts t1 hal hbl h32
        have ix0 := fun (H : Heap) (K : AV → Heap → List Nat → Prop) => h32.ix (H := H) (K := K) (k := .i64) (i := 0) (by omega)
        have ixl := fun (H : Heap) (K : AV → Heap → List Nat → Prop) => h32.ix (H := H) (K := K) (k := .i64) (i := D a' b') (by omega)
        rw [(List.getElem?_eq_some_iff.1 hL0).2] at ix0
        rw [(List.getElem?_eq_some_iff.1 hLl).2] at ixl
        have ix0' : ∀ (H : Heap) (K : AV → Heap → List Nat → Prop), ixaSWp 1 (some u32) (some (.int .i64 0)) H K = K (.fp (.int .i64 (a' : Nat))) H [] := ix0
        have len32 := fun (H : Heap) (K : AV → Heap → List Nat → Prop) => h32.len (H := H) (K := K)
        have lg := fun {R : PQ} {v9 v11 : AV} hR => l8g (R := R) (base := 0) (bar := 0) (H := X') (idt := 1) (q := q) (v9 := v9) (v11 := v11) hs' h32 hn hal hbl (by omega) hXt hfx' L.length 0 (by omega) hR
        have lh := fun {R : PQ} hR => l8h (R := R) (base := 0) (bar := 0) (H := X') hs' h9 h11 hn hal hbl hmidlt t2 hml hdia (midF n D n).length 0 (by omega) hR
        rw [hwl2] at len32 lg
        have hwm1 : IntKind.i64.wrap (((D a' b' + 1 : Nat) : Int) - 1) = ((D a' b' : Nat) : Int) := by rw [Go.IntWalk.i64_in _ (by omega)]; omega
        have len11 := fun (H : Heap) (K : AV → Heap → List Nat → Prop) => h11.len (H := H) (K := K)
        clear ix0 hLl hL0 hfx' hwl2
        generalize hdd : D a' b' + 1 = d1 at *
        have hl7 : aload X' ⟨false, 1⟩ (.ptr 1 0 0) = some (.int .i64 (n : Nat)) := by simp [aload, hXt, Ab.part]
        simp [go_sem, aop, hX', hml2]
        simp [go_sem, hl7, len32, hsa, hsq1, r1]
        simp [go_sem, hli, hwa, ix0', hwm1, ixl]
        rw [len32]
        simp [go_sem, hwm1]
        rw [ixl]
        simp [go_sem, hli, len32]
        refine lg ?_
        simp [go_sem, len11]
        refine lh ?_
        simp [go_sem, call11]
  obtain ⟨f, v, H', h1, rfl⟩ := key
  exact ⟨f, H', h1⟩
end Go.Proofs.Ytoipleipokpnaaa.Code
end
