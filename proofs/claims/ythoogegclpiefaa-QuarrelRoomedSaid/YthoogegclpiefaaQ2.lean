/-
  Parts of the proofs about this chapter, joined: rules, contracts of functions and plain laws.
-/
import Derived.Test.YthoogegclpiefaaQ1
import Derived.Test.YthoogegclpiefaaAbO
set_option linter.all false
section
namespace Go.Proofs.Ythoogegclpiefaa.Code
open Go Go.Ab
variable {pure : Bool} {base bar : Nat} {H : Heap} {Q : AV → Heap → Prop}

/-- in how many pairs a number is -/
def degF (l : List ZZ) (x : Nat) : Nat := (l.filter fun p => p.1 == (x : Int) || p.2 == (x : Int)).length
theorem degF_step {l : List ZZ} {a b : Nat} (hab : a ≠ b) : degF (l ++ [((a : Int), (b : Int))]) = upd (upd (degF l) a (degF l a + 1)) b (upd (degF l) a (degF l a + 1) b + 1) := by
  funext x
  have e : ∀ {u v : Nat}, ((u : Int) == (v : Int)) = decide (v = u) := fun {u v} => by
    by_cases h : u = v
    · subst h; simp
    · have : ¬ v = u := fun hc => h hc.symm
      simp [this]; omega
  simp only [degF, upd, List.filter_append, List.length_append, List.filter_cons, List.filter_nil, e]
  by_cases h1 : x = b
  · subst h1; simp [Ne.symm hab]
  · by_cases h2 : x = a
    · subst h2; simp [h1]
    · simp [h1, h2]

theorem openF_valid {n : Int} : ∀ {l : List ZZ} {w w' : Nat → Nat}, openF n w l = .room w' → ∀ p ∈ l, 0 ≤ p.1 ∧ p.1 < p.2 ∧ p.2 < n
  | [], w, w', h, p, hp => by simp at hp
  | q :: r, w, w', h, p, hp => by
    simp only [openF] at h
    split at h
    · cases h
    · rename_i h1
      split at h
      · cases h
      · rename_i h2
        split at h
        · cases h
        · rcases List.mem_cons.1 hp with rfl | hp
          · omega
          · exact openF_valid h p hp

theorem l47 {n : Nat} {q : AV} {l : List ZZ} (hq : isP q l) (hl : l.length < 1000) (hval : ∀ p ∈ l, 0 ≤ p.1 ∧ p.1 < p.2 ∧ p.2 < (n : Int)) (hbar : bar ≤ H.length) {R : PQ} :
    ∀ (k i : Nat), i + k = l.length →
    (R (.exit 0) [(1, .ptr H.length 0 0), (5, .vec (H.length + 1) 0 0 n 1), (6, .int .i64 (l.length : Nat)), (19, .bool false)] (H ++ [.row 0 [.int .i64 (n : Int), q] 0 true, .row 0 (fcells n (degF l)) 0 true])) →
    Wp E H.length bar (.loop c47_l0) [(1, .ptr H.length 0 0), (5, .vec (H.length + 1) 0 0 n 1), (6, .int .i64 (i : Nat))] (H ++ [.row 0 [.int .i64 (n : Int), q] 0 true, .row 0 (fcells n (degF (l.take i))) 0 true]) R := by
  intro k
  induction k with
  | zero =>
    intro i hi h
    obtain rfl : i = l.length := by omega
    rw [wp_round c47_l0.eq_1]
    simp [go_sem, aload, own_get0, hq.len]
    exact h
  | succ k ih =>
    intro i hi h
    have hlt : i < l.length := by omega
    obtain ⟨⟨a, b⟩, hp⟩ : ∃ p, l[i] = p := ⟨_, rfl⟩
    obtain ⟨v1, v2, v3⟩ := hval _ (hp ▸ List.getElem_mem hlt)
    simp only at v1 v2 v3
    obtain ⟨a, rfl⟩ := Int.eq_ofNat_of_zero_le v1
    obtain ⟨b, rfl⟩ := Int.eq_ofNat_of_zero_le (show 0 ≤ b by omega)
    have ha : a < n := by omega
    have hb : b < n := by omega
    have hd : ∀ x, degF (l.take i) x ≤ i := fun x => Nat.le_trans (List.length_filter_le _ _) (by simp; omega)
    have hid : ∀ g, (H ++ [Blk.row 0 [.int .i64 (n : Int), q] 0 true, .row 0 (fcells n g) 0 true])[H.length + 1]? = some (.row 0 (fcells n g) 0 true) := fun g => by simp [own_get]
    have hset : ∀ g g', (H ++ [Blk.row 0 [.int .i64 (n : Int), q] 0 true, .row 0 (fcells n g) 0 true]).set (H.length + 1) (Blk.row 0 (fcells n g') 0 true) = H ++ [Blk.row 0 [.int .i64 (n : Int), q] 0 true, .row 0 (fcells n g') 0 true] := fun g g' => by simp [own_set]
    have hrow : ∀ g s, aload (H ++ [Blk.row 0 [.int .i64 (n : Int), q] 0 true, .row 0 (fcells n g) 0 true]) ⟨false, s⟩ (.ptr H.length 0 1) = some q := fun g s => by simp [aload, own_get0, Ab.part]
    have hu : ∀ x, upd (degF (l.take i)) a (degF (l.take i) a + 1) x ≤ 1001 := fun x => by unfold upd; have := hd x; have := hd a; split <;> omega
    rw [wp_round c47_l0.eq_1]
    simp [go_sem, hrow, hq.len, hlt, hq.ix hlt, hp, zc, ha, hb, loadF (hid _) ha, i64_suc (show degF (l.take i) a < 1000000 by have := hd a; omega)]
    have e1 : ((degF (l.take i) a : Nat) : Int) + 1 = ((degF (l.take i) a + 1 : Nat) : Int) := by omega
    rw [e1, storeF (hid _) ha (by omega) (by omega), hset]
    simp [go_sem, hrow, hq.ix hlt, hp, zc, ha, hb, loadF (hid _) hb, i64_suc (show upd (degF (l.take i)) a (degF (l.take i) a + 1) b < 1000000 by have := hu b; omega)]
    have e2 : ((upd (degF (l.take i)) a (degF (l.take i) a + 1) b : Nat) : Int) + 1 = ((upd (degF (l.take i)) a (degF (l.take i) a + 1) b + 1 : Nat) : Int) := by omega
    rw [e2, storeF (hid _) hb (by omega) (by omega), hset]
    simp [go_sem, i64_suc (show i < 1000000 by omega)]
    have e3 := degF_step (l := l.take i) (a := a) (b := b) (by omega)
    rw [← e3]
    have := ih (i + 1) (by omega) h
    rw [List.take_succ_eq_append_getElem hlt, hp] at this
    exact this

theorem k47 {n : Int} {q : AV} {l : List ZZ} (hq : isP q l) (hl : l.length < 1000) (hbar : bar ≤ H.length)
    (h1 : ∀ e, openS n l = .err e → Q (.tup [.nils, .int .i64 e]) H)
    (h2 : ∀ (m : Nat) (w : Nat → Nat), n = m → 1 ≤ m → m ≤ 8 → openS n l = .room w → ∀ v, isL v ((List.range m).map (degF l)) → Q (.tup [v, .int .i64 0]) H) :
    WpCall E pure base bar 47 [.agg [.int .i64 n, q]] H Q := by
  rw [call47]
  have hb' := bar_ok (pure := pure) hbar
  have e0 : H ++ [.row 0 [.int .i64 n, q] 0 true] = HI H n q := rfl
  simp [go_sem, WpFun, c47, hq.frz, e0, HI_h, HI_n, HI_len] at hb' ⊢
  generalize (if pure = true then H.length else bar) = bar' at hb' ⊢
  rw [k27 hq hl (by rw [HI_len]; omega)]
  cases ho : openS n l with
  | err e =>
    simp [go_sem, errOf, openS_err ho, HI]
    exact h1 e ho
  | room w =>
    have hr : within 1 8 n = true := by
      unfold openS at ho
      split at ho
      · assumption
      · cases ho
    have hr' := hr
    simp [within] at hr'
    obtain ⟨n, rfl⟩ := Int.eq_ofNat_of_zero_le (show 0 ≤ n by omega)
    have hf : openF n (fun _ => 0) l = .room w := by
      unfold openS at ho
      rw [if_pos hr] at ho
      exact ho
    have e2 : List.replicate n (AV.int .i64 0) = fcells n (degF ([] : List ZZ)) := by rw [← fcells_zero]; rfl
    simp [go_sem, errOf, HI_n, aop, AV.asNat, HI_len]
    rw [if_pos (show n * 8 ≤ 140737488355328 by omega), e2]
    have e3 : HI H (n : Int) q ++ [.row 0 (fcells n (degF ([] : List ZZ))) 0 true] = H ++ [.row 0 [.int .i64 (n : Int), q] 0 true, .row 0 (fcells n (degF (l.take 0))) 0 true] := by simp [HI]
    rw [e3]
    simp only [go_sem]
    simp [go_sem]
    refine l47 hq hl (openF_valid hf) hb' l.length 0 (by omega) ?_
    simp [go_sem]
    have f := frzF (d := 5) (bar := bar') (H := H ++ [.row 0 [.int .i64 (n : Int), q] 0 true, .row 0 (fcells n (degF l)) 0 true]) (id := H.length + 1) (ver := 0) (n := n) (fz := 0) (ex := true) (f := degF l) (by simp [own_get]) (by omega)
    rw [show 5 + 3 = 8 from rfl] at f
    simp only [f]
    simp [go_sem, own_set, isL.f.top]
    exact h2 n w rfl (by omega) (by omega) ho _ isL.f
end Go.Proofs.Ythoogegclpiefaa.Code
end

section
namespace Go.Proofs.Ythoogegclpiefaa.Code
open Go Go.Ab
variable {pure : Bool} {base bar : Nat} {H : Heap} {Q : AV → Heap → Prop}

theorem k14 {n : Int} {q : AV} {l : List ZZ} (hq : isP q l) : WpCall E pure base bar 14 [.agg [.int .i64 n, q]] H Q ↔ Q (.bool (decide (80 < l.length))) H := by
  rw [call14]
  simp [go_sem, WpFun, c14, hq.frz, aload, own_get0, Ab.part, hq.len]
  rw [show decide ((80 : Int) < (l.length : Nat)) = decide (80 < l.length) from decide_eq_decide.2 (by omega)]

theorem l22 {a b : AV} {x y : List Nat} (ha : isL a x) (hb : isL b y) (hx : x.length < 100000) (hxy : x.length = y.length) {R : PQ} : ∀ (k i : Nat), i + k = x.length →
    (x.drop i ≠ y.drop i → R .ret [(4, .bool false)] H) →
    (x.drop i = y.drop i → R (.exit 0) [(0, a), (1, b), (5, .int .i64 (x.length : Nat)), (14, .bool false)] H) →
    Wp E base bar (.loop c22_l0) [(0, a), (1, b), (5, .int .i64 (i : Nat))] H R := by
  intro k
  induction k with
  | zero =>
    intro i hi h1 h2
    obtain rfl : i = x.length := by omega
    rw [wp_round c22_l0.eq_1]
    simp [go_sem, ha.len]
    exact h2 (by rw [List.drop_length, hxy, List.drop_length])
  | succ k ih =>
    intro i hi h1 h2
    have hlt : i < x.length := by omega
    have hlt2 : i < y.length := by omega
    rw [wp_round c22_l0.eq_1]
    rw [List.drop_eq_getElem_cons hlt, List.drop_eq_getElem_cons hlt2, List.cons.injEq] at h2
    rw [List.drop_eq_getElem_cons hlt, List.drop_eq_getElem_cons hlt2, ne_eq, List.cons.injEq] at h1
    simp [go_sem, hlt, ha.len, ha.ix hlt, hb.ix hlt2]
    by_cases hc : x[i] = y[i]
    · simp only [hc, true_and] at h1 h2
      simp [go_sem, show ((x[i] : Nat) : Int) = (y[i] : Nat) by omega, i64_suc (show i < 1000000 by omega)]
      exact ih (i + 1) (by omega) h1 h2
    · simp [go_sem, show ¬ ((x[i] : Nat) : Int) = (y[i] : Nat) by omega]
      exact h1 (fun he => hc he.1)

theorem k22 {a b : AV} {x y : List Nat} (ha : isL a x) (hb : isL b y) (hx : x.length < 100000) (hy : y.length < 100000) (h : Q (.bool (decide (x = y))) H) : WpCall E pure base bar 22 [a, b] H Q := by
  rw [call22]
  simp [go_sem, WpFun, c22, ha.frz, hb.frz, ha.len, hb.len]
  by_cases hl : x.length = y.length
  · simp [go_sem, natEq, hl]
    refine l22 ha hb hx hl x.length 0 (by omega) ?_ ?_
    · intro he
      rw [show decide (x = y) = false by simpa using he] at h
      simp [go_sem]
      exact h
    · intro he
      rw [show decide (x = y) = true by simpa using he] at h
      simp [go_sem]
      exact h
  · rw [show decide (x = y) = false by simp; intro hc; exact hl (by rw [hc])] at h
    simp [go_sem, show ¬ ((x.length : Nat) : Int) = (y.length : Nat) by omega]
    exact h
end Go.Proofs.Ythoogegclpiefaa.Code
end

section
namespace Go.Proofs.Ythoogegclpiefaa.Code
open Go Go.Ab
variable {pure : Bool} {base bar : Nat} {H : Heap} {Q : AV → Heap → Prop}

def fromOf (b : List Nat) : Nat := match b.getLast? with
  | none => 0
  | some x => x + 1
/-- all brawls that begin with some people, of so many more -/
def brawlsR (l : List ZZ) (n : Nat) : Nat → List Nat → List (List Nat)
  | 0, b => [b]
  | k + 1, b => (List.range' (fromOf b) (n - fromOf b)).flatMap fun (x : Nat) => if (b.all fun (y : Nat) => qin l (y : Int) (x : Int)) = true then brawlsR l n k (b ++ [x]) else []

theorem flatMap_len {α : Type} {f : Nat → List α} {m : Nat} : ∀ (l : List Nat), (∀ x ∈ l, (f x).length ≤ m) → (l.flatMap f).length ≤ l.length * m
  | [], _ => by simp
  | x :: r, h => by
    have h1 := h x (List.mem_cons_self ..)
    have h2 := flatMap_len r fun y hy => h y (List.mem_cons_of_mem _ hy)
    simp only [List.flatMap_cons, List.length_append, List.length_cons, Nat.succ_mul]; omega
theorem brawlsR_len {l : List ZZ} {n : Nat} (hn : n ≤ 8) : ∀ (k : Nat) (b : List Nat), (brawlsR l n k b).length ≤ 8 ^ k
  | 0, b => by simp [brawlsR]
  | k + 1, b => by
    have := flatMap_len (m := 8 ^ k) (f := fun (x : Nat) => if (b.all fun (y : Nat) => qin l (y : Int) (x : Int)) = true then brawlsR l n k (b ++ [x]) else []) (List.range' (fromOf b) (n - fromOf b)) fun x _ => by
      split
      · exact brawlsR_len hn k _
      · simp
    simp only [List.length_range'] at this
    have h2 : (n - fromOf b) * 8 ^ k ≤ 8 * 8 ^ k := Nat.mul_le_mul_right _ (by omega)
    rw [Nat.pow_succ, Nat.mul_comm (8 ^ k) 8]
    exact Nat.le_trans this h2

/-- what a call found, and its own copy of the house, are as they were -/
def Pre (H : Heap) (n : Int) (q : AV) (Hc : Heap) : Prop := H.length + 1 ≤ Hc.length ∧ ∀ j, j < H.length + 1 → Hc[j]? = (HI H n q)[j]?
theorem Pre.refl {n : Int} {q : AV} : Pre H n q (HI H n q) := ⟨by rw [HI_len]; omega, fun _ _ => rfl⟩
theorem Pre.get {n : Int} {q : AV} {Hc : Heap} (h : Pre H n q Hc) : Hc[H.length]? = some (.row 0 [.int .i64 n, q] 0 true) := by
  rw [h.2 _ (by omega), HI_get]
theorem Pre.n {n : Int} {q : AV} {Hc : Heap} (h : Pre H n q Hc) {s : Nat} : aload Hc ⟨false, s⟩ (.ptr H.length 0 0) = some (.int .i64 n) := by rw [aload_ptr h.get]; rfl
theorem Pre.q {n : Int} {q : AV} {Hc : Heap} (h : Pre H n q Hc) {s : Nat} : aload Hc ⟨false, s⟩ (.ptr H.length 0 1) = some q := by rw [aload_ptr h.get]; rfl
theorem Pre.h {n : Int} {q : AV} {Hc : Heap} (h : Pre H n q Hc) : aload Hc ⟨true, 2⟩ (.ptr H.length 0 0) = some (.agg [.int .i64 n, q]) := by rw [aload_ptr h.get]; rfl
theorem Pre.take {n : Int} {q : AV} {Hc : Heap} (h : Pre H n q Hc) : Hc.take H.length = H := by
  apply List.ext_getElem?
  intro j
  rw [List.getElem?_take]
  by_cases hj : j < H.length
  · rw [if_pos hj, h.2 j (by omega)]
    simp [HI, List.getElem?_append_left hj]
  · rw [if_neg hj, List.getElem?_eq_none (by omega)]
theorem Pre.next {n : Int} {q : AV} {Hc Hd : Heap} (h : Pre H n q Hc) (hl : Hc.length ≤ Hd.length) (hs : ∀ j, j < H.length + 1 → Hd[j]? = Hc[j]?) : Pre H n q Hd :=
  ⟨by have := h.1; omega, fun j hj => (hs j hj).trans (h.2 j hj)⟩

theorem l85a {n : Int} {q : AV} {l : List ZZ} (hq : isP q l) (hl : l.length < 1000) {bv ov : AV} {b : List Nat} (hb : isL bv b) (hbl : b.length < 1000) {x : Nat} {m : Int} {Hc : Heap} (hp : Pre H n q Hc) {R : PQ} :
    ∀ (k i : Nat) (f : Bool), i + k = b.length →
    (R (.exit 2) [(1, bv), (2, .int .i64 m), (3, .ptr H.length 0 0), (8, ov), (9, .int .i64 (x : Nat)), (10, .bool (f && (b.drop i).all fun (y : Nat) => qin l (y : Int) (x : Int))), (11, .int .i64 (b.length : Nat)), (36, .bool false)] Hc) →
    Wp E base bar (.loop c85_l0) [(1, bv), (2, .int .i64 m), (3, .ptr H.length 0 0), (8, ov), (9, .int .i64 (x : Nat)), (10, .bool f), (11, .int .i64 (i : Nat))] Hc R := by
  intro k
  induction k with
  | zero =>
    intro i f hi h
    obtain rfl : i = b.length := by omega
    rw [wp_round c85_l0.eq_1]
    simp [go_sem, hb.len]
    rw [List.drop_length] at h
    simpa using h
  | succ k ih =>
    intro i f hi h
    have hlt : i < b.length := by omega
    rw [wp_round c85_l0.eq_1]
    rw [List.drop_eq_getElem_cons hlt, List.all_cons] at h
    cases f
    · simp [go_sem, hlt, hb.len, i64_suc (show i < 1000000 by omega)]
      refine ih (i + 1) false (by omega) ?_
      simpa using h
    · simp [go_sem, hlt, hb.len, hb.ix hlt, hp.q, k65 hq hl, i64_suc (show i < 1000000 by omega)]
      refine ih (i + 1) (qin l b[i] x) (by omega) ?_
      simpa using h

def Rec85 (n : Nat) (q : AV) (l : List ZZ) (k : Nat) : Prop := ∀ (b : List Nat) (bv : AV) (H : Heap) (pure : Bool) (base bar : Nat) (Q : AV → Heap → Prop), isL bv b → b.length + k ≤ 100 → (∀ y ∈ b, y < 100) → bar ≤ H.length →
  (∀ v, isLL v (brawlsR l n k b) → Q v H) → WpFun E pure base bar c85 [.agg [.int .i64 (n : Int), q], bv, .int .i64 (k : Int)] H Q

theorem l85 {n : Nat} {q : AV} {l : List ZZ} (hq : isP q l) (hl : l.length < 1000) (hn : n ≤ 8) {bv : AV} {b : List Nat} (hb : isL bv b) {k : Nat} (hk : k ≤ 8) (hbl : b.length + (k + 1) ≤ 100) (hby : ∀ y ∈ b, y < 100) (hrec : Rec85 n q l k) (hbar : bar ≤ H.length) {R : PQ} :
    ∀ (d x : Nat) (acc : List (List Nat)) (vs : List AV) (ov : AV) (Hc : Heap), x + d = max n x → x ≤ 200 → Pre H n q Hc → Own (H.length + 1) 1 vs ov Hc → allL vs acc → acc.length ≤ x * 8 ^ k →
    (∀ vs' ov' Hc' x', Pre H n q Hc' → Own (H.length + 1) 1 vs' ov' Hc' → allL vs' (acc ++ (List.range' x d).flatMap fun (x : Nat) => if (b.all fun (y : Nat) => qin l (y : Int) (x : Int)) = true then brawlsR l n k (b ++ [x]) else []) →
      R (.exit 0) [(1, bv), (2, .int .i64 ((k + 1 : Nat) : Int)), (3, .ptr H.length 0 0), (8, ov'), (9, .int .i64 (x' : Nat)), (30, .bool false)] Hc') →
    Wp E H.length bar (.loop c85_l1) [(1, bv), (2, .int .i64 ((k + 1 : Nat) : Int)), (3, .ptr H.length 0 0), (8, ov), (9, .int .i64 (x : Nat))] Hc R := by
  intro d
  induction d with
  | zero =>
    intro x acc vs ov Hc hx hx2 hp ho ha hal h
    rw [wp_round c85_l1.eq_1]
    have hnx : ¬ x < n := by omega
    simp [go_sem, hp.n, hnx]
    exact h vs ov Hc x hp ho (by simpa using ha)
  | succ d ih =>
    intro x acc vs ov Hc hx hx2 hp ho ha hal h
    have hxn : x < n := by omega
    have hp8 : 8 ^ k ≤ 8 ^ 8 := Nat.pow_le_pow_right (by decide) hk
    have hx8 : x * 8 ^ k ≤ 8 * 8 ^ 8 := Nat.mul_le_mul (by omega) hp8
    have hpl := hp.1
    rw [wp_round c85_l1.eq_1]
    simp only [List.range'_succ, List.flatMap_cons, ← List.append_assoc] at h
    simp [go_sem, hp.n, hxn]
    refine l85a hq hl hb (by omega) hp b.length 0 true (by omega) ?_
    simp only [List.drop_zero, Bool.true_and]
    cases hall : b.all fun (y : Nat) => qin l (y : Int) (x : Int)
    · simp only [hall, Bool.false_eq_true, if_false, List.append_nil] at h
      simp [go_sem, i64_suc (show x < 1000000 by omega)]
      exact ih (x + 1) acc vs ov Hc (by omega) (by omega) hp ho ha (Nat.le_trans hal (Nat.mul_le_mul_right _ (by omega))) h
    · simp only [hall, if_true] at h
      simp [go_sem, hp.h, aop, chunks, own_get]
      have wrapk : IntKind.i64.wrap (k : Int) = (k : Int) := i64_nat (by omega)
      refine app_lst0 hb (by omega) (fun hb0 => ?_) (fun hb0 => ?_)
      · simp [go_sem, aop, chunks]
        refine app_lst0 (b := [x]) (.inr ⟨true, rfl⟩) (by simp) (fun hc => by simp at hc) (fun _ => ?_)
        obtain ⟨v2, hv2e⟩ : ∃ v2, v2 = AV.vec Hc.length 0 0 [x].length 1 := ⟨_, rfl⟩
        obtain ⟨H2, hH2e⟩ : ∃ H2, H2 = Hc ++ [Blk.row 0 (nats [x]) 0 false] := ⟨_, rfl⟩
        rw [← hv2e, ← hH2e]
        have hid2 : ∀ j, idOf v2 = some j → Hc.length ≤ j := fun j hj => by rw [hv2e] at hj; simp [idOf] at hj; omega
        have hs2 : ∀ j, j < Hc.length → H2[j]? = Hc[j]? := fun j hj => by rw [hH2e, List.getElem?_append_left hj]
        have hl2 : Hc.length ≤ H2.length := by rw [hH2e]; simp
        have o2 : Own (H.length + 1) 1 (nats (b ++ [x])) v2 H2 := by
          rw [hv2e, hH2e, hb0]
          exact .inr ⟨Hc.length, 0, 0, by simp [nats], by omega, by simp, by simp [nats], by simp⟩
        clear hv2e hH2e
        obtain ⟨H3, f1, f2, f3, f4⟩ := o2.frz (d := 5) (bar := bar) (by decide) (Nat.one_dvd _) nats_plain (by omega)
        rw [show 5 + 3 = 8 from rfl] at f1
        have same3 : ∀ j, j < Hc.length → H3[j]? = Hc[j]? := fun j hj => by
          rw [f4 j (by intro hc; have := hid2 j hc; omega)]
          exact hs2 j hj
        have hp3 : Pre H n q H3 := hp.next (by omega) fun j hj => same3 j (by omega)
        have o3 : Own (H.length + 1) 1 vs ov H3 := ho.mono fun j hj => same3 j (ho.lt hj).2
        simp [go_sem, wrapk, call85, hq.frz, f1]
        refine hrec (b ++ [x]) _ H3 true _ bar _ isL.out (by simp; omega) (fun y hy => by
          rcases List.mem_append.1 hy with hy | hy
          · exact hby y hy
          · simp at hy; omega) (by omega) fun r hr => ?_
        have hrl := brawlsR_len (l := l) hn k (b ++ [x])
        simp [go_sem]
        rcases hr with ⟨rfl, he⟩ | ⟨ex, ws, rfl, hw⟩
        · refine o3.app_nil (by decide) (Nat.one_dvd _) (by rw [ha.length]; omega) ?_
          simp [go_sem, i64_suc (show x < 1000000 by omega)]
          rw [he] at h
          refine ih (x + 1) acc vs ov H3 (by omega) (by omega) hp3 o3 ha (Nat.le_trans hal (Nat.mul_le_mul_right _ (by omega))) ?_
          simpa using h
        · refine o3.app (by omega) (by decide) (Nat.one_dvd _) (by rw [hw.flat]; exact hw.plain) (by rw [hw.flat]; exact hw.noVecs) (Nat.one_dvd _) (by omega) (by omega) (by
            rw [hw.flat, List.length_append, ha.length, hw.length]
            have : 8 ^ 8 = 16777216 := by decide
            omega) fun v4 H4 tc4 o4 k4 => ?_
          rw [hw.flat] at o4
          have hp4 : Pre H n q H4 := hp3.next k4.len fun j hj => k4.same j (by omega) fun hc => by have := (o3.lt hc).1; omega
          simp [go_sem, i64_suc (show x < 1000000 by omega)]
          refine ih (x + 1) (acc ++ brawlsR l n k (b ++ [x])) (vs ++ ws) v4 H4 (by omega) (by omega) hp4 o4 (ha.append hw) (by
            rw [List.length_append, Nat.succ_mul]; omega) ?_
          exact h
      · simp [go_sem, aop, chunks]
        have o1 : Own (H.length + 1) 1 (nats b) (.vec Hc.length 0 0 b.length 1) (Hc ++ [.row 0 (nats b) 0 false]) :=
          .inr ⟨Hc.length, 0, 0, by simpa [nats_eq_nil] using hb0, by omega, by simp, by simp [nats_length], by simp⟩
        refine o1.app (xs := [.int .i64 (x : Int)]) (by simp; omega) (by decide) (Nat.one_dvd _) (fun c hc => by simp [AV.cells] at hc; subst hc; exact Plain.int) rfl (Nat.one_dvd _) (by omega) (by omega) (by simp [nats_length, AV.cells]; omega) fun v2 H2 tc2 o2 k2 => ?_
        have hid2 : ∀ j, idOf v2 = some j → Hc.length ≤ j := fun j hj => by
          rcases k2.id j hj with h1 | h1
          · simp [idOf] at h1; omega
          · simp at h1; omega
        have hl2 : Hc.length ≤ H2.length := by have := k2.len; simp at this; omega
        have hs2 : ∀ j, j < Hc.length → H2[j]? = Hc[j]? := fun j hj => by
          rw [k2.same j (by simp; omega) (by simp [idOf]; omega), List.getElem?_append_left hj]
        have hc2 : H.length ∉ tc2 := fun hc => by
          have := k2.tc _ hc
          simp [idOf] at this
          omega
        have o2 : Own (H.length + 1) 1 (nats (b ++ [x])) v2 H2 := by
          rw [nats_append, nats_one]
          simpa [AV.cells] using o2
        obtain ⟨H3, f1, f2, f3, f4⟩ := o2.frz (d := 5) (bar := bar) (by decide) (Nat.one_dvd _) nats_plain (by omega)
        rw [show 5 + 3 = 8 from rfl] at f1
        have same3 : ∀ j, j < Hc.length → H3[j]? = Hc[j]? := fun j hj => by
          rw [f4 j (by intro hc; have := hid2 j hc; omega)]
          exact hs2 j hj
        have hp3 : Pre H n q H3 := hp.next (by omega) fun j hj => same3 j (by omega)
        have o3 : Own (H.length + 1) 1 vs ov H3 := ho.mono fun j hj => same3 j (ho.lt hj).2
        simp [go_sem, wrapk, call85, hq.frz, f1]
        refine hrec (b ++ [x]) _ H3 true _ bar _ isL.out (by simp; omega) (fun y hy => by
          rcases List.mem_append.1 hy with hy | hy
          · exact hby y hy
          · simp at hy; omega) (by omega) fun r hr => ?_
        have hrl := brawlsR_len (l := l) hn k (b ++ [x])
        simp [go_sem]
        rcases hr with ⟨rfl, he⟩ | ⟨ex, ws, rfl, hw⟩
        · refine o3.app_nil (by decide) (Nat.one_dvd _) (by rw [ha.length]; omega) ?_
          simp [go_sem, hc2, i64_suc (show x < 1000000 by omega)]
          rw [he] at h
          refine ih (x + 1) acc vs ov H3 (by omega) (by omega) hp3 o3 ha (Nat.le_trans hal (Nat.mul_le_mul_right _ (by omega))) ?_
          simpa using h
        · refine o3.app (by omega) (by decide) (Nat.one_dvd _) (by rw [hw.flat]; exact hw.plain) (by rw [hw.flat]; exact hw.noVecs) (Nat.one_dvd _) (by omega) (by omega) (by
            rw [hw.flat, List.length_append, ha.length, hw.length]
            have : 8 ^ 8 = 16777216 := by decide
            omega) fun v4 H4 tc4 o4 k4 => ?_
          rw [hw.flat] at o4
          have hp4 : Pre H n q H4 := hp3.next k4.len fun j hj => k4.same j (by omega) fun hc => by have := (o3.lt hc).1; omega
          simp [go_sem, hc2, i64_suc (show x < 1000000 by omega)]
          refine ih (x + 1) (acc ++ brawlsR l n k (b ++ [x])) (vs ++ ws) v4 H4 (by omega) (by omega) hp4 o4 (ha.append hw) (by
            rw [List.length_append, Nat.succ_mul]; omega) ?_
          exact h
end Go.Proofs.Ythoogegclpiefaa.Code
end

section
namespace Go.Proofs.Ythoogegclpiefaa.Code
open Go Go.Ab
variable {pure : Bool} {base bar : Nat} {H : Heap} {Q : AV → Heap → Prop}

theorem fromOf_le {b : List Nat} (h : ∀ y ∈ b, y < 100) : fromOf b ≤ 100 := by
  unfold fromOf
  split
  · omega
  · rename_i x hx
    have := h x (List.mem_of_getLast? hx)
    omega
theorem fromOf_last {b : List Nat} (h : 0 < b.length) : fromOf b = b[b.length - 1] + 1 := by
  unfold fromOf
  rw [List.getLast?_eq_getElem?, List.getElem?_eq_getElem (by omega)]

theorem f85 {n : Nat} {q : AV} {l : List ZZ} (hq : isP q l) (hl : l.length < 1000) (hn : n ≤ 8) : ∀ k, k ≤ 8 → Rec85 n q l k
  | 0, _ => fun b bv H pure base bar Q hb hbl hby hbar h => by
    have e0 : H ++ [.row 0 [.int .i64 (n : Int), q] 0 true] = HI H n q := rfl
    have hll : isLL (.lst 1 true [bv]) [b] := .inr ⟨true, [bv], rfl, hb, trivial⟩
    simp [go_sem, WpFun, c85, e0, aop, hb.frz, hb.cells, chunks, hb.isTup, hb.top]
    rw [show (HI H (n : Int) q).take H.length = H by simp [HI]]
    exact h _ hll
  | k + 1, hk => fun b bv H pure base bar Q hb hbl hby hbar h => by
    have hb' := bar_ok (pure := pure) hbar
    have e0 : H ++ [.row 0 [.int .i64 (n : Int), q] 0 true] = HI H n q := rfl
    simp [go_sem, WpFun, c85, e0, hb.len] at hb' ⊢
    generalize (if pure = true then H.length else bar) = bar' at hb' ⊢
    have hfr := fromOf_le hby
    have fin : Wp E H.length bar' (.loop c85_l1) [(1, bv), (2, .int .i64 ((k + 1 : Nat) : Int)), (3, .ptr H.length 0 0), (8, .nils), (9, .int .i64 (fromOf b : Nat))] (HI H n q)
        (exitWp 0 (thenWp E H.length bar' (.seq (.reg [⟨some 63, .mv (.t 8), none, true, false, [], 0, 0⟩, ⟨some 6, .mv (.t 63), none, true, false, [], 0, 0⟩] [6]) .ret) (retWp 0 H.length bar' [.tmp 6] Q))) := by
      refine l85 hq hl hn hb (by omega) (by omega) hby (f85 hq hl hn k (by omega)) hb' (n - fromOf b) (fromOf b) [] [] .nils _ (by omega) (by omega) Pre.refl Own.nil trivial (by simp) ?_
      intro vs' ov' Hc' x' hp' ho' ha'
      obtain ⟨H3, f1, f2, f3, f4⟩ := ho'.frz (d := 5) (bar := bar') (by decide) (Nat.one_dvd _) ha'.plain (by omega)
      rw [show 5 + 3 = 8 from rfl] at f1
      have hll := isLL.out ha'
      simp [go_sem, f1, hll.top]
      have hp3 : Pre H n q H3 := hp'.next (by omega) fun j hj => f4 j (fun hc => by have := (ho'.lt hc).1; omega)
      rw [hp3.take]
      refine h _ ?_
      simpa [brawlsR] using hll
    by_cases hb0 : b = []
    · subst hb0
      have hne : ¬ ((k : Int) + 1 = 0) := by omega
      simp [go_sem, hne]
      exact fin
    · have hpos : 0 < b.length := List.length_pos_iff.2 hb0
      have hne : ¬ ((k : Int) + 1 = 0) := by omega
      have e1 : IntKind.i64.wrap ((b.length : Int) - 1) = ((b.length - 1 : Nat) : Int) := by
        rw [show (b.length : Int) - 1 = ((b.length - 1 : Nat) : Int) by omega, i64_nat (by omega)]
      have hlast := hby _ (List.getElem_mem (show b.length - 1 < b.length by omega))
      rw [fromOf_last hpos] at fin
      simp [go_sem, hne, hb0, hb.len, e1]
      rw [hb.ix (show b.length - 1 < b.length by omega)]
      simp [go_sem, i64_suc (show b[b.length - 1] < 1000000 by omega)]
      rw [if_pos hpos]
      exact fin

theorem k85 {n k : Nat} {q : AV} {l : List ZZ} (hq : isP q l) (hl : l.length < 1000) (hn : n ≤ 8) (hk : k ≤ 8) (hbar : bar ≤ H.length) (h : ∀ v, isLL v (brawlsR l n k []) → Q v H) :
    WpCall E pure base bar 85 [.agg [.int .i64 (n : Int), q], .nils, .int .i64 (k : Int)] H Q := by
  rw [call85]
  simp [go_sem, hq.frz]
  exact f85 hq hl hn k hk [] .nils H pure base bar Q .nil (by simp; omega) (by simp) hbar h

/-- the first largest brawl, as the reference has it -/
def largestR (l : List ZZ) (n : Nat) : Nat → List Nat
  | 0 => []
  | k + 1 => match brawlsR l n (k + 1) [] with
    | [] => largestR l n k
    | b :: _ => b

theorem isLL.ix0 {v : AV} {l : List Nat} {r : List (List Nat)} (h : isLL v (l :: r)) : ∃ u, isL u l ∧ ∀ (H : Heap) (k : IntKind) (K : AV → Heap → List Nat → Prop), ixaSWp 1 (some v) (some (.int k 0)) H K = K (.fp u) H [] := by
  rcases h with ⟨_, he⟩ | ⟨ex, vs, rfl, ha⟩
  · cases he
  · cases vs with
    | nil => exact ha.elim
    | cons u us =>
      refine ⟨u, ha.1, fun H k K => ?_⟩
      rw [ixaSWp_lst]
      simp [valWp_some]
theorem aload_fpL {v : AV} {l : List Nat} (h : isL v l) {s : Nat} : aload H ⟨false, s⟩ (.fp v) = some v := by
  rcases h with ⟨rfl, rfl⟩ | ⟨ex, rfl⟩ <;> rfl

theorem l78 {n : Nat} {q : AV} {l : List ZZ} (hq : isP q l) (hl : l.length < 1000) (hn : n ≤ 8) (hbar : bar ≤ H.length) {R : PQ} : ∀ k, k ≤ 8 →
    (∀ v, isL v (largestR l n k) → R .ret [(2, v)] (HI H n q)) →
    (largestR l n k = [] → R (.exit 0) [(1, .ptr H.length 0 0), (3, .int .i64 0), (8, .bool false)] (HI H n q)) →
    Wp E H.length bar (.loop c78_l0) [(1, .ptr H.length 0 0), (3, .int .i64 (k : Int))] (HI H n q) R
  | 0, _, h1, h2 => by
    rw [wp_round c78_l0.eq_1]
    simp [go_sem]
    exact h2 rfl
  | k + 1, hk, h1, h2 => by
    rw [wp_round c78_l0.eq_1]
    have hpos : (0 : Int) < (k : Int) + 1 := by omega
    simp [go_sem, hpos, HI_h]
    refine k85 (k := k + 1) hq hl hn hk (by rw [HI_len]; omega) fun v hv => ?_
    simp only [largestR] at h1 h2
    simp [go_sem, hv.len]
    generalize brawlsR l n (k + 1) [] = bs at hv h1 h2 ⊢
    cases bs with
    | nil =>
      have e : IntKind.i64.wrap ((k : Int) + 1 - 1) = (k : Int) := by rw [show (k : Int) + 1 - 1 = (k : Int) by omega]; exact i64_nat (by omega)
      have e' : IntKind.i64.wrap (k : Int) = (k : Int) := i64_nat (by omega)
      simp [go_sem, e, e']
      exact l78 hq hl hn hbar k (by omega) h1 h2
    | cons b r =>
      have hp2 : (0 : Int) < (r.length : Int) + 1 := by omega
      simp [go_sem, hp2]
      obtain ⟨u, hu, hix⟩ := isLL.ix0 hv
      rw [hix]
      simp [go_sem, aload_fpL hu]
      exact h1 u hu

theorem k78 {n : Nat} {q : AV} {l : List ZZ} (hq : isP q l) (hl : l.length < 1000) (hn : n ≤ 8) (hbar : bar ≤ H.length) (h : ∀ v, isL v (largestR l n n) → Q v H) :
    WpCall E pure base bar 78 [.agg [.int .i64 (n : Int), q]] H Q := by
  rw [call78]
  have hb' := bar_ok (pure := pure) hbar
  have e0 : H ++ [.row 0 [.int .i64 (n : Int), q] 0 true] = HI H n q := rfl
  simp [go_sem, WpFun, c78, hq.frz, e0, HI_n] at hb' ⊢
  refine l78 hq hl hn hb' n hn ?_ ?_
  · intro v hv
    simp [go_sem]
    refine leaveL hv ?_
    rw [show (HI H (n : Int) q).take H.length = H by simp [HI]]
    exact h v hv
  · intro he
    simp [go_sem]
    rw [show (HI H (n : Int) q).take H.length = H by simp [HI]]
    exact h _ (.inl ⟨rfl, he⟩)

theorem k48 {n : Int} {q : AV} {l : List ZZ} (hq : isP q l) (hl : l.length < 1000) (hbar : bar ≤ H.length)
    (h1 : ∀ e, openS n l = .err e → Q (.tup [.nils, .int .i64 e]) H)
    (h2 : ∀ (m : Nat) (w : Nat → Nat), n = m → 1 ≤ m → m ≤ 8 → openS n l = .room w → ∀ v, isL v (largestR l m m) → Q (.tup [v, .int .i64 0]) H) :
    WpCall E pure base bar 48 [.agg [.int .i64 n, q]] H Q := by
  rw [call48]
  have hb' := bar_ok (pure := pure) hbar
  have e0 : H ++ [.row 0 [.int .i64 n, q] 0 true] = HI H n q := rfl
  simp [go_sem, WpFun, c48, hq.frz, e0, HI_h] at hb' ⊢
  generalize (if pure = true then H.length else bar) = bar' at hb' ⊢
  rw [k27 hq hl (by rw [HI_len]; omega)]
  cases ho : openS n l with
  | err e =>
    simp [go_sem, errOf, openS_err ho, HI]
    exact h1 e ho
  | room w =>
    have hr : within 1 8 n = true := by
      unfold openS at ho
      split at ho
      · assumption
      · cases ho
    simp [within] at hr
    obtain ⟨n, rfl⟩ := Int.eq_ofNat_of_zero_le (show 0 ≤ n by omega)
    simp [go_sem, errOf, HI_h]
    refine k78 hq hl (by omega) (by rw [HI_len]; omega) fun v hv => ?_
    simp [go_sem, hv.frz, hv.top, HI]
    exact h2 n w rfl (by omega) (by omega) ho v hv

theorem k49 {n size : Int} {q : AV} {l : List ZZ} (hq : isP q l) (hl : l.length < 1000) (hbar : bar ≤ H.length)
    (h1 : ∀ e, openS n l = .err e → Q (.tup [.int .i64 0, .int .i64 e]) H)
    (h2 : ∀ (m : Nat) (w : Nat → Nat), n = m → 1 ≤ m → m ≤ 8 → openS n l = .room w → within 1 8 size = false → Q (.tup [.int .i64 0, .int .i64 1]) H)
    (h3 : ∀ (m : Nat) (w : Nat → Nat), n = m → 1 ≤ m → m ≤ 8 → openS n l = .room w → within 1 8 size = true → Q (.tup [.int .i64 ((brawlsR l m size.toNat []).length : Nat), .int .i64 0]) H) :
    WpCall E pure base bar 49 [.agg [.int .i64 n, q], .int .i64 size] H Q := by
  rw [call49]
  have hb' := bar_ok (pure := pure) hbar
  have e0 : H ++ [.row 0 [.int .i64 n, q] 0 true] = HI H n q := rfl
  simp [go_sem, WpFun, c49, hq.frz, e0, HI_h] at hb' ⊢
  generalize (if pure = true then H.length else bar) = bar' at hb' ⊢
  rw [k27 hq hl (by rw [HI_len]; omega)]
  cases ho : openS n l with
  | err e =>
    simp [go_sem, errOf, openS_err ho, HI]
    exact h1 e ho
  | room w =>
    have hr : within 1 8 n = true := by
      unfold openS at ho
      split at ho
      · assumption
      · cases ho
    simp [within] at hr
    obtain ⟨n, rfl⟩ := Int.eq_ofNat_of_zero_le (show 0 ≤ n by omega)
    cases hs : within 1 8 size
    · simp [go_sem, errOf, k72, hs, HI]
      exact h2 n w rfl (by omega) (by omega) ho hs
    · have hs' := hs
      simp [within] at hs'
      obtain ⟨s, rfl⟩ := Int.eq_ofNat_of_zero_le (show 0 ≤ size by omega)
      simp [go_sem, errOf, k72, hs, HI_h]
      refine k85 (k := s) hq hl (by omega) (by omega) (by rw [HI_len]; omega) fun v hv => ?_
      simp [go_sem, hv.len, HI]
      exact h3 n w rfl (by omega) (by omega) ho hs
end Go.Proofs.Ythoogegclpiefaa.Code
end

section
namespace Go.Proofs.Ythoogegclpiefaa.Code
open Go Go.Ab
variable {pure : Bool} {base bar : Nat} {H : Heap} {Q : AV → Heap → Prop}

/-- what the program and the reference must agree on -/
structure Agree (l : List ZZ) (m : Nat) (w : Nat → Nat) : Prop where
  often : oftenS m w = (List.range m).map (degF l)
  largest : largestS m w = largestR l m m
  count : ∀ s : Nat, 1 ≤ s → s ≤ 8 → countS m w s = (brawlsR l m s []).length

theorem law9 {n size : Int} {q : AV} {l : List ZZ} (hq : isP q l) (hp : ∀ (m : Nat) (w : Nat → Nat), n = m → 1 ≤ m → m ≤ 8 → openS n l = .room w → Agree l m w) :
    WpCall E false 0 0 9 [.agg [.int .i64 n, q], .int .i64 size] [] (fun v _ => v = .bool true) := by
  rw [call9]
  have e0 : aload [Blk.row 0 [AV.int IntKind.i64 n, q] 0 true] ⟨true, 2⟩ (.ptr 0 0 0) = some (.agg [.int .i64 n, q]) := rfl
  simp [go_sem, WpFun, c9, hq.frz, e0, k14 hq]
  by_cases hl : 80 < l.length
  · simp [go_sem, hl, call15]
  · simp [go_sem, hl, e0, storeWp, astore, hq.top]
    have hl2 : l.length < 1000 := by omega
    have e1 : aload [Blk.row 0 [AV.int IntKind.i64 n, q] 0 true, Blk.row 0 [AV.int IntKind.i64 n, q] 0 true] ⟨true, 2⟩ (.ptr 0 0 0) = some (.agg [.int .i64 n, q]) := rfl
    have e2 : aload [Blk.row 0 [AV.int IntKind.i64 n, q] 0 true, Blk.row 0 [AV.int IntKind.i64 n, q] 0 true] ⟨true, 2⟩ (.ptr 1 0 0) = some (.agg [.int .i64 n, q]) := rfl
    simp [go_sem, e1, e2]
    cases ho : openS n l with
    | err e =>
      refine k44 hq hl2 (by simp) (fun e' he => ?_) (fun m w _ _ _ _ he => by rw [ho] at he; cases he)
      rw [ho] at he; cases he
      simp [go_sem, e1, e2]
      refine k47 hq hl2 (by simp) (fun e' he => ?_) (fun m w _ _ _ he => by rw [ho] at he; cases he)
      rw [ho] at he; cases he
      simp [go_sem, e1, e2]
      refine k37 hq hl2 (by simp) (fun e' he => ?_) (fun m w _ _ _ _ he => by rw [ho] at he; cases he)
      rw [ho] at he; cases he
      simp [go_sem, e1, e2]
      refine k48 hq hl2 (by simp) (fun e' he => ?_) (fun m w _ _ _ he => by rw [ho] at he; cases he)
      rw [ho] at he; cases he
      simp [go_sem, e1, e2]
      refine k43 hq hl2 (by simp) (fun e' he => ?_) (fun m w _ _ _ _ he => by rw [ho] at he; cases he) (fun m w _ _ _ _ he => by rw [ho] at he; cases he)
      rw [ho] at he; cases he
      simp [go_sem, e1, e2]
      refine k49 hq hl2 (by simp) (fun e' he => ?_) (fun m w _ _ _ he => by rw [ho] at he; cases he) (fun m w _ _ _ he => by rw [ho] at he; cases he)
      rw [ho] at he; cases he
      simp [go_sem, e1, e2]
      refine k22 isL.nil isL.nil (by simp) (by simp) ?_
      simp [go_sem, e1, e2]
      refine k22 isL.nil isL.nil (by simp) (by simp) ?_
      simp [go_sem, e1, e2]
      refine k50 hq hl2 (by simp) ?_
      simp [go_sem, e1, e2, k27 hq hl2, ho, errOf, call15, hq.noVec]
    | room w0 =>
      refine k44 hq hl2 (by simp) (fun e' he => by rw [ho] at he; cases he) (fun m w hm h1 h8 _ he va hva => ?_)
      simp [go_sem, e1, e2]
      refine k47 hq hl2 (by simp) (fun e' he => by rw [ho] at he; cases he) (fun m' w' hm' _ _ he' vb hvb => ?_)
      simp [go_sem, e1, e2]
      refine k37 hq hl2 (by simp) (fun e' he => by rw [ho] at he; cases he) (fun m2 w2 hm2 _ _ _ he2 vc hvc => ?_)
      simp [go_sem, e1, e2]
      refine k48 hq hl2 (by simp) (fun e' he => by rw [ho] at he; cases he) (fun m3 w3 hm3 _ _ he3 vd hvd => ?_)
      simp [go_sem, e1, e2]
      rw [ho] at he he' he2 he3
      cases he; cases he'; cases he2; cases he3
      obtain rfl : m = m' := by omega
      obtain rfl : m = m2 := by omega
      obtain rfl : m = m3 := by omega
      have hag := hp _ _ hm h1 h8 ho
      have hlo : (oftenS m w0).length < 100000 := by rw [oftenS_len]; omega
      have hll : (largestS m w0).length < 100000 := by
        have : ∀ (l : List Nat) (b : List Nat), b.length ≤ 8 → (l.foldl (bestStep w0) b).length ≤ 8 := by
          intro l
          induction l with
          | nil => intro b hb; exact hb
          | cons x r ih => intro b hb; exact ih _ (bestStep_len hb)
        have := this (List.range' 1 (pw m - 1)) [] (by simp)
        unfold largestS; omega
      rw [← hag.often] at hvb
      rw [← hag.largest] at hvd
      have hend : ∀ (sa ea : Int) (R : PQ) (fr : Frame), True := fun _ _ _ _ => trivial
      cases hs : within 1 8 size
      · refine k43 hq hl2 (by simp) (fun e' he => by rw [ho] at he; cases he) (fun _ _ _ _ _ _ _ _ => ?_) (fun _ _ _ _ _ _ _ hs' => by rw [hs] at hs'; cases hs')
        simp [go_sem, e1, e2]
        refine k49 hq hl2 (by simp) (fun e' he => by rw [ho] at he; cases he) (fun _ _ _ _ _ _ _ => ?_) (fun _ _ _ _ _ _ hs' => by rw [hs] at hs'; cases hs')
        simp [go_sem, e1, e2]
        refine k22 hva hvb hlo hlo ?_
        simp [go_sem, e1, e2, hva.noVec, hvb.noVec]
        refine k22 hvc hvd hll hll ?_
        simp [go_sem, e1, e2]
        refine k50 hq hl2 (by simp) ?_
        simp [go_sem, e1, e2, k27 hq hl2, ho, errOf, call15, hq.noVec]
      · have hs' := hs
        simp [within] at hs'
        obtain ⟨s, rfl⟩ := Int.eq_ofNat_of_zero_le (show 0 ≤ size by omega)
        have hc := hag.count s (by omega) (by omega)
        refine k43 hq hl2 (by simp) (fun e' he => by rw [ho] at he; cases he) (fun _ _ _ _ _ _ _ hs' => by rw [hs] at hs'; cases hs') (fun m4 w4 hm4 _ _ _ he4 _ => ?_)
        rw [ho] at he4
        cases he4
        obtain rfl : m = m4 := by omega
        simp [go_sem, e1, e2]
        refine k49 hq hl2 (by simp) (fun e' he => by rw [ho] at he; cases he) (fun _ _ _ _ _ _ hs' => by rw [hs] at hs'; cases hs') (fun m5 w5 hm5 _ _ he5 _ => ?_)
        obtain rfl : m = m5 := by omega
        rw [Int.toNat_natCast, ← hc]
        simp [go_sem, e1, e2]
        refine k22 hva hvb hlo hlo ?_
        simp [go_sem, e1, e2, hva.noVec, hvb.noVec]
        refine k22 hvc hvd hll hll ?_
        simp [go_sem, e1, e2]
        refine k50 hq hl2 (by simp) ?_
        simp [go_sem, e1, e2, k27 hq hl2, ho, errOf, call15, hq.noVec]
end Go.Proofs.Ythoogegclpiefaa.Code
end

section
namespace Go.Proofs.Ythoogegclpiefaa.Code
open Go Go.Ab

theorem bits_bor : ∀ s, s < 256 → ∀ b, b < 8 → s.testBit b = false → (bitsOf (bor s (pw b))).length = (bitsOf s).length + 1 := by decide +kernel
theorem qin_sym {l : List ZZ} {a b : Int} : qin l a b = qin l b a := by
  unfold qin
  congr 1
  funext p
  exact Bool.or_comm ..

theorem openF_often {n : Nat} (hn : n ≤ 8) : ∀ (l done : List ZZ) (w w' : Nat → Nat), (∀ x, w x < 256) → Tells w done → (∀ x, x < 8 → (bitsOf (w x)).length = degF done x) → openF n w l = .room w' →
    (∀ x, w' x < 256) ∧ Tells w' (done ++ l) ∧ ∀ x, x < 8 → (bitsOf (w' x)).length = degF (done ++ l) x
  | [], done, w, w', hw, ht, hd, h => by
    simp only [openF, Opened.room.injEq] at h
    subst h
    simpa using ⟨hw, ht, hd⟩
  | (a, b) :: r, done, w, w', hw, ht, hd, h => by
    simp only [openF] at h
    split at h
    · cases h
    rename_i h1
    split at h
    · cases h
    rename_i h2
    split at h
    · cases h
    rename_i h3
    obtain ⟨a, rfl⟩ := Int.eq_ofNat_of_zero_le (show 0 ≤ a by omega)
    obtain ⟨b, rfl⟩ := Int.eq_ofNat_of_zero_le (show 0 ≤ b by omega)
    simp only [Int.toNat_natCast, Bool.not_eq_true] at h3 h
    have ha : a < 8 := by omega
    have hb : b < 8 := by omega
    have hab : a ≠ b := by omega
    have h4 : (w b).testBit a = false := by
      rw [ht b a hb ha, qin_sym, ← ht a b ha hb]; exact h3
    have := openF_often hn r (done ++ [((a : Int), (b : Int))]) (joinW w a b) w' (joinW_lt hw ha hb) (ht.step hab) (fun x hx => ?_) h
    · simpa using this
    · rw [degF_step hab]
      unfold joinW
      unfold upd
      by_cases hxb : x = b
      · subst hxb
        simp only [if_true, Ne.symm hab, if_false]
        rw [bits_bor _ (hw x) _ ha h4, hd x hx]
      · by_cases hxa : x = a
        · subst hxa
          simp only [if_true, hab, if_false]
          rw [bits_bor _ (hw x) _ hb h3, hd x hx]
        · simp only [hxa, hxb, if_false]
          exact hd x hx
theorem openS_facts {n : Int} {m : Nat} {l : List ZZ} {w : Nat → Nat} (hm : n = m) (h : openS n l = .room w) : m ≤ 8 ∧ 1 ≤ m ∧ (∀ x, w x < 256) ∧ Tells w l ∧ (∀ x, x < 8 → (bitsOf (w x)).length = degF l x) ∧ openF m (fun _ => 0) l = .room w := by
  subst hm
  unfold openS at h
  split at h
  · rename_i hr
    simp [within] at hr
    have := openF_often (n := m) (by omega) l [] (fun _ => 0) w (fun _ => by decide) (fun x y _ _ => by simp [qin]) (fun x _ => by simp [degF, bitsOf]) h
    rw [List.nil_append] at this
    exact ⟨by omega, by omega, this.1, this.2.1, this.2.2, h⟩
  · cases h

theorem agree_often {n : Int} {m : Nat} {l : List ZZ} {w : Nat → Nat} (hm : n = m) (h : openS n l = .room w) : oftenS m w = (List.range m).map (degF l) := by
  obtain ⟨h1, h2, h3, h4, h5, h6⟩ := openS_facts hm h
  unfold oftenS
  apply List.map_congr_left
  intro a ha
  exact h5 a (by have := List.mem_range.1 ha; omega)
end Go.Proofs.Ythoogegclpiefaa.Code
end

section
namespace Go.Proofs.Ythoogegclpiefaa.Code
open Go Go.Ab

/-- the increasing lists of so many numbers from a first one on, below n -/
def subs (n : Nat) : Nat → Nat → List (List Nat)
  | 0, _ => [[]]
  | k + 1, o => (List.range' o (n - o)).flatMap fun x => (subs n k (x + 1)).map (x :: ·)
/-- those who come quarrel with all that are there -/
def ok (l : List ZZ) : List Nat → List Nat → Bool
  | _, [] => true
  | b, x :: s => (b.all fun (y : Nat) => qin l (y : Int) (x : Int)) && ok l (b ++ [x]) s

theorem fromOf_snoc {b : List Nat} {x : Nat} : fromOf (b ++ [x]) = x + 1 := by simp [fromOf]

theorem brawlsR_subs {l : List ZZ} {n : Nat} : ∀ (k : Nat) (b : List Nat), brawlsR l n k b = ((subs n k (fromOf b)).filter (ok l b)).map (b ++ ·)
  | 0, b => by
    have : ([[]] : List (List Nat)).filter (ok l b) = [[]] := by rw [List.filter_cons, if_pos (show ok l b [] = true by unfold ok; rfl)]; rfl
    simp [brawlsR, subs, this]
  | k + 1, b => by
    simp only [brawlsR, subs]
    generalize List.range' (fromOf b) (n - fromOf b) = xs
    induction xs with
    | nil => rfl
    | cons x r ih =>
      simp only [List.flatMap_cons, List.filter_append, List.map_append]
      rw [ih]
      congr 1
      rw [brawlsR_subs k (b ++ [x]), fromOf_snoc, List.filter_map]
      have e : (ok l b ∘ fun s => x :: s) = fun s => (b.all fun (y : Nat) => qin l (y : Int) (x : Int)) && ok l (b ++ [x]) s := rfl
      rw [e]
      cases b.all fun (y : Nat) => qin l (y : Int) (x : Int)
      · simp
      · simp

/-- each two of a list quarrel -/
theorem ok_iff {l : List ZZ} : ∀ (s b : List Nat), ok l b s = true ↔ (∀ x ∈ s, ∀ y ∈ b, qin l (y : Int) (x : Int) = true) ∧ s.Pairwise fun (x y : Nat) => qin l (x : Int) (y : Int) = true
  | [], b => by simp [ok]
  | x :: s, b => by
    simp only [ok, Bool.and_eq_true, List.all_eq_true, ok_iff s (b ++ [x]), List.pairwise_cons, List.mem_cons, List.mem_append, List.not_mem_nil, or_false]
    constructor
    · rintro ⟨h1, h2, h3⟩
      refine ⟨?_, fun y hy => h2 y hy x (.inr rfl), h3⟩
      rintro y (rfl | hy) z hz
      · exact h1 z hz
      · exact h2 y hy z (.inl hz)
    · rintro ⟨h1, h2, h3⟩
      refine ⟨fun y hy => h1 x (.inl rfl) y hy, ?_, h3⟩
      rintro y hy z (hz | rfl)
      · exact h1 y (.inr hy) z hz
      · exact h2 y hy

theorem bits_mem {s x : Nat} : x ∈ bitsOf s ↔ x < 8 ∧ s.testBit x = true := by simp [bitsOf]
theorem bits_pairwise (s : Nat) : (bitsOf s).Pairwise (· < ·) := by
  unfold bitsOf
  exact List.Pairwise.filter _ (by decide)

theorem brawlS_iff {w : Nat → Nat} {l : List ZZ} (ht : Tells w l) (hself : ∀ x, x < 8 → (w x).testBit x = false) {s : Nat} (hs : s < 256) :
    brawlS w s = true ↔ ok l [] (bitsOf s) = true := by
  rw [ok_iff]
  simp only [List.not_mem_nil, false_implies, implies_true, true_and]
  unfold brawlS
  simp only [List.all_eq_true, beq_iff_eq]
  have bit : ∀ x, x ∈ bitsOf s → ((clr s (w x) = pw x) ↔ ∀ y ∈ bitsOf s, y ≠ x → (w x).testBit y = true) := fun x hx => by
    obtain ⟨hx8, hxs⟩ := bits_mem.1 hx
    constructor
    · intro h y hy hne
      obtain ⟨hy8, hys⟩ := bits_mem.1 hy
      have h1 : (clr s (w x)).testBit y = (pw x).testBit y := by rw [h]
      rw [testBit_clr hs, testBit_pw, hys] at h1
      have : decide (x = y) = false := by simpa using fun hc => hne hc.symm
      rw [this] at h1
      simpa using h1
    · intro h
      apply Nat.eq_of_testBit_eq
      intro y
      rw [testBit_clr hs, testBit_pw]
      by_cases hxy : x = y
      · subst hxy; simp [hxs, hself x hx8]
      · by_cases hys : s.testBit y = true
        · have hy8 : y < 8 := by
            apply Decidable.byContradiction
            intro hc
            rw [Nat.testBit_lt_two_pow (Nat.lt_of_lt_of_le hs (Nat.pow_le_pow_right (by decide) (Nat.not_lt.1 hc) : 2 ^ 8 ≤ 2 ^ y))] at hys
            cases hys
          simp [hys, hxy, h y (bits_mem.2 ⟨hy8, hys⟩) (Ne.symm hxy)]
        · simp [hys, hxy]
  constructor
  · intro h
    refine List.Pairwise.imp_of_mem (fun {x y} hx hy hxy => ?_) (bits_pairwise s)
    have := (bit x hx).1 (h x hx) y hy (by omega)
    rwa [ht x y (bits_mem.1 hx).1 (bits_mem.1 hy).1] at this
  · intro h x hx
    refine (bit x hx).2 fun y hy hne => ?_
    rw [ht x y (bits_mem.1 hx).1 (bits_mem.1 hy).1]
    have := List.pairwise_iff_getElem.1 h
    obtain ⟨i, hi, rfl⟩ := List.mem_iff_getElem.1 hx
    obtain ⟨j, hj, rfl⟩ := List.mem_iff_getElem.1 hy
    rcases Nat.lt_trichotomy i j with hij | hij | hij
    · exact this i j hi hj hij
    · subst hij; exact absurd rfl hne
    · rw [qin_sym]; exact this j i hj hi hij

theorem perm_subs : ∀ m, m ≤ 8 → ∀ k, k ≤ 8 → 1 ≤ k → (((List.range' 1 (pw m - 1)).filter fun s => (bitsOf s).length == k).map bitsOf).isPerm (subs m k 0) = true := by decide +kernel

theorem no_self {l : List ZZ} {n : Nat} {w w0 : Nat → Nat} (h : openF n w0 l = .room w) {x : Nat} : qin l (x : Int) (x : Int) = false := by
  cases hq : qin l (x : Int) (x : Int)
  · rfl
  · simp only [qin, List.any_eq_true, Bool.or_eq_true, Bool.and_eq_true, beq_iff_eq] at hq
    obtain ⟨p, hp, hq⟩ := hq
    have := openF_valid h p hp
    omega

theorem agree_count {n : Int} {m : Nat} {l : List ZZ} {w : Nat → Nat} (hm : n = m) (h : openS n l = .room w) (k : Nat) (hk1 : 1 ≤ k) (hk : k ≤ 8) : countS m w k = (brawlsR l m k []).length := by
  obtain ⟨h1, h2, h3, h4, h5, h6⟩ := openS_facts hm h
  have hself : ∀ x, x < 8 → (w x).testBit x = false := fun x hx => by rw [h4 x x hx hx]; exact no_self h6
  have hperm := List.isPerm_iff.1 (perm_subs m h1 k hk hk1)
  rw [brawlsR_subs, List.length_map, show fromOf [] = 0 from rfl]
  have hp2 := (hperm.filter (ok l [])).length_eq
  rw [← hp2, List.filter_map, List.length_map, List.filter_filter]
  unfold countS
  congr 1
  apply List.filter_congr
  intro s hs
  have hs8 : s < 256 := by
    have := List.mem_range'_1.1 hs
    have := pw_le h1
    omega
  have e : brawlS w s = ok l [] (bitsOf s) := by
    have := brawlS_iff h4 hself hs8
    cases hb : brawlS w s <;> cases ho : ok l [] (bitsOf s) <;> simp_all
  rw [e]
  simp only [Function.comp]
  rw [Bool.and_comm]
  congr 1
  show decide _ = decide ((bitsOf s).length = k)
  exact decide_eq_decide.2 (by omega)
end Go.Proofs.Ythoogegclpiefaa.Code
end

section
namespace Go.Proofs.Ythoogegclpiefaa.Code
open Go Go.Ab

theorem cmp3_zero {a b : Nat} : cmp3 a b = 0 ↔ a = b := by
  unfold cmp3; split
  · omega
  · split <;> omega
theorem cmp3_neg {a b : Nat} : cmp3 a b < 0 ↔ a < b := by
  unfold cmp3; split
  · omega
  · split <;> omega
theorem cmpL_trans : ∀ {x y z : List Nat}, cmpL x y < 0 → cmpL y z < 0 → cmpL x z < 0
  | [], [], _, h, _ => by simp [cmpL] at h
  | [], _ :: _, [], _, h => by simp [cmpL] at h
  | [], _ :: _, _ :: _, _, _ => by simp [cmpL]
  | _ :: _, [], _, h, _ => by simp [cmpL] at h
  | _ :: _, _ :: _, [], _, h => by simp [cmpL] at h
  | a :: x, b :: y, c :: z, h, k => by
    simp only [cmpL] at h k ⊢
    split at h
    · rename_i h1
      have := cmp3_zero.1 h1
      subst this
      split at k
      · rename_i h2
        rw [if_pos h2]; exact cmpL_trans h k
      · rename_i h2
        rw [if_neg h2]; exact k
    · have hab := cmp3_neg.1 h
      split at k
      · rename_i h2
        have := cmp3_zero.1 h2
        subst this
        rw [if_neg (by rw [cmp3_zero]; omega)]; exact h
      · have hbc := cmp3_neg.1 k
        rw [if_neg (by rw [cmp3_zero]; omega)]
        exact cmp3_neg.2 (by omega)

/-- a list is better than another one: longer, or as long and smaller -/
def better (x y : List Nat) : Prop := y.length < x.length ∨ x.length = y.length ∧ cmpL x y < 0
theorem better.trans {x y z : List Nat} (h : better x y) (k : better y z) : better x z := by
  rcases h with h | ⟨h1, h2⟩ <;> rcases k with k | ⟨k1, k2⟩
  · exact .inl (by omega)
  · exact .inl (by omega)
  · exact .inl (by omega)
  · exact .inr ⟨by omega, cmpL_trans h2 k2⟩

theorem bestStep_eq {w : Nat → Nat} {b : List Nat} {s : Nat} : (brawlS w s = true ∧ better (bitsOf s) b ∧ bestStep w b s = bitsOf s) ∨ (¬ (brawlS w s = true ∧ better (bitsOf s) b) ∧ bestStep w b s = b) := by
  unfold bestStep better
  split
  · rename_i h
    refine .inl ⟨h.2.1, ?_, rfl⟩
    rcases h.2.2 with h3 | h3
    · exact .inl h3
    · by_cases h4 : b.length < (bitsOf s).length
      · exact .inl h4
      · exact .inr ⟨by omega, h3⟩
  · rename_i h
    refine .inr ⟨fun hc => h ⟨?_, hc.1, ?_⟩, rfl⟩
    · rcases hc.2 with h3 | ⟨h3, _⟩ <;> omega
    · rcases hc.2 with h3 | ⟨_, h3⟩
      · exact .inl h3
      · exact .inr h3

theorem fold_best {w : Nat → Nat} : ∀ (M : List Nat) (b : List Nat), (M.foldl (bestStep w) b = b ∨ ∃ s ∈ M, brawlS w s = true ∧ M.foldl (bestStep w) b = bitsOf s) ∧
    (∀ s ∈ M, brawlS w s = true → ¬ better (bitsOf s) (M.foldl (bestStep w) b)) ∧ (M.foldl (bestStep w) b = b ∨ better (M.foldl (bestStep w) b) b)
  | [], b => ⟨.inl rfl, fun s hs => by simp at hs, .inl rfl⟩
  | s :: M, b => by
    obtain ⟨h1, h2, h3⟩ := fold_best M (bestStep w b s)
    simp only [List.foldl_cons]
    rcases bestStep_eq (w := w) (b := b) (s := s) with ⟨g1, g2, g3⟩ | ⟨g1, g2⟩
    · rw [g3] at h1 h2 h3 ⊢
      refine ⟨?_, fun t ht hb hc => ?_, ?_⟩
      · rcases h1 with h1 | ⟨t, ht, hb, he⟩
        · exact .inr ⟨s, List.mem_cons_self .., g1, h1⟩
        · exact .inr ⟨t, List.mem_cons_of_mem _ ht, hb, he⟩
      · rcases List.mem_cons.1 ht with rfl | ht
        · rcases h3 with h3 | h3
          · rw [h3] at hc
            rcases hc with hc | ⟨_, hc⟩
            · omega
            · have : ∀ x, cmpL x x = 0 := fun x => by
                induction x with
                | nil => rfl
                | cons a r ih => simp only [cmpL]; rw [if_pos (cmp3_zero.2 rfl)]; exact ih
              rw [this] at hc; omega
          · have := hc.trans h3
            rcases this with hc | ⟨_, hc⟩
            · omega
            · have : ∀ x, cmpL x x = 0 := fun x => by
                induction x with
                | nil => rfl
                | cons a r ih => simp only [cmpL]; rw [if_pos (cmp3_zero.2 rfl)]; exact ih
              rw [this] at hc; omega
        · exact h2 t ht hb hc
      · rcases h3 with h3 | h3
        · rw [h3]; exact .inr g2
        · exact .inr (h3.trans g2)
    · rw [g2] at h1 h2 h3 ⊢
      refine ⟨?_, fun t ht hb hc => ?_, h3⟩
      · rcases h1 with h1 | ⟨t, ht, hb, he⟩
        · exact .inl h1
        · exact .inr ⟨t, List.mem_cons_of_mem _ ht, hb, he⟩
      · rcases List.mem_cons.1 ht with rfl | ht
        · rcases h3 with h3 | h3
          · rw [h3] at hc; exact g1 ⟨hb, hc⟩
          · exact g1 ⟨hb, hc.trans h3⟩
        · exact h2 t ht hb hc

theorem subs_sorted : ∀ m, m ≤ 8 → ∀ k, k ≤ 8 → (subs m k 0).Pairwise (fun x y => cmpL x y < 0) := by decide +kernel
theorem subs_len : ∀ m, m ≤ 8 → ∀ k, k ≤ 8 → ∀ x ∈ subs m k 0, x.length = k := by decide +kernel

theorem largestR_spec {l : List ZZ} {n : Nat} : ∀ (m : Nat), (largestR l n m = [] ∧ ∀ k, 1 ≤ k → k ≤ m → brawlsR l n k [] = []) ∨
    ∃ k r, 1 ≤ k ∧ k ≤ m ∧ brawlsR l n k [] = largestR l n m :: r ∧ ∀ j, k < j → j ≤ m → brawlsR l n j [] = []
  | 0 => .inl ⟨rfl, fun k h1 h2 => by omega⟩
  | m + 1 => by
    simp only [largestR]
    split
    · rename_i he
      rcases largestR_spec (l := l) (n := n) m with ⟨h1, h2⟩ | ⟨k, r, h1, h2, h3, h4⟩
      · refine .inl ⟨h1, fun k hk1 hk2 => ?_⟩
        by_cases hk : k = m + 1
        · subst hk; exact he
        · exact h2 k hk1 (by omega)
      · refine .inr ⟨k, r, h1, by omega, h3, fun j hj1 hj2 => ?_⟩
        by_cases hj : j = m + 1
        · subst hj; exact he
        · exact h4 j hj1 (by omega)
    · rename_i b r he
      exact .inr ⟨m + 1, r, by omega, by omega, he, fun j hj1 hj2 => by omega⟩

theorem agree_largest {n : Int} {m : Nat} {l : List ZZ} {w : Nat → Nat} (hm : n = m) (h : openS n l = .room w) : largestS m w = largestR l m m := by
  obtain ⟨h1, h2, h3, h4, h5, h6⟩ := openS_facts hm h
  have hself : ∀ x, x < 8 → (w x).testBit x = false := fun x hx => by rw [h4 x x hx hx]; exact no_self h6
  have hp8 := pw_le h1
  have lists : ∀ k, brawlsR l m k [] = (subs m k 0).filter (ok l []) := fun k => by rw [brawlsR_subs]; simp [fromOf]
  obtain ⟨f1, f2, _⟩ := fold_best (w := w) (List.range' 1 (pw m - 1)) []
  have hL : largestS m w = (List.range' 1 (pw m - 1)).foldl (bestStep w) [] := rfl
  rw [← hL] at f1 f2
  -- a brawl of the program is one of the reference, and the other way round
  have to : ∀ s ∈ List.range' 1 (pw m - 1), brawlS w s = true → 1 ≤ (bitsOf s).length → (bitsOf s).length ≤ 8 → bitsOf s ∈ brawlsR l m (bitsOf s).length [] := fun s hs hb k1 k8 => by
    rw [lists, List.mem_filter]
    have hs8 : s < 256 := by have := List.mem_range'_1.1 hs; omega
    refine ⟨?_, (brawlS_iff h4 hself hs8).1 hb⟩
    have hperm := List.isPerm_iff.1 (perm_subs m h1 _ k8 k1)
    refine hperm.mem_iff.1 (List.mem_map.2 ⟨s, List.mem_filter.2 ⟨hs, by simp⟩, rfl⟩)
  have fro : ∀ k, 1 ≤ k → k ≤ 8 → ∀ b ∈ brawlsR l m k [], ∃ s ∈ List.range' 1 (pw m - 1), brawlS w s = true ∧ bitsOf s = b ∧ b.length = k := fun k k1 k8 b hb => by
    rw [lists, List.mem_filter] at hb
    have hperm := List.isPerm_iff.1 (perm_subs m h1 k k8 k1)
    obtain ⟨s, hs, rfl⟩ := List.mem_map.1 (hperm.mem_iff.2 hb.1)
    obtain ⟨hs1, hs2⟩ := List.mem_filter.1 hs
    have hs8 : s < 256 := by have := List.mem_range'_1.1 hs1; omega
    exact ⟨s, hs1, (brawlS_iff h4 hself hs8).2 hb.2, rfl, by simpa using hs2⟩
  have one : ∀ s ∈ List.range' 1 (pw m - 1), 1 ≤ (bitsOf s).length ∧ (bitsOf s).length ≤ m := by
    have : ∀ m, m ≤ 8 → ∀ s ∈ List.range' 1 (pw m - 1), 1 ≤ (bitsOf s).length ∧ (bitsOf s).length ≤ m := by decide +kernel
    exact this m h1
  rcases largestR_spec (l := l) (n := m) m with ⟨g1, g2⟩ | ⟨k, r, g1, g2, g3, g4⟩
  · rw [g1]
    rcases f1 with f1 | ⟨s, hs, hb, he⟩
    · exact f1
    · obtain ⟨o1, o2⟩ := one s hs
      have := to s hs hb o1 (by omega)
      rw [g2 _ o1 o2] at this
      simp at this
  · have hmem : largestR l m m ∈ brawlsR l m k [] := by rw [g3]; exact List.mem_cons_self ..
    obtain ⟨s, hs, hb, he, hlen⟩ := fro k g1 (by omega) _ hmem
    have nb := f2 s hs hb
    rw [he] at nb
    rcases f1 with f1 | ⟨t, ht, hbt, het⟩
    · rw [f1] at nb
      exact absurd (.inl (by simp; omega)) nb
    · obtain ⟨o1, o2⟩ := one t ht
      have hin := to t ht hbt o1 (by omega)
      rw [← het] at o1 o2 hin
      have hle : (largestS m w).length ≤ k := by
        apply Decidable.byContradiction
        intro hc
        rw [g4 _ (by omega) o2] at hin
        simp at hin
      have heq : (largestS m w).length = k := by
        apply Decidable.byContradiction
        intro hc
        exact nb (.inl (by omega))
      rw [heq, g3] at hin
      rcases List.mem_cons.1 hin with hin | hin
      · exact hin
      · exfalso
        have sorted : (brawlsR l m k []).Pairwise fun x y => cmpL x y < 0 := by rw [lists]; exact (subs_sorted m h1 k (by omega)).filter _
        rw [g3] at sorted
        have := (List.pairwise_cons.1 sorted).1 _ hin
        exact nb (.inr ⟨by omega, this⟩)

theorem agree {n : Int} {m : Nat} {l : List ZZ} {w : Nat → Nat} (hm : n = m) (h : openS n l = .room w) : Agree l m w :=
  ⟨agree_often hm h, agree_largest hm h, fun s h1 h8 => agree_count hm h s h1 h8⟩

/-- THE LAW, WALKED -/
theorem brawls_true {n size : Int} {q : AV} {l : List ZZ} (hq : isP q l) : ∃ f H', acall E f 9 [.agg [.int .i64 n, q], .int .i64 size] [] = some (.bool true, H') := by
  obtain ⟨f, v, H', h1, rfl⟩ := law9 (size := size) hq fun m w hm _ _ ho => agree hm ho
  exact ⟨f, H', h1⟩
end Go.Proofs.Ythoogegclpiefaa.Code
end
