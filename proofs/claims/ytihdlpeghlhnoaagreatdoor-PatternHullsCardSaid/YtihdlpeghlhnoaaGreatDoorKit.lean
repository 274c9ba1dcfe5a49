/-
  Rules: lists under construction, pairs, arguments.
-/
import Derived.Test.YtihdlpeghlhnoaaGreatDoorAbWs
import Derived.IntWalk
import Derived.Test.YtihdlpeghlhnoaaGreatDoorAbTop
import Derived.ChangeArms
import Derived.Deep.Slices
import Derived.Carry
import Derived.OpenShut
set_option linter.all false
section
namespace Go.Ab
variable {env : Env} {base bar : Nat} {fr : Frame} {H : Heap} {pure : Bool} {K : AV → Heap → List Nat → Prop}

/-- append, of operands that are known -/
def appWp (base bar sz bytes : Nat) (x y : Option AV) (H : Heap) (K : AV → Heap → List Nat → Prop) : Prop :=
  match x with
  | none => False
  | some x => match y with
    | none => False
    | some y => match asrc H sz y with
      | none => False
      | some news => match frzAll bar H news with
        | none => False
        | some (news', H') => if sz = 0 ∨ ¬ sz ∣ news.length then False else match aappend base bar H' sz bytes x news' with
          | none => False
          | some (v, H'', tc) => K v H'' (if AV.noVec.noVecs news then tc else List.range H.length)

theorem wpop_app {sz bytes : Nat} {x y : Opd} : WpOp env pure base bar (.append sz bytes x y) fr H K ↔ appWp base bar sz bytes (x.ev fr) (y.ev fr) H K := by
  rw [wpop_append]
  simp only [opWp, aop, appWp]
  cases x.ev fr with
  | none => simp
  | some x =>
    cases y.ev fr with
    | none => simp
    | some y =>
      simp only
      cases asrc H sz y with
      | none => simp
      | some news =>
        simp only
        cases frzAll bar H news with
        | none => simp
        | some p =>
          obtain ⟨n1, H1⟩ := p
          simp only
          by_cases hc : sz = 0 ∨ ¬ sz ∣ news.length
          · simp only [if_pos hc]
          · simp only [if_neg hc]
            cases aappend base bar H1 sz bytes x n1 with
            | none => simp
            | some q => obtain ⟨a, b, c⟩ := q; simp

@[congr] theorem appWp_congr {sz bytes : Nat} {x x' y y' : Option AV} {H' : Heap} (h : x = x') (h2 : y = y') (hH : H = H') : appWp base bar sz bytes x y H K = appWp base bar sz bytes x' y' H' K := by rw [h, h2, hH]

/-- what freezing leaves as it is -/
def Plain (c : AV) : Prop := ∀ d bar H, frz (d + 2) bar H c = some (c, H)

theorem Plain.int {k : IntKind} {n : Int} : Plain (.int k n) := fun _ _ _ => rfl
theorem Plain.bool {b : Bool} : Plain (.bool b) := fun _ _ _ => rfl
theorem Plain.str {b : ByteArray} : Plain (.str b) := fun _ _ _ => rfl
theorem Plain.lst {sz : Nat} {ex : Bool} {xs : List AV} : Plain (.lst sz ex xs) := fun _ _ _ => rfl
theorem Plain.nils : Plain .nils := fun _ _ _ => rfl
theorem Plain.fp {x : AV} : Plain (.fp x) := fun _ _ _ => rfl

theorem plains {d : Nat} {l : List AV} (h : ∀ c ∈ l, Plain c) : frzsW (frz (d + 2) bar) H l = some (l, H) := frzsW_id fun x hx => h x hx _ _ _


/-- a list under construction, begun as nil: its cells, what was there before, the slot's value, and the heap -/
def Grow (sz : Nat) (cells : List AV) (H0 : Heap) (v : AV) (H : Heap) : Prop :=
  (cells = [] ∧ v = .nils ∧ H = H0) ∨ ∃ ver fz, cells ≠ [] ∧ fz ≤ cells.length ∧ v = .vec H0.length ver 0 (cells.length / sz) sz ∧ H = H0 ++ [.row ver cells fz false]

theorem Grow.nil {sz : Nat} : Grow sz [] H .nils H := .inl ⟨rfl, rfl, rfl⟩

theorem asrc_lst {sz : Nat} {ex : Bool} {xs : List AV} : asrc H sz (.lst sz ex xs) = some (xs.flatMap AV.cells) := by simp [asrc]

theorem setCells_end : ∀ {l news : List AV}, setCells (l ++ news) l.length news = l ++ news := by
  have : ∀ (news l r : List AV), setCells (l ++ news ++ r) l.length news = l ++ news ++ r := by
    intro news
    induction news with
    | nil => intro l r; rfl
    | cons x n ih =>
      intro l r
      have := ih (l ++ [x]) r
      simp only [setCells]
      rw [show (l ++ x :: n ++ r).set l.length x = l ++ x :: n ++ r by simp [List.set_append]]
      simpa using this
  intro l news
  simpa using this news l []

/-- append of a list that is known to one under construction -/
theorem Grow.app {sz bytes : Nat} {cells : List AV} {H0 : Heap} {v : AV} {ex : Bool} {xs : List AV} (g : Grow sz cells H0 v H) (hsz : 0 < sz)
    (hc : sz ∣ cells.length) (hp : ∀ c ∈ xs.flatMap AV.cells, Plain c) (hd : sz ∣ (xs.flatMap AV.cells).length) (hb : bar ≤ H0.length) (hbase : base ≤ H0.length)
    (hlen : ((cells ++ xs.flatMap AV.cells).length / sz) * bytes ≤ 140737488355328)
    (h : ∀ v' H' tc, Grow sz (cells ++ xs.flatMap AV.cells) H0 v' H' → K v' H' tc) : appWp base bar sz bytes (some v) (some (.lst sz ex xs)) H K := by
  simp only [appWp, asrc_lst, frzAll, frz.frzs]
  rw [plains (d := 6) hp]
  simp only
  rw [if_neg (by omega)]
  generalize hn : xs.flatMap AV.cells = news at *
  have hdiv : (cells ++ news).length / sz = cells.length / sz + news.length / sz := by
    obtain ⟨a, ha⟩ := hc; obtain ⟨b, hb⟩ := hd
    rw [List.length_append, ha, hb, ← Nat.mul_add, Nat.mul_div_cancel_left _ hsz, Nat.mul_div_cancel_left _ hsz, Nat.mul_div_cancel_left _ hsz]
  rcases g with ⟨rfl, rfl, rfl⟩ | ⟨ver, fz, hne, hfz, rfl, rfl⟩
  · simp only [aappend]
    by_cases he : news = []
    · subst he
      simp only [List.isEmpty_nil, if_true]
      exact h _ _ _ (.inl ⟨rfl, rfl, rfl⟩)
    · rw [if_neg (by simpa using he)]
      rw [if_pos (by simpa using hlen)]
      simp only
      refine h _ _ _ (.inr ⟨0, 0, by simpa using he, by simp, ?_, by simp⟩)
      simp
  · simp only [aappend, if_neg (show ¬ sz ≠ sz by simp), own_get0, List.getElem?_cons_zero]
    obtain ⟨a, ha⟩ := hc
    have h1 : cells.length / sz * sz = cells.length := by rw [ha, Nat.mul_div_cancel_left _ hsz, Nat.mul_comm]
    rw [if_neg (by
      rw [h1]
      simp only [ne_eq, not_true_eq_false, Nat.zero_add, Nat.lt_irrefl, false_or, Nat.not_lt]
      rw [hdiv] at hlen; exact hlen)]
    by_cases he : news = []
    · subst he
      simp only [List.isEmpty_nil, if_true]
      refine h _ _ _ (.inr ⟨ver, fz, by simpa using hne, by simpa using hfz, by simp, by simp⟩)
    · rw [if_neg (by simpa using he)]
      have hpos : 0 < news.length := List.length_pos_iff.2 he
      rw [if_neg (by
        obtain ⟨b, hb2⟩ := hd
        rw [Nat.add_mul, h1, hb2, Nat.mul_div_cancel_left _ hsz, Nat.zero_add, Nat.mul_comm b sz, ← hb2]; omega)]
      simp only [Bool.false_eq_true, if_false]
      rw [if_pos ⟨trivial, by rw [h1]; exact hfz, hb, .inl hbase⟩]
      simp only
      refine h _ _ _ (.inr ⟨ver + 1, fz, by simp [hne], by simp; omega, ?_, ?_⟩)
      · rw [hdiv]
      · rw [h1]; simp

/-- a list as a call hands it out -/
def outL (sz : Nat) (cells : List AV) : AV := if cells = [] then .nils else .lst sz false (chunks sz (cells.length / sz) cells)

theorem frz_vec {d id ver off len sz fz : Nat} {ex : Bool} {cs xs : List AV} {H' : Heap} (h1 : H[id]? = some (.row ver cs fz ex)) (h2 : off + len * sz ≤ cs.length) (hb : bar ≤ id)
    (h3 : frzsW (frz d bar) (H.set id (.row ver cs (max fz (off + len * sz)) ex)) ((cs.drop off).take (len * sz)) = some (xs, H')) : frz (d + 1) bar H (.vec id ver off len sz) = some (.lst sz false (chunks sz len xs), H') := by
  simp only [frz, h1, h2, hb, and_self, if_true, h3]

/-- freezing what is under construction -/
theorem Grow.frz {sz d : Nat} {cells : List AV} {H0 : Heap} {v : AV} (g : Grow sz cells H0 v H) (hsz : 0 < sz) (hc : sz ∣ cells.length) (hp : ∀ c ∈ cells, Plain c) (hb : bar ≤ H0.length) :
    ∃ H', frz (d + 3) bar H v = some (outL sz cells, H') ∧ Grow sz cells H0 (if cells = [] then .nils else v) H' ∧ H'.length = H.length ∧ H'.take H0.length = H0 := by
  rcases g with ⟨rfl, rfl, rfl⟩ | ⟨ver, fz, hne, hfz, rfl, rfl⟩
  · exact ⟨H, rfl, .inl ⟨rfl, by simp, rfl⟩, rfl, List.take_length⟩
  · obtain ⟨a, ha⟩ := hc
    have h1 : cells.length / sz * sz = cells.length := by rw [ha, Nat.mul_div_cancel_left _ hsz, Nat.mul_comm]
    refine ⟨H0 ++ [.row ver cells (max fz (0 + cells.length / sz * sz)) false], ?_, ?_, by simp, by simp⟩
    · have e := frz_vec (d := d + 2) (bar := bar) (H := H0 ++ [.row ver cells fz false]) (id := H0.length) (ver := ver) (off := 0) (len := cells.length / sz) (sz := sz) (cs := cells) (fz := fz) (ex := false) (xs := cells)
        (H' := H0 ++ [.row ver cells (max fz (0 + cells.length / sz * sz)) false]) (by simp) (by omega) hb (by
          rw [h1, List.drop_zero, List.take_length, plains hp]; simp)
      rw [e]
      simp [outL, hne]
    · rw [if_neg hne]
      refine .inr ⟨ver, _, hne, ?_, rfl, rfl⟩
      omega
end Go.Ab
end

section
namespace Go.Ab

theorem ofInt_toNat {w a : Nat} (h : a < 2 ^ w) : (BitVec.ofInt w (a : Int)).toNat = a := by
  rw [BitVec.ofInt_natCast, BitVec.toNat_ofNat, Nat.mod_eq_of_lt h]

theorem u8_nat {a : Nat} (h : a < 256) : IntKind.u8.wrap (a : Int) = a := Go.IntWalk.u8_in _ (by omega)
theorem i64_nat {a : Nat} (h : a < 9223372036854775808) : IntKind.i64.wrap (a : Int) = a := Go.IntWalk.i64_in _ (by omega)

def pw (b : Nat) : Nat := 2 ^ b
def band (a b : Nat) : Nat := a &&& b
def bor (a b : Nat) : Nat := a ||| b
theorem pw_lt {b : Nat} (hb : b < 8) : pw b < 256 := Nat.pow_lt_pow_right (by decide) hb
theorem band_lt {a b : Nat} (ha : a < 256) : band a b < 256 := Nat.lt_of_le_of_lt Nat.and_le_left ha
theorem bor_lt {a b : Nat} (ha : a < 256) (hb : b < 256) : bor a b < 256 := Nat.or_lt_two_pow (n := 8) ha hb
theorem testBit_pw {b i : Nat} : (pw b).testBit i = decide (b = i) := by unfold pw; exact Nat.testBit_two_pow
theorem testBit_band {a b i : Nat} : (band a b).testBit i = (a.testBit i && b.testBit i) := Nat.testBit_and ..
theorem testBit_bor {a b i : Nat} : (bor a b).testBit i = (a.testBit i || b.testBit i) := Nat.testBit_or ..

theorem and_u8 {a b : Nat} (ha : a < 256) (hb : b < 256) : abin .and (.int .u8 a) (.int .u8 b) = some (.int .u8 ((band a b : Nat) : Int)) := by
  have e : (BitVec.ofInt 8 (a : Int) &&& BitVec.ofInt 8 (b : Int)).toNat = band a b := by
    rw [BitVec.toNat_and, ofInt_toNat (w := 8) ha, ofInt_toNat (w := 8) hb]; rfl
  simp only [abin, binInt, if_true]
  rw [show IntKind.u8.bits = 8 from rfl, e, u8_nat (band_lt ha)]
theorem and_u8_one {a : Nat} (ha : a < 256) : abin .and (.int .u8 a) (.int .u8 1) = some (.int .u8 ((band a 1 : Nat) : Int)) := and_u8 (b := 1) ha (by decide)
theorem or_u8 {a b : Nat} (ha : a < 256) (hb : b < 256) : abin .or (.int .u8 a) (.int .u8 b) = some (.int .u8 ((bor a b : Nat) : Int)) := by
  have e : (BitVec.ofInt 8 (a : Int) ||| BitVec.ofInt 8 (b : Int)).toNat = bor a b := by
    rw [BitVec.toNat_or, ofInt_toNat (w := 8) ha, ofInt_toNat (w := 8) hb]; rfl
  simp only [abin, binInt, if_true]
  rw [show IntKind.u8.bits = 8 from rfl, e, u8_nat (bor_lt ha hb)]
/-- a less the bits of b -/
def clr (a b : Nat) : Nat := a &&& (255 ^^^ b)
theorem clr_lt {a b : Nat} (ha : a < 256) : clr a b < 256 := Nat.lt_of_le_of_lt Nat.and_le_left ha
theorem andNot_u8 {a b : Nat} (ha : a < 256) (hb : b < 256) : abin .andNot (.int .u8 a) (.int .u8 b) = some (.int .u8 ((clr a b : Nat) : Int)) := by
  have e : (BitVec.ofInt 8 (a : Int) &&& ~~~ BitVec.ofInt 8 (b : Int)).toNat = clr a b := by
    rw [BitVec.toNat_and, BitVec.toNat_not, ofInt_toNat (w := 8) ha, ofInt_toNat (w := 8) hb]
    unfold clr
    congr 1
    have : ∀ b, b < 256 → 2 ^ 8 - 1 - b = 255 ^^^ b := by decide +kernel
    exact this b hb
  simp only [abin, binInt, if_true]
  rw [show IntKind.u8.bits = 8 from rfl, e, u8_nat (clr_lt ha)]
theorem testBit_clr {a b i : Nat} (ha : a < 256) : (clr a b).testBit i = (a.testBit i && !b.testBit i) := by
  unfold clr
  rw [Nat.testBit_and, Nat.testBit_xor]
  by_cases hi : i < 8
  · have : Nat.testBit 255 i = true := by
      have : ∀ i, i < 8 → Nat.testBit 255 i = true := by decide
      exact this i hi
    rw [this]; cases b.testBit i <;> simp
  · have : a.testBit i = false := Nat.testBit_lt_two_pow (Nat.lt_of_lt_of_le ha (Nat.pow_le_pow_right (by decide) (Nat.not_lt.1 hi) : 2 ^ 8 ≤ 2 ^ i))
    rw [this]; simp

theorem shl_u8 {b : Nat} (hb : b < 8) : abin .shl (.int .u8 1) (.int .i64 (b : Int)) = some (.int .u8 ((pw b : Nat) : Int)) := by
  have h2 : (2 : Nat) ^ b < 256 := Nat.pow_lt_pow_right (by decide) hb
  simp only [abin]
  rw [if_neg (by omega), Int.toNat_natCast, show min b IntKind.u8.bits = b from Nat.min_eq_left (by simp [IntKind.bits]; omega)]
  rw [show (1 : Int) * 2 ^ b = ((2 ^ b : Nat) : Int) by simp, u8_nat h2]; rfl

def shr (a b : Nat) : Nat := a / 2 ^ (min b 8)
theorem shr_lt {a b : Nat} (ha : a < 256) : shr a b < 256 := Nat.lt_of_le_of_lt (Nat.div_le_self _ _) ha
theorem shr_bit : ∀ a, a < 256 → ∀ b, band (shr a b) 1 = (a.testBit b).toNat := fun a ha b => by
  unfold band shr
  by_cases hb : b < 8
  · have : ∀ a, a < 256 → ∀ b, b < 8 → (a / 2 ^ (min b 8)) &&& 1 = (a.testBit b).toNat := by decide +kernel
    exact this a ha b hb
  · rw [Nat.min_eq_right (by omega), Nat.div_eq_of_lt ha, Nat.testBit_lt_two_pow (Nat.lt_of_lt_of_le ha (Nat.pow_le_pow_right (by decide) (Nat.not_lt.1 hb) : 2 ^ 8 ≤ 2 ^ b))]; rfl
theorem shr_u8 {a b : Nat} : abin .shr (.int .u8 (a : Int)) (.int .i64 (b : Int)) = some (.int .u8 ((shr a b : Nat) : Int)) := by
  simp only [abin]
  rw [if_neg (by omega)]
  simp only [Int.toNat_natCast, show IntKind.u8.bits = 8 from rfl]
  congr 2
  rw [show (2 : Int) ^ (min b 8) = ((2 ^ (min b 8) : Nat) : Int) by simp, Int.fdiv_eq_ediv_of_nonneg _ (Int.natCast_nonneg _)]
  exact (Int.natCast_ediv _ _).symm

/-- ints that are naturals -/
theorem lt_nat {a b : Nat} : decide ((a : Int) < (b : Int)) = decide (a < b) := by simp
end Go.Ab
namespace Go.Ab
/-- one round of a loop that has a name -/
theorem wp_round {env : Env} {base bar : Nat} {fr : Frame} {H : Heap} {Q : PQ} {c c' : ACode} (h : c = c') : Wp env base bar (.loop c) fr H Q ↔ Wp env base bar c' fr H (thenWp env base bar (.loop c) Q) := by
  rw [← h]; exact Go.Ab.wp_loop

def nats (l : List Nat) : List AV := l.map fun (x : Nat) => .int .i64 (x : Int)
theorem nats_plain {l : List Nat} : ∀ c ∈ nats l, Plain c := fun c hc => by
  obtain ⟨x, _, rfl⟩ := List.mem_map.1 hc
  exact Plain.int
theorem nats_append {l r : List Nat} : nats (l ++ r) = nats l ++ nats r := by simp [nats]
theorem nats_length {l : List Nat} : (nats l).length = l.length := by simp [nats]
theorem nats_nil : nats [] = [] := rfl
theorem nats_one {x : Nat} : nats [x] = [.int .i64 (x : Int)] := rfl
theorem nats_eq_nil {l : List Nat} : nats l = [] ↔ l = [] := by simp [nats]
theorem chunks_one : ∀ {l : List AV}, chunks 1 l.length l = l
  | [] => rfl
  | x :: r => by simp [chunks, chunks_one (l := r)]
theorem tops_nats {l : List Nat} : AV.top.tops (nats l) = 0 := tops_zero fun x hx => by
  obtain ⟨n, _, rfl⟩ := List.mem_map.1 hx
  rfl
/-- a list of numbers, as a call hands it out -/
theorem outL_nats {l : List Nat} : outL 1 (nats l) = if l = [] then .nils else .lst 1 false (nats l) := by
  simp only [outL, nats_eq_nil]
  split
  · rfl
  · rw [show (nats l).length / 1 = (nats l).length by omega, chunks_one]

/-- one number more -/
theorem Grow.nat {H : Heap} {base bar bytes : Nat} {l : List Nat} {H0 : Heap} {v : AV} {ex : Bool} {x : Nat} {K : AV → Heap → List Nat → Prop} (g : Grow 1 (nats l) H0 v H) (hb : bar ≤ H0.length) (hbase : base ≤ H0.length)
    (hlen : (l.length + 1) * bytes ≤ 140737488355328)
    (h : ∀ v' H' tc, Grow 1 (nats (l ++ [x])) H0 v' H' → K v' H' tc) : appWp base bar 1 bytes (some v) (some (.lst 1 ex [.int .i64 (x : Int)])) H K := by
  refine g.app (by omega) (Nat.one_dvd _) (fun c hc => ?_) (Nat.one_dvd _) hb hbase ?_ fun v' H' tc g' => h v' H' tc ?_
  · simp [AV.cells] at hc; subst hc; exact Plain.int
  · simpa [nats_length, AV.cells] using hlen
  · simpa [nats_append, nats_one, AV.cells] using g'

/-- what is under construction is handed out -/
theorem Grow.out {H : Heap} {base bar : Nat} {l : List Nat} {H0 : Heap} {v : AV} {K : AV → Heap → Prop} (g : Grow 1 (nats l) H0 v H) (hb : bar ≤ H0.length) (hbase : base ≤ H0.length)
    (h : K (outL 1 (nats l)) (H0.take base)) : outWp (leave 0 base bar [v] H) K := by
  obtain ⟨H', h1, h2, h3, h4⟩ := g.frz (d := 5) (bar := bar) (by omega) (Nat.one_dvd _) nats_plain hb
  have e : leave 0 base bar [v] H = some (outL 1 (nats l), H0.take base) := by
    rw [leave_0]
    simp only [frzAll, frz.frzs, frzsW, h1, leave0_some, tupled_one]
    rw [if_pos]
    · rw [show H'.take base = (H'.take H0.length).take base by rw [List.take_take, Nat.min_eq_left hbase], h4]
    · rw [outL_nats]; split <;> simp [tops_cons, tops_nil, top_nils, top_lst, tops_nats]
  rw [e]; exact h
end Go.Ab
end

section
namespace Go.Ab
variable {H : Heap} {bar : Nat} {K : AV → Heap → List Nat → Prop}

/-- a value is a list of numbers -/
def isL (v : AV) (l : List Nat) : Prop := (v = .nils ∧ l = []) ∨ ∃ ex, v = .lst 1 ex (nats l)

theorem isL.nil : isL .nils [] := .inl ⟨rfl, rfl⟩
theorem isL.lst {ex : Bool} {l : List Nat} : isL (.lst 1 ex (nats l)) l := .inr ⟨ex, rfl⟩
theorem isL.out {l : List Nat} : isL (outL 1 (nats l)) l := by
  rw [outL_nats]
  split
  · rename_i h; subst h; exact .inl ⟨rfl, rfl⟩
  · exact .lst
theorem isL.len {v : AV} {l : List Nat} (h : isL v l) : lenWp (some v) H K = K (.int .i64 (l.length : Int)) H [] := by
  rcases h with ⟨rfl, rfl⟩ | ⟨ex, rfl⟩
  · rfl
  · rw [lenWp_lst, nats_length]
theorem isL.frz {v : AV} {l : List Nat} (h : isL v l) {d : Nat} : frz (d + 1) bar H v = some (v, H) := by
  rcases h with ⟨rfl, rfl⟩ | ⟨ex, rfl⟩ <;> rfl
theorem isL.plain {v : AV} {l : List Nat} (h : isL v l) : Plain v := by
  rcases h with ⟨rfl, rfl⟩ | ⟨ex, rfl⟩
  · exact Plain.nils
  · exact Plain.lst
theorem isL.top {v : AV} {l : List Nat} (h : isL v l) : v.top = 0 := by
  rcases h with ⟨rfl, rfl⟩ | ⟨ex, rfl⟩
  · rfl
  · exact tops_nats
theorem isL.isTup {v : AV} {l : List Nat} (h : isL v l) : v.isTup = false := by
  rcases h with ⟨rfl, rfl⟩ | ⟨ex, rfl⟩ <;> rfl
theorem isL.cells {v : AV} {l : List Nat} (h : isL v l) : v.cells = [v] := by
  rcases h with ⟨rfl, rfl⟩ | ⟨ex, rfl⟩ <;> rfl
theorem isL.noVec {v : AV} {l : List Nat} (h : isL v l) : v.noVec = true := by
  rcases h with ⟨rfl, rfl⟩ | ⟨ex, rfl⟩ <;> rfl
theorem nats_get {l : List Nat} {i : Nat} (hi : i < l.length) : (nats l)[i]? = some (.int .i64 ((l[i] : Nat) : Int)) := by
  simp [nats, List.getElem?_eq_getElem hi]
theorem isL.ix {v : AV} {l : List Nat} (h : isL v l) {k : IntKind} {i : Nat} (hi : i < l.length) : ixaSWp 1 (some v) (some (.int k (i : Int))) H K = K (.fp (.int .i64 ((l[i] : Nat) : Int))) H [] := by
  rcases h with ⟨rfl, rfl⟩ | ⟨ex, rfl⟩
  · simp at hi
  · rw [ixaSWp_lst]
    simp only [Int.toNat_natCast, nats_get hi, Option.map_some, valWp_some]
    simp

theorem isL.ix0 {v : AV} {c : Nat} {r : List Nat} (h : isL v (c :: r)) {k : IntKind} : ixaSWp 1 (some v) (some (.int k 0)) H K = K (.fp (.int .i64 (c : Int))) H [] := h.ix (i := 0) (by simp)
theorem aload_ptr {id ver off fz : Nat} {ex : Bool} {cs : List AV} {ti : TI} (h : H[id]? = some (.row ver cs fz ex)) : aload H ti (.ptr id ver off) = part ti cs off := by
  simp [aload, h]
@[go_sem] theorem aload_fp {k : IntKind} {n : Int} {s : Nat} : aload H ⟨false, s⟩ (.fp (.int k n)) = some (.int k n) := rfl
@[go_sem] theorem part_one {cs : List AV} {off s : Nat} : part ⟨false, s⟩ cs off = cs[off]? := by simp [part]
theorem part_agg {cs : List AV} {off s : Nat} : part ⟨true, s⟩ cs off = if off + s ≤ cs.length then some (.agg ((cs.drop off).take s)) else none := by simp [part]

theorem storeWp_ptr {base id ver off size fz : Nat} {ex : Bool} {cs : List AV} {v : AV} (h : H[id]? = some (.row ver cs fz ex)) (hv : v.isTup = false) (hs : v.cells.length = size) (hf : fz ≤ off) (hl : off + size ≤ cs.length)
    (hb : bar ≤ id) (ho : base ≤ id ∨ AV.top.tops v.cells ≤ id + 1) : storeWp base bar size (.ptr id ver off) v H K = K (.tup []) (H.set id (.row ver (setCells cs off v.cells) fz ex)) [id] := by
  simp [storeWp, astore, h, hv, hs, hf, hl, hb, ho]

/-- a row of a number and eight sets -/
def wcells (n : Nat) (w : Nat → Nat) : List AV := .int .i64 (n : Int) :: (List.range 8).map fun a => .int .u8 ((w a : Nat) : Int)
def upd (w : Nat → Nat) (i x : Nat) : Nat → Nat := fun j => if j = i then x else w j
theorem wcells_length {n : Nat} {w : Nat → Nat} : (wcells n w).length = 9 := by simp [wcells]
theorem wcells_n {n : Nat} {w : Nat → Nat} : (wcells n w)[0]? = some (.int .i64 (n : Int)) := rfl
theorem wcells_get {n i : Nat} {w : Nat → Nat} (hi : i < 8) : (wcells n w)[1 + i]? = some (.int .u8 ((w i : Nat) : Int)) := by
  rw [Nat.add_comm]; simp [wcells, hi]
theorem wcells_set {n i x : Nat} {w : Nat → Nat} (hi : i < 8) : setCells (wcells n w) (1 + i) [.int .u8 (x : Int)] = wcells n (upd w i x) := by
  simp only [setCells]
  apply List.ext_getElem?
  intro j
  rw [List.getElem?_set]
  rcases j with _ | j
  · rw [if_neg (by omega)]; rfl
  · by_cases hj : 1 + i = j + 1
    · obtain rfl : i = j := by omega
      rw [if_pos (by omega)]
      simp [wcells, upd, hi]; omega
    · rw [if_neg hj]
      by_cases h8 : j < 8
      · simp [wcells, upd, h8, show ¬ j = i by omega]
      · simp [wcells, h8]
theorem wcells_plain {n : Nat} {w : Nat → Nat} : ∀ c ∈ wcells n w, Plain c := fun c hc => by
  simp only [wcells, List.mem_cons, List.mem_map] at hc
  rcases hc with rfl | ⟨a, _, rfl⟩ <;> exact Plain.int
theorem wcells_tops {n : Nat} {w : Nat → Nat} : AV.top.tops (wcells n w) = 0 := tops_zero fun x hx => by
  simp only [wcells, List.mem_cons, List.mem_map] at hx
  rcases hx with rfl | ⟨a, _, rfl⟩ <;> rfl
theorem set_take {i : Nat} {b : Blk} : (H.set i b).take H.length = H.set i b := List.take_of_length_le (by simp)
theorem set_get {i ver fz : Nat} {ex : Bool} {cs : List AV} {b : Blk} (h : H[i]? = some (.row ver cs fz ex)) : (H.set i b)[i]? = some b := by
  have := (List.getElem?_eq_some_iff.1 h).1
  simp [this]
theorem storeW {base id ver n i x : Nat} {ex : Bool} {w : Nat → Nat} (hid : H[id]? = some (.row ver (wcells n w) 0 ex)) (hi : i < 8) (hb : bar ≤ id) :
    storeWp base bar 1 (.ptr id ver (1 + i)) (.int .u8 (x : Int)) H K = K (.tup []) (H.set id (.row ver (wcells n (upd w i x)) 0 ex)) [id] := by
  rw [storeWp_ptr (size := 1) hid rfl rfl (by omega) (by rw [wcells_length]; omega) hb (.inr (by simp [AV.cells, tops_cons, tops_nil, top_int]))]
  simp only [AV.cells, wcells_set hi]
theorem storeW_zero {base id ver n i : Nat} {ex : Bool} {w : Nat → Nat} (hid : H[id]? = some (.row ver (wcells n w) 0 ex)) (hi : i < 8) (hb : bar ≤ id) :
    storeWp base bar 1 (.ptr id ver (1 + i)) (.int .u8 0) H K = K (.tup []) (H.set id (.row ver (wcells n (upd w i 0)) 0 ex)) [id] := storeW (x := 0) hid hi hb
theorem loadW {id ver n i s : Nat} {ex : Bool} {w : Nat → Nat} {fz : Nat} (hid : H[id]? = some (.row ver (wcells n w) fz ex)) (hi : i < 8) :
    aload H ⟨false, s⟩ (.ptr id ver (1 + i)) = some (.int .u8 ((w i : Nat) : Int)) := by
  rw [aload_ptr hid, part_one, wcells_get hi]
theorem loadN {id ver n s : Nat} {ex : Bool} {w : Nat → Nat} {fz : Nat} (hid : H[id]? = some (.row ver (wcells n w) fz ex)) :
    aload H ⟨false, s⟩ (.ptr id ver 0) = some (.int .i64 (n : Int)) := by
  rw [aload_ptr hid, part_one, wcells_n]
theorem set_row {id ver ver' fz fz' : Nat} {ex ex' : Bool} {cs cs' : List AV} (hid : H[id]? = some (.row ver cs fz ex)) : (H.set id (.row ver' cs' fz' ex'))[id]? = some (.row ver' cs' fz' ex') := set_get hid
theorem set_set {id : Nat} {a b : Blk} : (H.set id a).set id b = H.set id b := by simp
/-- what a call returns, when it is known frozen -/
theorem leave0_of {base : Nat} {vs vs' : List AV} {H' : Heap} (h : frzAll bar H vs = some (vs', H')) (ht : AV.top.tops vs' ≤ base) : leave 0 base bar vs H = some (tupled vs', H'.take base) := by
  rw [leave_0, h, leave0_some, if_pos ht]
/-- a list that a call returns -/
theorem leaveL {base : Nat} {v : AV} {l : List Nat} (h : isL v l) {L : AV → Heap → Prop} {H : Heap} (hk : L v (H.take base)) : outWp (leave 0 base bar [v] H) L := by
  rw [leave_0]
  simp only [frzAll, frz.frzs, frzsW, h.frz, leave0_some, tupled_one]
  rw [if_pos (by simp [tops_cons, tops_nil, h.top])]
  exact hk
@[go_sem] theorem ftop_nil : ftop [] = 0 := (rfl)
@[go_sem] theorem ftop_cons {t : Nat} {v : AV} {r : Frame} : ftop ((t, v) :: r) = max v.top (ftop r) := (rfl)
attribute [go_sem] AV.noVec.noVecs AV.noVec fillA setCells part_agg
end Go.Ab
end

section
namespace Go.Ab
variable {H : Heap} {bar : Nat} {K : AV → Heap → List Nat → Prop}

abbrev ZZ := Int × Int
def zc (p : ZZ) : List AV := [.int .i64 p.1, .int .i64 p.2]
def prs (l : List ZZ) : List AV := l.flatMap zc
def prA (l : List ZZ) : List AV := l.map fun p => .agg (zc p)
theorem prs_length {l : List ZZ} : (prs l).length = 2 * l.length := by
  induction l with
  | nil => rfl
  | cons p r ih => simp only [prs, List.flatMap_cons, List.length_append, List.length_cons] at ih ⊢; rw [ih]; simp [zc]; omega
theorem prs_append {l r : List ZZ} : prs (l ++ r) = prs l ++ prs r := by simp [prs]
theorem prs_one {p : ZZ} : prs [p] = zc p := by simp [prs]
theorem prs_nil : prs [] = [] := rfl
theorem prs_eq_nil {l : List ZZ} : prs l = [] ↔ l = [] := by
  constructor
  · intro h
    cases l with
    | nil => rfl
    | cons p r => simp [prs, zc] at h
  · rintro rfl; rfl
theorem prs_plain {l : List ZZ} : ∀ c ∈ prs l, Plain c := fun c hc => by
  simp only [prs, List.mem_flatMap, zc, List.mem_cons, List.not_mem_nil, or_false] at hc
  obtain ⟨p, _, rfl | rfl⟩ := hc <;> exact Plain.int
theorem chunks_two : ∀ {l : List ZZ}, chunks 2 l.length (prs l) = prA l
  | [] => rfl
  | p :: r => by
    have := chunks_two (l := r)
    simp only [prs, prA] at this
    simp [chunks, prs, prA, zc, this]
theorem tops_prA {l : List ZZ} : AV.top.tops (prA l) = 0 := tops_zero fun x hx => by
  obtain ⟨p, _, rfl⟩ := List.mem_map.1 hx
  rfl
theorem tops_prs {l : List ZZ} : AV.top.tops (prs l) = 0 := tops_zero fun x hx => by
  simp only [prs, List.mem_flatMap, zc, List.mem_cons, List.not_mem_nil, or_false] at hx
  obtain ⟨p, _, rfl | rfl⟩ := hx <;> rfl
theorem outL_prs {l : List ZZ} : outL 2 (prs l) = if l = [] then .nils else .lst 2 false (prA l) := by
  simp only [outL, prs_eq_nil]
  split
  · rfl
  · rw [prs_length, Nat.mul_div_cancel_left _ (by decide), chunks_two]

/-- a value is a list of pairs -/
def isP (v : AV) (l : List ZZ) : Prop := (v = .nils ∧ l = []) ∨ ∃ ex, v = .lst 2 ex (prA l)
theorem isP.nil : isP .nils [] := .inl ⟨rfl, rfl⟩
theorem isP.lst {ex : Bool} {l : List ZZ} : isP (.lst 2 ex (prA l)) l := .inr ⟨ex, rfl⟩
theorem isP.out {l : List ZZ} : isP (outL 2 (prs l)) l := by
  rw [outL_prs]
  split
  · rename_i h; subst h; exact .inl ⟨rfl, rfl⟩
  · exact .lst
theorem isP.len {v : AV} {l : List ZZ} (h : isP v l) : lenWp (some v) H K = K (.int .i64 (l.length : Int)) H [] := by
  rcases h with ⟨rfl, rfl⟩ | ⟨ex, rfl⟩
  · rfl
  · rw [lenWp_lst]; simp [prA]
theorem isP.frz {v : AV} {l : List ZZ} (h : isP v l) {d : Nat} : frz (d + 1) bar H v = some (v, H) := by
  rcases h with ⟨rfl, rfl⟩ | ⟨ex, rfl⟩ <;> rfl
theorem isP.plain {v : AV} {l : List ZZ} (h : isP v l) : Plain v := by
  rcases h with ⟨rfl, rfl⟩ | ⟨ex, rfl⟩
  · exact Plain.nils
  · exact Plain.lst
theorem isP.top {v : AV} {l : List ZZ} (h : isP v l) : v.top = 0 := by
  rcases h with ⟨rfl, rfl⟩ | ⟨ex, rfl⟩
  · rfl
  · exact tops_prA
theorem isP.isTup {v : AV} {l : List ZZ} (h : isP v l) : v.isTup = false := by
  rcases h with ⟨rfl, rfl⟩ | ⟨ex, rfl⟩ <;> rfl
theorem isP.cells {v : AV} {l : List ZZ} (h : isP v l) : v.cells = [v] := by
  rcases h with ⟨rfl, rfl⟩ | ⟨ex, rfl⟩ <;> rfl
theorem isP.noVec {v : AV} {l : List ZZ} (h : isP v l) : v.noVec = true := by
  rcases h with ⟨rfl, rfl⟩ | ⟨ex, rfl⟩ <;> rfl
theorem isP.ix {v : AV} {l : List ZZ} (h : isP v l) {k : IntKind} {i : Nat} (hi : i < l.length) : ixaSWp 2 (some v) (some (.int k (i : Int))) H K = K (.fp (.agg (zc l[i]))) H [] := by
  rcases h with ⟨rfl, rfl⟩ | ⟨ex, rfl⟩
  · simp at hi
  · rw [ixaSWp_lst]
    simp only [Int.toNat_natCast]
    rw [show (prA l)[i]? = some (.agg (zc l[i])) by simp [prA, List.getElem?_eq_getElem hi]]
    simp [valWp_some]

/-- one pair more -/
theorem Grow.pair {base bytes : Nat} {l : List ZZ} {H0 : Heap} {v : AV} {ex : Bool} {p : ZZ} (g : Grow 2 (prs l) H0 v H) (hb : bar ≤ H0.length) (hbase : base ≤ H0.length)
    (hlen : (l.length + 1) * bytes ≤ 140737488355328)
    (h : ∀ v' H' tc, Grow 2 (prs (l ++ [p])) H0 v' H' → K v' H' tc) : appWp base bar 2 bytes (some v) (some (.lst 2 ex [.agg [.int .i64 p.1, .int .i64 p.2]])) H K := by
  refine g.app (by omega) ⟨l.length, prs_length⟩ (fun c hc => ?_) ⟨1, by simp [AV.cells]⟩ hb hbase ?_ fun v' H' tc g' => h v' H' tc ?_
  · simp [AV.cells] at hc; rcases hc with rfl | rfl <;> exact Plain.int
  · have : (prs l ++ [AV.agg [.int .i64 p.1, .int .i64 p.2]].flatMap AV.cells).length / 2 = l.length + 1 := by
      simp [prs_length, AV.cells]
    rw [this]; exact hlen
  · simpa [prs_append, prs_one, zc, AV.cells] using g'

/-- a block before the list is written -/
theorem Grow.set {sz : Nat} {cells : List AV} {H0 : Heap} {v : AV} (g : Grow sz cells H0 v H) {i : Nat} {b : Blk} (hi : i < H0.length) : Grow sz cells (H0.set i b) v (H.set i b) := by
  rcases g with ⟨rfl, rfl, rfl⟩ | ⟨ver, fz, h1, h2, rfl, rfl⟩
  · exact .inl ⟨rfl, rfl, rfl⟩
  · refine .inr ⟨ver, fz, h1, h2, by simp, ?_⟩
    rw [List.set_append_left _ _ hi]
theorem Grow.get {sz : Nat} {cells : List AV} {H0 : Heap} {v : AV} (g : Grow sz cells H0 v H) {i : Nat} {b : Blk} (h : H0[i]? = some b) : H[i]? = some b := by
  rcases g with ⟨rfl, rfl, rfl⟩ | ⟨ver, fz, h1, h2, rfl, rfl⟩
  · exact h
  · exact old_get h
theorem Grow.len {sz : Nat} {cells : List AV} {H0 : Heap} {v : AV} (g : Grow sz cells H0 v H) : H0.length ≤ H.length := by
  rcases g with ⟨rfl, rfl, rfl⟩ | ⟨ver, fz, h1, h2, rfl, rfl⟩ <;> simp
end Go.Ab
end

section
namespace Go.Ab
variable {H : Heap} {bar base : Nat} {K : AV → Heap → List Nat → Prop}

def idOf : AV → Option Nat
  | .vec id _ _ _ _ => some id
  | _ => none

/-- a list under construction, in a block from number k on -/
def Own (k sz : Nat) (cells : List AV) (v : AV) (H : Heap) : Prop :=
  (cells = [] ∧ v = .nils) ∨ ∃ id ver fz, cells ≠ [] ∧ k ≤ id ∧ fz ≤ cells.length ∧ v = .vec id ver 0 (cells.length / sz) sz ∧ H[id]? = some (.row ver cells fz false)

theorem Own.nil {k sz : Nat} : Own k sz [] .nils H := .inl ⟨rfl, rfl⟩

/-- other blocks do not matter -/
theorem Own.mono {k sz : Nat} {cells : List AV} {v : AV} {H' : Heap} (g : Own k sz cells v H) (h : ∀ j, idOf v = some j → H'[j]? = H[j]?) : Own k sz cells v H' := by
  rcases g with h1 | ⟨id, ver, fz, h1, h2, h3, h4, h5⟩
  · exact .inl h1
  · refine .inr ⟨id, ver, fz, h1, h2, h3, h4, ?_⟩
    rw [h id (by rw [h4]; rfl)]; exact h5
theorem Own.lt {k sz j : Nat} {cells : List AV} {v : AV} (g : Own k sz cells v H) (h : idOf v = some j) : k ≤ j ∧ j < H.length := by
  rcases g with ⟨_, rfl⟩ | ⟨id, ver, fz, h1, h2, h3, h4, h5⟩
  · cases h
  · subst h4; cases h
    exact ⟨h2, (List.getElem?_eq_some_iff.1 h5).1⟩
theorem Own.slot {k sz : Nat} {cells : List AV} {v : AV} (g : Own k sz cells v H) : v.isTup = false ∧ v.cells = [v] := by
  rcases g with ⟨_, rfl⟩ | ⟨_, _, _, _, _, _, rfl, _⟩ <;> exact ⟨rfl, rfl⟩

/-- what a step leaves alone -/
structure Kept1 (v v' : AV) (H H' : Heap) (tc : List Nat) : Prop where
  len : H.length ≤ H'.length
  same : ∀ j, j < H.length → idOf v ≠ some j → H'[j]? = H[j]?
  tc : ∀ i ∈ tc, idOf v = some i
  id : ∀ j, idOf v' = some j → idOf v = some j ∨ j = H.length

theorem Own.app {k sz bytes : Nat} {cells : List AV} {v : AV} {ex : Bool} {xs : List AV} (g : Own k sz cells v H) (hk : k ≤ H.length) (hsz : 0 < sz)
    (hc : sz ∣ cells.length) (hp : ∀ c ∈ xs.flatMap AV.cells, Plain c) (hv : AV.noVec.noVecs (xs.flatMap AV.cells) = true) (hd : sz ∣ (xs.flatMap AV.cells).length) (hb : bar ≤ k) (hbase : base ≤ k)
    (hlen : ((cells ++ xs.flatMap AV.cells).length / sz) * bytes ≤ 140737488355328)
    (h : ∀ v' H' tc, Own k sz (cells ++ xs.flatMap AV.cells) v' H' → Kept1 v v' H H' tc → K v' H' tc) : appWp base bar sz bytes (some v) (some (.lst sz ex xs)) H K := by
  simp only [appWp, asrc_lst, frzAll, frz.frzs]
  rw [plains (d := 6) hp]
  simp only [hv, if_true]
  rw [if_neg (by omega)]
  generalize hn : xs.flatMap AV.cells = news at *
  have hdiv : (cells ++ news).length / sz = cells.length / sz + news.length / sz := by
    obtain ⟨a, ha⟩ := hc; obtain ⟨b, hb⟩ := hd
    rw [List.length_append, ha, hb, ← Nat.mul_add, Nat.mul_div_cancel_left _ hsz, Nat.mul_div_cancel_left _ hsz, Nat.mul_div_cancel_left _ hsz]
  rcases g with ⟨rfl, rfl⟩ | ⟨id, ver, fz, hne, hid, hfz, rfl, hrow⟩
  · simp only [aappend]
    by_cases he : news = []
    · subst he
      simp only [List.isEmpty_nil, if_true]
      exact h _ _ _ (.inl ⟨rfl, rfl⟩) ⟨Nat.le_refl _, fun _ _ _ => rfl, fun i hi => by simp at hi, fun j hj => by cases hj⟩
    · rw [if_neg (by simpa using he)]
      rw [if_pos (by simpa using hlen)]
      simp only
      refine h _ _ _ (.inr ⟨H.length, 0, 0, by simpa using he, hk, by simp, by simp, by simp⟩) ⟨by simp, fun j hj _ => ?_, fun i hi => by simp at hi, fun j hj => by cases hj; exact .inr rfl⟩
      rw [List.getElem?_append_left hj]
  · have hlt := (List.getElem?_eq_some_iff.1 hrow).1
    simp only [aappend, if_neg (show ¬ sz ≠ sz by simp), hrow]
    obtain ⟨a, ha⟩ := hc
    have h1 : cells.length / sz * sz = cells.length := by rw [ha, Nat.mul_div_cancel_left _ hsz, Nat.mul_comm]
    rw [if_neg (by
      rw [h1]
      simp only [ne_eq, not_true_eq_false, Nat.zero_add, Nat.lt_irrefl, false_or, Nat.not_lt]
      rw [hdiv] at hlen; exact hlen)]
    by_cases he : news = []
    · subst he
      simp only [List.isEmpty_nil, if_true]
      refine h _ _ _ (.inr ⟨id, ver, fz, by simpa using hne, hid, by simpa using hfz, by simp, by simpa using hrow⟩) ⟨Nat.le_refl _, fun _ _ _ => rfl, fun i hi => by simp at hi, fun j hj => .inl hj⟩
    · rw [if_neg (by simpa using he)]
      have hpos : 0 < news.length := List.length_pos_iff.2 he
      rw [if_neg (by
        obtain ⟨b, hb2⟩ := hd
        rw [Nat.add_mul, h1, hb2, Nat.mul_div_cancel_left _ hsz, Nat.zero_add, Nat.mul_comm b sz, ← hb2]; omega)]
      simp only [Bool.false_eq_true, if_false]
      rw [if_pos ⟨trivial, by rw [h1]; exact hfz, by omega, .inl (by omega)⟩]
      simp only
      refine h _ _ _ (.inr ⟨id, ver + 1, fz, by simp [hne], hid, by simp; omega, ?_, ?_⟩) ⟨by simp, fun j hj hne' => ?_, fun i hi => ?_, fun j hj => .inl (by cases hj; rfl)⟩
      · rw [hdiv]
      · rw [h1]; simp [hlt]
      · have : id ≠ j := fun hc => hne' (by rw [hc]; rfl)
        simp [this]
      · simp at hi; subst hi; rfl

/-- freezing what is under construction -/
theorem Own.frz {k sz d : Nat} {cells : List AV} {v : AV} (g : Own k sz cells v H) (hsz : 0 < sz) (hc : sz ∣ cells.length) (hp : ∀ c ∈ cells, Plain c) (hb : bar ≤ k) :
    ∃ H', frz (d + 3) bar H v = some (outL sz cells, H') ∧ Own k sz cells v H' ∧ H'.length = H.length ∧ (∀ j, idOf v ≠ some j → H'[j]? = H[j]?) := by
  rcases g with ⟨rfl, rfl⟩ | ⟨id, ver, fz, hne, hid, hfz, rfl, hrow⟩
  · exact ⟨H, rfl, .nil, rfl, fun _ _ => rfl⟩
  · have hlt := (List.getElem?_eq_some_iff.1 hrow).1
    obtain ⟨a, ha⟩ := hc
    have h1 : cells.length / sz * sz = cells.length := by rw [ha, Nat.mul_div_cancel_left _ hsz, Nat.mul_comm]
    refine ⟨H.set id (.row ver cells (max fz (0 + cells.length / sz * sz)) false), ?_, ?_, by simp, fun j hj => ?_⟩
    · have e := frz_vec (d := d + 2) (bar := bar) (H := H) (id := id) (ver := ver) (off := 0) (len := cells.length / sz) (sz := sz) (cs := cells) (fz := fz) (ex := false) (xs := cells)
        (H' := H.set id (.row ver cells (max fz (0 + cells.length / sz * sz)) false)) hrow (by omega) (by omega) (by
          rw [h1, List.drop_zero, List.take_length, plains hp])
      rw [e]
      simp [outL, hne]
    · exact .inr ⟨id, ver, max fz (0 + cells.length / sz * sz), hne, hid, by omega, rfl, by simp [hlt]⟩
    · have : id ≠ j := fun hc => hj (by rw [hc]; rfl)
      simp [this]
end Go.Ab
end

section
namespace Go.Ab
variable {H : Heap} {bar : Nat} {K : AV → Heap → List Nat → Prop}

def fcells (n : Nat) (f : Nat → Nat) : List AV := (List.range n).map fun a => .int .i64 ((f a : Nat) : Int)
theorem fcells_nats {n : Nat} {f : Nat → Nat} : fcells n f = nats ((List.range n).map f) := by simp [fcells, nats]
theorem fcells_length {n : Nat} {f : Nat → Nat} : (fcells n f).length = n := by simp [fcells]
theorem fcells_get {n i : Nat} {f : Nat → Nat} (hi : i < n) : (fcells n f)[i]? = some (.int .i64 ((f i : Nat) : Int)) := by simp [fcells, hi]
theorem fcells_set {n i x : Nat} {f : Nat → Nat} (hi : i < n) : setCells (fcells n f) i [.int .i64 (x : Int)] = fcells n (upd f i x) := by
  simp only [setCells]
  apply List.ext_getElem?
  intro j
  rw [List.getElem?_set]
  by_cases hj : i = j
  · subst hj; simp [fcells, upd, hi]
  · rw [if_neg hj]
    by_cases h8 : j < n
    · simp [fcells, upd, h8, show ¬ j = i by omega]
    · simp [fcells, h8]
theorem fcells_zero {n : Nat} : fcells n (fun _ => 0) = List.replicate n (.int .i64 0) := by
  apply List.ext_getElem?
  intro j
  by_cases h : j < n <;> simp [fcells, h, List.getElem?_replicate]
theorem loadF {id ver n i s fz : Nat} {ex : Bool} {f : Nat → Nat} (hid : H[id]? = some (.row ver (fcells n f) fz ex)) (hi : i < n) : aload H ⟨false, s⟩ (.ptr id ver i) = some (.int .i64 ((f i : Nat) : Int)) := by
  rw [aload_ptr hid, part_one, fcells_get hi]
theorem storeF {base id ver n i x fz : Nat} {ex : Bool} {f : Nat → Nat} (hid : H[id]? = some (.row ver (fcells n f) fz ex)) (hi : i < n) (hf : fz ≤ i) (hb : bar ≤ id) :
    storeWp base bar 1 (.ptr id ver i) (.int .i64 (x : Int)) H K = K (.tup []) (H.set id (.row ver (fcells n (upd f i x)) fz ex)) [id] := by
  rw [storeWp_ptr (size := 1) hid rfl rfl hf (by rw [fcells_length]; omega) hb (.inr (by simp [AV.cells, tops_cons, tops_nil, top_int]))]
  simp only [AV.cells, fcells_set hi]
/-- freezing it -/
theorem frzF {d id ver n fz : Nat} {ex : Bool} {f : Nat → Nat} (hid : H[id]? = some (.row ver (fcells n f) fz ex)) (hb : bar ≤ id) :
    frz (d + 3) bar H (.vec id ver 0 n 1) = some (.lst 1 false (fcells n f), H.set id (.row ver (fcells n f) (max fz n) ex)) := by
  have e := frz_vec (d := d + 2) (bar := bar) (H := H) (id := id) (ver := ver) (off := 0) (len := n) (sz := 1) (cs := fcells n f) (fz := fz) (ex := ex) (xs := fcells n f)
    (H' := H.set id (.row ver (fcells n f) (max fz (0 + n * 1)) ex)) hid (by rw [fcells_length]; omega) hb (by
      rw [List.drop_zero, List.take_of_length_le (by rw [fcells_length]; omega), fcells_nats, plains nats_plain])
  rw [e]
  have := chunks_one (l := fcells n f)
  rw [fcells_length] at this
  rw [this]
  simp
theorem isL.f {n : Nat} {f : Nat → Nat} {ex : Bool} : isL (.lst 1 ex (fcells n f)) ((List.range n).map f) := by rw [fcells_nats]; exact .lst
end Go.Ab
end

section
namespace Go.Ab
variable {H : Heap} {bar base : Nat} {K : AV → Heap → List Nat → Prop}

def allL : List AV → List (List Nat) → Prop
  | [], [] => True
  | v :: vs, l :: ls => isL v l ∧ allL vs ls
  | _, _ => False
theorem allL.length : ∀ {vs : List AV} {ls : List (List Nat)}, allL vs ls → vs.length = ls.length
  | [], [], _ => rfl
  | _ :: _, _ :: _, h => by simp [allL.length h.2]
  | [], _ :: _, h => h.elim
  | _ :: _, [], h => h.elim
theorem allL.append : ∀ {vs ws : List AV} {ls ms : List (List Nat)}, allL vs ls → allL ws ms → allL (vs ++ ws) (ls ++ ms)
  | [], _, [], _, _, h => h
  | _ :: _, _, _ :: _, _, h, k => ⟨h.1, h.2.append k⟩
  | [], _, _ :: _, _, h, _ => h.elim
  | _ :: _, _, [], _, h, _ => h.elim
theorem allL.mem : ∀ {vs : List AV} {ls : List (List Nat)}, allL vs ls → ∀ v ∈ vs, ∃ l, isL v l
  | [], [], _, v, hv => by simp at hv
  | w :: _, _ :: _, h, v, hv => by
    rcases List.mem_cons.1 hv with rfl | hv
    · exact ⟨_, h.1⟩
    · exact h.2.mem v hv
  | [], _ :: _, h, _, _ => h.elim
  | _ :: _, [], h, _, _ => h.elim
theorem allL.plain {vs : List AV} {ls : List (List Nat)} (h : allL vs ls) : ∀ v ∈ vs, Plain v := fun v hv => by
  obtain ⟨l, hl⟩ := h.mem v hv; exact hl.plain
theorem allL.flat : ∀ {vs : List AV} {ls : List (List Nat)}, allL vs ls → vs.flatMap AV.cells = vs
  | [], [], _ => rfl
  | v :: vs, _ :: _, h => by simp only [List.flatMap_cons, h.1.cells, h.2.flat, List.singleton_append]
  | [], _ :: _, h => h.elim
  | _ :: _, [], h => h.elim
theorem allL.noVecs : ∀ {vs : List AV} {ls : List (List Nat)}, allL vs ls → AV.noVec.noVecs vs = true
  | [], [], _ => rfl
  | v :: vs, _ :: _, h => by simp only [AV.noVec.noVecs, h.1.noVec, h.2.noVecs, Bool.and_self]
  | [], _ :: _, h => h.elim
  | _ :: _, [], h => h.elim
theorem allL.tops {vs : List AV} {ls : List (List Nat)} (h : allL vs ls) : AV.top.tops vs = 0 := tops_zero fun v hv => by
  obtain ⟨l, hl⟩ := h.mem v hv; exact hl.top

/-- a value is a list of lists of numbers -/
def isLL (v : AV) (ls : List (List Nat)) : Prop := (v = .nils ∧ ls = []) ∨ ∃ ex vs, v = .lst 1 ex vs ∧ allL vs ls
theorem isLL.top {v : AV} {ls : List (List Nat)} (h : isLL v ls) : v.top = 0 := by
  rcases h with ⟨rfl, rfl⟩ | ⟨ex, vs, rfl, h⟩
  · rfl
  · exact h.tops
theorem isLL.frz {v : AV} {ls : List (List Nat)} (h : isLL v ls) {d : Nat} : frz (d + 1) bar H v = some (v, H) := by
  rcases h with ⟨rfl, rfl⟩ | ⟨ex, vs, rfl, h⟩ <;> rfl
theorem isLL.len {v : AV} {ls : List (List Nat)} (h : isLL v ls) : lenWp (some v) H K = K (.int .i64 (ls.length : Int)) H [] := by
  rcases h with ⟨rfl, rfl⟩ | ⟨ex, vs, rfl, h⟩
  · rfl
  · rw [lenWp_lst, h.length]
theorem isLL.out {vs : List AV} {ls : List (List Nat)} (h : allL vs ls) : isLL (outL 1 vs) ls := by
  unfold outL
  split
  · rename_i he
    subst he
    cases ls with
    | nil => exact .inl ⟨rfl, rfl⟩
    | cons a b => exact h.elim
  · refine .inr ⟨false, vs, ?_, h⟩
    rw [show vs.length / 1 = vs.length by omega, chunks_one]

/-- append to an empty list that was written out -/
theorem app_lst0 {bytes : Nat} {bv : AV} {b : List Nat} (h : isL bv b) (hlen : b.length * bytes ≤ 140737488355328)
    (h1 : b = [] → K (.lst 1 true []) H []) (h2 : b ≠ [] → K (.vec H.length 0 0 b.length 1) (H ++ [.row 0 (nats b) 0 false]) []) : appWp base bar 1 bytes (some (.lst 1 true [])) (some bv) H K := by
  have hfl : ∀ b : List Nat, (nats b).flatMap AV.cells = nats b := fun b => by
    induction b with
    | nil => rfl
    | cons x r ih => simp only [nats, List.map_cons, List.flatMap_cons, AV.cells] at ih ⊢; rw [ih]; rfl
  have e : asrc H 1 bv = some (nats b) := by
    rcases h with ⟨rfl, rfl⟩ | ⟨ex, rfl⟩
    · rfl
    · rw [asrc_lst, hfl]
  have e2 : AV.noVec.noVecs (nats b) = true := by
    clear h h1 h2 hfl e
    induction b with
    | nil => rfl
    | cons x r ih => simp only [nats, List.map_cons, AV.noVec.noVecs, AV.noVec, Bool.true_and]; exact ih (by simp at hlen; exact Nat.le_trans (Nat.mul_le_mul_right _ (Nat.le_succ _)) hlen)
  simp only [appWp, e, frzAll, frz.frzs]
  rw [plains (d := 6) nats_plain]
  simp only [e2, if_true]
  rw [if_neg (by simp)]
  simp only [aappend]
  by_cases hb : b = []
  · subst hb
    simp [nats]
    exact h1 rfl
  · have hne : nats b ≠ [] := by simpa [nats_eq_nil] using hb
    simp [nats_length, hb, hne, hlen]
    exact h2 hb

/-- append of nothing -/
theorem Own.app_nil {k sz bytes : Nat} {cells : List AV} {v : AV} (g : Own k sz cells v H) (hsz : 0 < sz) (hc : sz ∣ cells.length)
    (hlen : (cells.length / sz) * bytes ≤ 140737488355328) (h : K v H []) : appWp base bar sz bytes (some v) (some .nils) H K := by
  simp only [appWp, asrc, frzAll, frz.frzs, frzsW]
  rw [if_neg (by simp; omega)]
  rcases g with ⟨rfl, rfl⟩ | ⟨id, ver, fz, hne, hid, hfz, rfl, hrow⟩
  · simp [aappend, AV.noVec.noVecs]; exact h
  · obtain ⟨a, ha⟩ := hc
    have h1 : cells.length / sz * sz = cells.length := by rw [ha, Nat.mul_div_cancel_left _ hsz, Nat.mul_comm]
    simp only [aappend, if_neg (show ¬ sz ≠ sz by simp), hrow]
    rw [if_neg (by simp [h1]; omega)]
    simp [AV.noVec.noVecs]; exact h
end Go.Ab
end

section
namespace Go.Ab
open Go.RowKit Go.ChangeShapes Go.WideShapes
variable {H : Type} {enc : TypeId × Value → H} {P : Program} {W : World} {base : Nat} {spare : Nat → Bool} {held : Bool}

/-- cells of a type without references -/
def Sh (P : Program) : Nat → TypeId → List AV → Prop
  | 0, _, _ => False
  | n + 1, t, ys => match P.underlying t with
    | some .bool => ∃ b, ys = [.bool b]
    | some (.int k) => ∃ z, ys = [.int k z] ∧ (Lit.int k z).wf = true
    | some (.struct fs) => ys.length = P.cellsOf t ∧ ∀ f ∈ fs.toList, Sh P n f.type ((ys.drop f.offset).take (P.cellsOf f.type))
    | some (.array m e) => ys.length = P.cellsOf t ∧ ∀ i, i < m → Sh P n e ((ys.drop (i * P.cellsOf e)).take (P.cellsOf e))
    | _ => False

/-- fields lie one behind the other -/
def rowed (P : Program) : Nat → List Field → Nat → Bool
  | o, [], n => o == n
  | o, f :: r, n => f.offset == o && rowed P (o + P.cellsOf f.type) r n

def flatT (P : Program) : Nat → TypeId → Bool
  | 0, _ => false
  | n + 1, t => match P.underlying t with
    | some .bool => true
    | some (.int _) => true
    | some (.struct fs) => rowed P 0 fs.toList (P.cellsOf t) && fs.toList.all fun f => flatT P n f.type
    | some (.array m e) => P.cellsOf t == m * P.cellsOf e && flatT P n e
    | _ => false

/-- cell for cell -/
structure Cel (W : World) (ys : List AV) (cs : List Value) : Prop where
  len : ys.length = cs.length
  one : ∀ c ∈ ys, c.one = true
  vr : ∀ (i : Nat) (c : AV) (v : Value), ys[i]? = some c → cs[i]? = some v → VR (ctx0 W) c v

theorem Cel.nil : Cel W [] [] := ⟨rfl, fun _ h => by simp at h, fun i c v h => by simp at h⟩
theorem Cel.single {c : AV} {v : Value} (h1 : c.one = true) (h : VR (ctx0 W) c v) : Cel W [c] [v] := ⟨rfl, fun x hx => by simp at hx; subst hx; exact h1, fun i x u hx hu => by
  cases i with
  | zero => simp at hx hu; subst hx; subst hu; exact h
  | succ i => simp at hx⟩
theorem Cel.append {ys zs : List AV} {cs ds : List Value} (h : Cel W ys cs) (k : Cel W zs ds) : Cel W (ys ++ zs) (cs ++ ds) where
  len := by simp [h.len, k.len]
  one c hc := by
    rcases List.mem_append.1 hc with hc | hc
    · exact h.one c hc
    · exact k.one c hc
  vr i c v hc hv := by
    by_cases hi : i < ys.length
    · rw [List.getElem?_append_left hi] at hc
      rw [List.getElem?_append_left (by rw [← h.len]; exact hi)] at hv
      exact h.vr i c v hc hv
    · rw [List.getElem?_append_right (by omega)] at hc
      rw [List.getElem?_append_right (by rw [← h.len]; omega)] at hv
      rw [← h.len] at hv
      exact k.vr _ c v hc hv

theorem flat_cel : ∀ (n : Nat) (t : TypeId), flatT P n t = true → ∀ (fuel : Nat) (cs : List Value) (x : DataW H × List MemPlace), DataW.trod enc P W base spare held fuel t cs = some x → ∃ ys, Sh P n t ys ∧ Cel W ys cs
  | 0, _, h => by simp [flatT] at h
  | n + 1, t, hflat => fun fuel cs x h => by
    unfold flatT at hflat
    unfold Sh
    cases ht : P.underlying t with
    | none => simp [ht] at hflat
    | some u =>
      cases u with
      | bool =>
        obtain ⟨b, rfl, _⟩ := DataW.trod_bool ht h
        exact ⟨[.bool b], ⟨b, rfl⟩, Cel.single rfl (.bool b)⟩
      | int k =>
        obtain ⟨z, rfl, _, hw⟩ := DataW.trod_int ht h
        exact ⟨[.int k z], ⟨z, rfl, hw⟩, Cel.single rfl (.int k z)⟩
      | struct fs =>
        simp only [ht, Bool.and_eq_true, List.all_eq_true] at hflat ⊢
        obtain ⟨hr, hall⟩ := hflat
        obtain ⟨xs, m, _, _, hl, hxl, hx⟩ := DataW.trod_struct ht h
        have each : ∀ f ∈ fs.toList, ∃ ys, Sh P n f.type ys ∧ Cel W ys ((cs.drop f.offset).take (P.cellsOf f.type)) := fun f hf => by
          obtain ⟨i, hi⟩ := List.getElem?_of_mem hf
          have hi' : fs[i]? = some f := by simpa using hi
          have := hx i f hi'
          have hlt : i < xs.length := by rw [hxl]; exact (Array.getElem?_eq_some_iff.1 hi').1
          rw [List.getElem?_eq_getElem hlt] at this
          exact flat_cel n f.type (hall f hf) _ _ _ this
        have build : ∀ (l : List Field) (o : Nat), rowed P o l (P.cellsOf t) = true → (∀ f ∈ l, ∃ ys, Sh P n f.type ys ∧ Cel W ys ((cs.drop f.offset).take (P.cellsOf f.type))) → o ≤ P.cellsOf t →
            ∃ ys, Cel W ys (cs.drop o) ∧ ∀ f ∈ l, o ≤ f.offset ∧ Sh P n f.type ((ys.drop (f.offset - o)).take (P.cellsOf f.type)) := by
          intro l
          induction l with
          | nil =>
            intro o ho _ _
            simp only [rowed, beq_iff_eq] at ho
            refine ⟨[], ?_, fun f hf => by simp at hf⟩
            rw [List.drop_eq_nil_of_le (by omega)]
            exact .nil
          | cons f r ih =>
            intro o ho hall2 hle
            simp only [rowed, Bool.and_eq_true, beq_iff_eq] at ho
            obtain ⟨rfl, ho⟩ := ho
            have bound : ∀ (l : List Field) (o : Nat), rowed P o l (P.cellsOf t) = true → o ≤ P.cellsOf t := by
              intro l
              induction l with
              | nil => intro o ho; simp only [rowed, beq_iff_eq] at ho; omega
              | cons f r ih => intro o ho; simp only [rowed, Bool.and_eq_true] at ho; have := ih _ ho.2; omega
            have hb := bound r _ ho
            obtain ⟨ys, h1, h2⟩ := hall2 f (List.mem_cons_self ..)
            obtain ⟨zs, k1, k2⟩ := ih _ ho (fun g hg => hall2 g (List.mem_cons_of_mem _ hg)) hb
            have hyl : ys.length = P.cellsOf f.type := by rw [h2.len]; simp; omega
            refine ⟨ys ++ zs, ?_, fun g hg => ?_⟩
            · have e : cs.drop f.offset = (cs.drop f.offset).take (P.cellsOf f.type) ++ cs.drop (f.offset + P.cellsOf f.type) := by
                rw [← List.drop_drop, List.take_append_drop]
              rw [e]; exact h2.append k1
            · rcases List.mem_cons.1 hg with rfl | hg
              · refine ⟨Nat.le_refl _, ?_⟩
                rw [Nat.sub_self, List.drop_zero, List.take_append_of_le_length (by omega), List.take_of_length_le (by omega)]
                exact h1
              · obtain ⟨k3, k4⟩ := k2 g hg
                refine ⟨by omega, ?_⟩
                rw [List.drop_append, List.drop_eq_nil_of_le (by omega), List.nil_append, hyl, show g.offset - f.offset - P.cellsOf f.type = g.offset - (f.offset + P.cellsOf f.type) by omega]
                exact k4
        obtain ⟨ys, h1, h2⟩ := build fs.toList 0 hr each (Nat.zero_le _)
        rw [List.drop_zero] at h1
        refine ⟨ys, ⟨by rw [h1.len, hl], fun f hf => ?_⟩, h1⟩
        have := (h2 f hf).2
        simpa using this
      | array m e =>
        simp only [ht, Bool.and_eq_true, beq_iff_eq] at hflat ⊢
        obtain ⟨hsz, he⟩ := hflat
        obtain ⟨xs, k, _, _, hl, hxl, hx⟩ := DataW.trod_array ht h
        have each : ∀ i, i < m → ∃ ys, Sh P n e ys ∧ Cel W ys ((cs.drop (i * P.cellsOf e)).take (P.cellsOf e)) := fun i hi => by
          have := hx i hi
          rw [List.getElem?_eq_getElem (by omega)] at this
          exact flat_cel n e he _ _ _ this
        have build : ∀ j, j ≤ m → ∃ ys, Cel W ys (cs.take (j * P.cellsOf e)) ∧ ∀ i, i < j → Sh P n e ((ys.drop (i * P.cellsOf e)).take (P.cellsOf e)) := by
          intro j
          induction j with
          | zero => intro _; exact ⟨[], by simpa using Cel.nil, fun i hi => by omega⟩
          | succ j ih =>
            intro hj
            obtain ⟨ys, h1, h2⟩ := ih (by omega)
            obtain ⟨zs, k1, k2⟩ := each j (by omega)
            have hle : (j + 1) * P.cellsOf e ≤ m * P.cellsOf e := Nat.mul_le_mul_right _ hj
            have hj1 : (j + 1) * P.cellsOf e = j * P.cellsOf e + P.cellsOf e := Nat.succ_mul ..
            have hyl : ys.length = j * P.cellsOf e := by rw [h1.len]; simp; omega
            have hzl : zs.length = P.cellsOf e := by rw [k2.len]; simp; omega
            refine ⟨ys ++ zs, ?_, fun i hi => ?_⟩
            · rw [hj1, List.take_add]
              exact h1.append k2
            · by_cases hij : i < j
              · have hle2 : (i + 1) * P.cellsOf e ≤ j * P.cellsOf e := Nat.mul_le_mul_right _ hij
                have hi1 : (i + 1) * P.cellsOf e = i * P.cellsOf e + P.cellsOf e := Nat.succ_mul ..
                rw [List.drop_append_of_le_length (by omega), List.take_append_of_le_length (by simp; omega)]
                exact h2 i hij
              · obtain rfl : i = j := by omega
                rw [← hyl, List.drop_left, List.take_of_length_le (by omega)]
                exact k1
        obtain ⟨ys, h1, h2⟩ := build m (Nat.le_refl _)
        rw [← hsz, ← hl, List.take_length] at h1
        exact ⟨ys, ⟨by rw [h1.len, hl, hsz], h2⟩, h1⟩
      | _ => simp [ht] at hflat

def wrapA (P : Program) (e : TypeId) (ys : List AV) : AV :=
  match P.underlying e with
  | some (.struct _) | some (.array _ _) => .agg ys
  | _ => ys.headD default

theorem flat_cells {n : Nat} {e : TypeId} {ys : List AV} (h : Sh P n e ys) (hf : flatT P n e = true) : (wrapA P e ys).cells = ys := by
  cases n with
  | zero => simp [Sh] at h
  | succ n =>
    unfold Sh at h
    unfold wrapA
    cases ht : P.underlying e with
    | none => simp [ht] at h
    | some u =>
      cases u with
      | bool => simp only [ht] at h; obtain ⟨b, rfl⟩ := h; rfl
      | int k => simp only [ht] at h; obtain ⟨b, rfl, _⟩ := h; rfl
      | struct fs => rfl
      | array m e => rfl
      | _ => simp [ht] at h

/-- a slice of such a type -/
theorem slice_vr {n : Nat} {t e : TypeId} {v : Value} {fuel : Nat} {x : DataW H × List MemPlace} (ht : P.underlying t = some (.slice e)) (hf : flatT P n e = true)
    (h : DataW.trod enc P W 0 spare held fuel t [v] = some x) {r : Reach} {b0 : Nat} (hok : Cell.okWide P W r b0 t v) :
    ∃ q, VR (ctx0 W) q v ∧ q.one = true ∧ (q = .nils ∨ ∃ xs, q = .lst (P.cellsOf e) false xs ∧ ∀ x ∈ xs, ∃ ys, x = wrapA P e ys ∧ Sh P n e ys) := by
  rcases DataW.trod_slice ht h with ⟨h1, _⟩ | ⟨a, len, cap, elems, rest, k, rfl, h1, h2, h3, h4, h5, h6, h7, h8⟩
  · simp only [List.cons.injEq, and_true] at h1
    subst h1
    exact ⟨.nils, .nils, rfl, .inl rfl⟩
  · simp only [List.cons.injEq, and_true] at h1
    subst h1
    have hs : a.spot = none := by
      unfold Cell.okWide at hok
      rw [ht] at hok
      simp only at hok
      unfold Cell.ok at hok
      rw [ht] at hok
      exact hok.2.2.2.1
    obtain ⟨b, o, sp⟩ := a
    simp only at hs
    subst hs
    have each : ∀ i, i < len → ∃ ys : List AV, Sh P n e ys ∧ ys.length = P.cellsOf e ∧ (∀ c ∈ ys, c.one = true) ∧ ∀ j c, ys[j]? = some c → ∃ u, W.cell? ⟨b, o + i * P.cellsOf e + j, none⟩ = some u ∧ VR (ctx0 W) c u := fun i hi => by
      have hbind := h7 i hi
      rw [List.getElem?_eq_getElem (by omega)] at hbind
      simp only [Option.bind_eq_some_iff] at hbind
      obtain ⟨cs, hc1, hc2⟩ := hbind
      obtain ⟨_, hlen, hcell⟩ := World.cells?_some hc1
      obtain ⟨ys, g1, g2⟩ := flat_cel (W := W) n e hf _ _ _ hc2
      refine ⟨ys, g1, by rw [g2.len, hlen], g2.one, fun j c hj => ?_⟩
      have hjl : j < cs.length := by rw [← g2.len]; exact (List.getElem?_eq_some_iff.1 hj).1
      refine ⟨cs[j], ?_, g2.vr j c _ hj (List.getElem?_eq_getElem hjl)⟩
      have := hcell j (by omega)
      rw [List.getElem?_eq_getElem hjl] at this
      have e1 : ∀ (b o n : Nat), (⟨b, o, none⟩ : Addr).add n = ⟨b, o + n, none⟩ := fun b o n => by
        unfold Addr.add
        split <;> simp_all
      rw [e1, e1] at this
      exact this
    obtain ⟨Y, hY⟩ := Go.Deep.choose_lt each
    let xs : List AV := (List.range len).map fun i => wrapA P e (Y i)
    have hxl : xs.length = len := by simp [xs]
    have hxi : ∀ i y, xs[i]? = some y → i < len ∧ y = wrapA P e (Y i) := fun i y hy => by
      have hlt : i < xs.length := (List.getElem?_eq_some_iff.1 hy).1
      rw [List.getElem?_eq_getElem hlt] at hy
      refine ⟨by omega, ?_⟩
      simp [xs] at hy
      exact hy.symm
    refine ⟨.lst (P.cellsOf e) false xs, ?_, rfl, .inr ⟨xs, rfl, fun y hy => ?_⟩⟩
    · have hv := VR.lst (Γ := ctx0 W) (P.cellsOf e) false xs b o cap (fun i j => (W.cell? ⟨b, o + i * P.cellsOf e + j, none⟩).getD default) (by omega) (by simp) (fun y hy => by
          obtain ⟨i, hi⟩ := List.getElem?_of_mem hy
          obtain ⟨hlt, rfl⟩ := hxi i y hi
          obtain ⟨g1, g2, g3, _⟩ := hY i hlt
          rw [flat_cells g1 hf]
          exact ⟨g2, g3⟩) (fun i y j c hy hc => by
          obtain ⟨hlt, rfl⟩ := hxi i y hy
          obtain ⟨g1, g2, g3, g4⟩ := hY i hlt
          rw [flat_cells g1 hf] at hc
          obtain ⟨u, hu, _⟩ := g4 j c hc
          refine ⟨?_, ?_⟩
          · show W.cell? _ = _
            rw [hu]; rfl
          · show b < W.heap.size
            unfold World.cell? at hu
            split at hu
            · rename_i hh; exact (Array.getElem?_eq_some_iff.1 hh).1
            · cases hu) (fun i y j c hy hc => by
          obtain ⟨hlt, rfl⟩ := hxi i y hy
          obtain ⟨g1, g2, g3, g4⟩ := hY i hlt
          rw [flat_cells g1 hf] at hc
          obtain ⟨u, hu, hvr⟩ := g4 j c hc
          simp only [hu, Option.getD_some]
          exact hvr)
      rw [hxl] at hv
      exact hv
    · obtain ⟨i, hi⟩ := List.getElem?_of_mem hy
      obtain ⟨hlt, rfl⟩ := hxi i y hi
      exact ⟨Y i, rfl, (hY i hlt).1⟩
end Go.Ab
end

section
namespace Go.Ab
open Go.RowKit Go.ChangeShapes Go.WideShapes
variable {H : Type} {enc : TypeId × Value → H} {P : Program} {W W' : World} {base : Nat} {spare : Nat → Bool} {held : Bool}

theorem pairs_of : ∀ {xs : List AV}, (∀ x ∈ xs, ∃ a b : Int, x = .agg [.int .i64 a, .int .i64 b]) → ∃ l, xs = prA l
  | [], _ => ⟨[], rfl⟩
  | x :: r, h => by
    obtain ⟨a, b, rfl⟩ := h x (List.mem_cons_self ..)
    obtain ⟨l, rfl⟩ := pairs_of fun y hy => h y (List.mem_cons_of_mem _ hy)
    exact ⟨(a, b) :: l, rfl⟩

/-- an array of two numbers -/
theorem sh_pair {n : Nat} {e ei : TypeId} {ys : List AV} (he : P.underlying e = some (.array 2 ei)) (hi : P.underlying ei = some (.int .i64)) (ce : P.cellsOf e = 2) (ci : P.cellsOf ei = 1) (h : Sh P (n + 2) e ys) :
    ∃ a b : Int, ys = [.int .i64 a, .int .i64 b] := by
  unfold Sh at h
  rw [he] at h
  obtain ⟨hl, h⟩ := h
  have h0 := h 0 (by omega)
  have h1 := h 1 (by omega)
  rw [ci] at h0 h1
  unfold Sh at h0 h1
  rw [hi] at h0 h1
  obtain ⟨a, h0, _⟩ := h0
  obtain ⟨b, h1, _⟩ := h1
  rw [ce] at hl
  match ys, hl with
  | [x, y], _ =>
    simp at h0 h1
    exact ⟨a, b, by rw [h0, h1]⟩

theorem house_vr {t e ei : TypeId} {f0 f1 : Field} {v : Value} {d : DataW H} {ps : List MemPlace} {r : Reach} {b0 : Nat}
    (ht : P.underlying t = some (.struct #[f0, f1])) (o0 : f0.offset = 0) (o1 : f1.offset = 1) (c0 : P.cellsOf f0.type = 1) (c1 : P.cellsOf f1.type = 1) (ct : P.cellsOf t = 2)
    (h0 : P.underlying f0.type = some (.int .i64)) (h1 : P.underlying f1.type = some (.slice e)) (he : P.underlying e = some (.array 2 ei)) (hi : P.underlying ei = some (.int .i64)) (ce : P.cellsOf e = 2) (ci : P.cellsOf ei = 1)
    (hct : P.cellTypes P.depth t = some [f0.type, f1.type]) (hval : Value.okWide P W r b0 t v) (hd : DataW.Trod enc P W 0 spare held t v d ps) :
    ∃ n q l, VR (ctx0 W) (.agg [.int .i64 n, q]) v ∧ isP q l := by
  unfold Value.okWide at hval
  rw [ht] at hval
  obtain ⟨cs, rfl, hcs, ts, hts, _, hcell⟩ := hval
  rw [hct] at hts
  cases hts
  obtain ⟨fuel, hd⟩ := hd
  obtain ⟨xs, m, _, _, hl, hxl, hx⟩ := DataW.trod_struct ht hd
  have g0 := hx 0 f0 rfl
  have g1 := hx 1 f1 rfl
  have hxl2 : xs.length = 2 := hxl
  rw [List.getElem?_eq_getElem (by omega), o0, c0] at g0
  rw [List.getElem?_eq_getElem (by omega), o1, c1] at g1
  have hl2 : cs.toList.length = 2 := by simpa [ct] using hcs
  obtain ⟨u0, u1, hu⟩ : ∃ u0 u1, cs.toList = [u0, u1] := by
    match cs.toList, hl2 with
    | [a, b], _ => exact ⟨a, b, rfl⟩
  have hcl : (Value.agg cs).cells = cs := rfl
  rw [hcl, hu] at g0 g1
  simp at g0 g1
  obtain ⟨n, hn, _⟩ := DataW.trod_int h0 g0
  simp at hn
  subst hn
  have hcs1 : cs[1]? = some u1 := by
    have : cs.toList[1]? = some u1 := by rw [hu]; rfl
    simpa using this
  obtain ⟨u, hu1, hok⟩ := hcell 1 u1 hcs1
  simp at hu1
  subst hu1
  have hf : flatT P 2 e = true := by
    unfold flatT; rw [he]; simp only [ce, ci]; unfold flatT; rw [hi]; rfl
  obtain ⟨q, q1, q2, q3⟩ := slice_vr (n := 2) h1 hf g1 hok
  have hP : ∃ l, isP q l := by
    rcases q3 with rfl | ⟨xs, rfl, hxs⟩
    · exact ⟨[], .nil⟩
    · obtain ⟨l, rfl⟩ := pairs_of (xs := xs) fun x hx => by
        obtain ⟨ys, rfl, hs⟩ := hxs x hx
        obtain ⟨a, b, rfl⟩ := sh_pair (n := 0) he hi ce ci hs
        exact ⟨a, b, by unfold wrapA; rw [he]⟩
      rw [ce]
      exact ⟨l, .lst⟩
  obtain ⟨l, hP⟩ := hP
  refine ⟨n, q, l, ?_, hP⟩
  have e : cs = #[.int .i64 n, u1] := by
    apply Array.toList_inj.1
    rw [hu]
  subst e
  refine .agg [.int .i64 n, q] #[.int .i64 n, u1] rfl (fun c hc => ?_) fun i c v hc hv => ?_
  · simp at hc
    rcases hc with rfl | rfl
    · rfl
    · exact q2
  · match i with
    | 0 => simp at hc hv; subst hc; subst hv; exact .int _ _
    | 1 => simp at hc hv; subst hc; subst hv; exact q1
    | i + 2 => simp at hc

/-- what was there is read again -/
theorem trodAll_stays (hl : laidOutB P = true) (hb : Below W.heap.size W W') {sp : Nat → Bool} : ∀ {ts : List TypeId} {vs : List Value} {ds : List (DataW H)} {ps : List MemPlace},
    (∀ t ∈ ts, P.readableRec t = true ∧ t < P.types.size) → DataW.TrodAll enc P W 0 (fun _ => true) true ts vs ds ps → (∀ x ∈ ps, x.block < W.heap.size) → (∀ x ∈ ps, sp x.block = true) →
    DataW.TrodAll enc P W' 0 sp true ts vs ds ps
  | [], [], [], ps, _, h, _, _ => h
  | t :: ts, v :: vs, d :: ds, ps, hr, h, hlt, hsp => by
    obtain ⟨p, q, h1, h2, rfl⟩ := h
    refine ⟨p, q, ?_, trodAll_stays hl hb (fun t ht => hr t (List.mem_cons_of_mem _ ht)) h2 (fun x hx => hlt x (List.mem_append_right _ hx)) (fun x hx => hsp x (List.mem_append_right _ hx)), rfl⟩
    have := hr t (List.mem_cons_self ..)
    exact WideElems.Trod_stays hl this.1 this.2 h1 (fun x hx => hb.same (hlt x (List.mem_append_left _ hx))) (fun x hx => hsp x (List.mem_append_left _ hx))
  | [], _ :: _, _, _, _, h, _, _ => h.elim
  | [], [], _ :: _, _, _, h, _, _ => h.elim
  | _ :: _, [], _, _, _, h, _, _ => h.elim
  | _ :: _, _ :: _, [], _, _, h, _, _ => h.elim
end Go.Ab
end

section
namespace Go.Ab
variable {base bar : Nat} {H : Heap} {K : AV → Heap → List Nat → Prop}
theorem Own.pair {k bytes : Nat} {l : List ZZ} {v : AV} {ex : Bool} {p : ZZ} (g : Own k 2 (prs l) v H) (hk : k ≤ H.length) (hb : bar ≤ k) (hbase : base ≤ k) (hlen : (l.length + 1) * bytes ≤ 140737488355328)
    (h : ∀ v' H' tc, Own k 2 (prs (l ++ [p])) v' H' → Kept1 v v' H H' tc → K v' H' tc) : appWp base bar 2 bytes (some v) (some (.lst 2 ex [.agg [.int .i64 p.1, .int .i64 p.2]])) H K := by
  have e : [AV.agg [AV.int .i64 p.1, AV.int .i64 p.2]].flatMap AV.cells = prs [p] := by simp [prs, zc, AV.cells]
  refine g.app hk (by decide) ?_ ?_ ?_ ?_ hb hbase ?_ fun v' H' tc g' kp => h v' H' tc (by rw [e, ← prs_append] at g'; exact g') kp
  · rw [prs_length]; exact Nat.dvd_mul_right ..
  · rw [e]; exact prs_plain
  · rw [e]; simp [prs, zc, AV.noVec.noVecs, AV.noVec]
  · rw [e, prs_length]; exact Nat.dvd_mul_right ..
  · rw [e, ← prs_append, prs_length, List.length_append, Nat.mul_div_cancel_left _ (by decide)]; exact hlen
end Go.Ab
end

