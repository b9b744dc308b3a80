/- Laws of binary64's operations for all words: commuted, negated, NaN in NaN out, and what goes in the same comes out the same. No conditions but that words are below 2^64. -/
import Derived.Test.YtmfmgofafamemaaFlRel
namespace Fl
open Ieee

theorem neg_lt (x : Nat) (h : x < 2 ^ 64) : neg x < 2 ^ 64 := by unfold neg; split <;> omega
theorem neg_neg (x : Nat) (h : x < 2 ^ 64) : neg (neg x) = x := by unfold neg; split <;> split <;> omega
theorem rg_neg (x : Nat) (h : x < 2 ^ 64) : rg (neg x) = rg x := by unfold neg rg; split <;> omega
theorem sg_neg (x : Nat) (h : x < 2 ^ 64) : sg (neg x) = !sg x := by
  unfold neg sg
  split
  · have a : x / 2 ^ 63 = 0 := by omega
    have b : (x + 2 ^ 63) / 2 ^ 63 = 1 := by omega
    rw [a, b]; decide
  · have a : x / 2 ^ 63 = 1 := by omega
    have b : (x - 2 ^ 63) / 2 ^ 63 = 0 := by omega
    rw [a, b]; decide
theorem neg_wd (s : Bool) (r : Nat) (h : r < 2 ^ 63) : neg (wd s r) = wd (!s) r := by
  cases s
  · have a : wd false r = r := rfl
    have b : wd (!false) r = 2 ^ 63 + r := rfl
    rw [a, b]; unfold neg; rw [if_pos h]; omega
  · have a : wd true r = 2 ^ 63 + r := rfl
    have b : wd (!true) r = r := rfl
    rw [a, b]; unfold neg; rw [if_neg (by omega)]; omega
theorem isNan_neg (x : Nat) (h : x < 2 ^ 64) : isNan (neg x) ↔ isNan x := by unfold isNan; rw [rg_neg x h]
theorem fin_neg (x : Nat) (h : x < 2 ^ 64) : fin (neg x) ↔ fin x := by unfold fin; rw [rg_neg x h]

theorem cases3 (x : Nat) : fin x ∨ rg x = INF ∨ isNan x := by unfold fin isNan; omega

theorem read_neg (x : Nat) (h : x < 2 ^ 64) : D.read (neg x) = (D.read x).opposite := by
  have e1 : neg x % 2 ^ 63 = x % 2 ^ 63 := rg_neg x h
  have e2 : (neg x / 2 ^ 63 % 2 == 1) = !(x / 2 ^ 63 % 2 == 1) := sg_neg x h
  unfold Format.read
  simp only
  rw [signWeight_eq, e1, e2]
  split
  · rfl
  · split
    · rfl
    · split <;> rfl

theorem sub_eq (x y : Nat) (h : y < 2 ^ 64) : D.sub x y = D.add x (neg y) := by
  unfold Format.sub Format.add; rw [read_neg y h]

theorem sum_comm (a b : Datum) : a.sum b = b.sum a := by
  cases a <;> cases b <;> simp only [Datum.sum]
  · rw [Int.min_comm]; rw [Int.add_comm, Bool.and_comm]
  · rename_i s t
    by_cases h : s = t
    · subst h; rfl
    · rw [if_neg h, if_neg (fun e => h e.symm)]

theorem product_comm (a b : Datum) : a.product b = b.product a := by
  cases a <;> cases b <;> simp only [Datum.product]
  · rw [Nat.mul_comm, Int.add_comm, Bool.xor_comm]
  all_goals rw [Bool.xor_comm]

theorem add_comm (x y : Nat) : D.add x y = D.add y x := by unfold Format.add; rw [sum_comm]
theorem mul_comm (x y : Nat) : D.mul x y = D.mul y x := by unfold Format.mul; rw [product_comm]

/-- a NaN goes in: none comes out. -/
theorem add_nan (x y : Nat) (h : isNan x ∨ isNan y) : D.add x y = none := by
  unfold Format.add
  rcases h with h | h
  · obtain ⟨t, e⟩ := read_nan x h; rw [e]; rfl
  · obtain ⟨t, e⟩ := read_nan y h; rw [e]; cases D.read x <;> rfl
theorem mul_nan (x y : Nat) (h : isNan x ∨ isNan y) : D.mul x y = none := by
  unfold Format.mul
  rcases h with h | h
  · obtain ⟨t, e⟩ := read_nan x h; rw [e]; rfl
  · obtain ⟨t, e⟩ := read_nan y h; rw [e]; cases D.read x <;> rfl
theorem div_nan (x y : Nat) (h : isNan x ∨ isNan y) : D.div x y = none := by
  unfold Format.div
  rcases h with h | h
  · obtain ⟨t, e⟩ := read_nan x h; rw [e]; rfl
  · obtain ⟨t, e⟩ := read_nan y h; rw [e]; cases D.read x <;> rfl
theorem sub_nan (x y : Nat) (h : isNan x ∨ isNan y) : D.sub x y = none := by
  unfold Format.sub
  rcases h with h | h
  · obtain ⟨t, e⟩ := read_nan x h; rw [e]; rfl
  · obtain ⟨t, e⟩ := read_nan y h; rw [e]; cases D.read x <;> rfl

theorem Res.nan {o : Option Nat} {r : Nat} (h : Res o r) (ho : o = none) : isNan r := by subst ho; exact h.1
theorem Res.eq {o : Option Nat} {r q : Nat} (h : Res o r) (ho : o = some q) : r = q := by subst ho; exact h

theorem FAdd.lt {x y r : Nat} (h : FAdd x y r) : r < 2 ^ 64 := by
  unfold FAdd at h
  cases e : D.add x y with
  | none => rw [e] at h; exact h.2
  | some q => rw [e] at h; have := Format.add_lt D e; cases h; exact this
theorem FSub.lt {x y r : Nat} (h : FSub x y r) : r < 2 ^ 64 := by
  unfold FSub at h
  cases e : D.sub x y with
  | none => rw [e] at h; exact h.2
  | some q => rw [e] at h; have := Format.sub_lt D e; cases h; exact this
theorem FMul.lt {x y r : Nat} (h : FMul x y r) : r < 2 ^ 64 := by
  unfold FMul at h
  cases e : D.mul x y with
  | none => rw [e] at h; exact h.2
  | some q => rw [e] at h; have := Format.mul_lt D e; cases h; exact this
theorem FDiv.lt {x y r : Nat} (h : FDiv x y r) : r < 2 ^ 64 := by
  unfold FDiv at h
  cases e : D.div x y with
  | none => rw [e] at h; exact h.2
  | some q => rw [e] at h; have := Format.div_lt D e; cases h; exact this

/-! ### what goes in the same comes out the same -/
theorem Same.refl (x : Nat) : Same x x := .inl rfl
theorem Same.symm {x y : Nat} (h : Same x y) : Same y x := by
  rcases h with h | h
  · exact .inl h.symm
  · exact .inr ⟨h.2, h.1⟩
theorem Same.trans {x y z : Nat} (h : Same x y) (g : Same y z) : Same x z := by
  rcases h with rfl | h
  · exact g
  · rcases g with rfl | g
    · exact .inr h
    · exact .inr ⟨h.1, g.2⟩

/-- two answers of one operation are the same. -/
theorem Res.same {o : Option Nat} {r r' : Nat} (h : Res o r) (g : Res o r') : Same r r' := by
  cases o with
  | none => exact .inr ⟨h.1, g.1⟩
  | some q => left; cases h; exact g.symm

theorem cong2 {f : Nat → Nat → Option Nat} (hn : ∀ x y, isNan x ∨ isNan y → f x y = none) {x y r x' y' r' : Nat}
    (h : Res (f x y) r) (g : Res (f x' y') r') (hx : Same x x') (hy : Same y y') : Same r r' := by
  rcases hx with rfl | hx
  · rcases hy with rfl | hy
    · exact h.same g
    · exact .inr ⟨h.nan (hn _ _ (.inr hy.1)), g.nan (hn _ _ (.inr hy.2))⟩
  · exact .inr ⟨h.nan (hn _ _ (.inl hx.1)), g.nan (hn _ _ (.inl hx.2))⟩

theorem FAdd.cong {x y r x' y' r' : Nat} (h : FAdd x y r) (g : FAdd x' y' r') (hx : Same x x') (hy : Same y y') : Same r r' := cong2 add_nan h g hx hy
theorem FSub.cong {x y r x' y' r' : Nat} (h : FSub x y r) (g : FSub x' y' r') (hx : Same x x') (hy : Same y y') : Same r r' := cong2 sub_nan h g hx hy
theorem FMul.cong {x y r x' y' r' : Nat} (h : FMul x y r) (g : FMul x' y' r') (hx : Same x x') (hy : Same y y') : Same r r' := cong2 mul_nan h g hx hy
theorem FDiv.cong {x y r x' y' r' : Nat} (h : FDiv x y r) (g : FDiv x' y' r') (hx : Same x x') (hy : Same y y') : Same r r' := cong2 div_nan h g hx hy
theorem FAdd.comm {x y r : Nat} (h : FAdd x y r) : FAdd y x r := by unfold FAdd at *; rwa [add_comm]
theorem FMul.comm {x y r : Nat} (h : FMul x y r) : FMul y x r := by unfold FMul at *; rwa [mul_comm]

theorem Same.neg {x y : Nat} (hx : x < 2 ^ 64) (hy : y < 2 ^ 64) (h : Same x y) : Same (neg x) (neg y) := by
  rcases h with rfl | h
  · exact .inl rfl
  · exact .inr ⟨(isNan_neg x hx).2 h.1, (isNan_neg y hy).2 h.2⟩

/-! ### the same, but for the signs of noughts -/
def Lk (x y : Nat) : Prop := Same x y ∨ (rg x = 0 ∧ rg y = 0)
theorem Same.lk {x y : Nat} (h : Same x y) : Lk x y := .inl h

theorem sum_opposite (a b : Datum) : (∃ s m p, a.sum b = some (.number s m p) ∧ ∃ s', a.opposite.sum b.opposite = some (.number s' m p) ∧ (m ≠ 0 → s' = !s)) ∨
    (∃ s, a.sum b = some (.infinity s) ∧ a.opposite.sum b.opposite = some (.infinity !s)) ∨ (a.sum b = none ∧ a.opposite.sum b.opposite = none) := by
  cases a with
  | nan s t => exact .inr (.inr ⟨rfl, rfl⟩)
  | infinity s =>
    cases b with
    | nan t u => exact .inr (.inr ⟨rfl, rfl⟩)
    | number t n j => exact .inr (.inl ⟨_, rfl, rfl⟩)
    | infinity t =>
      simp only [Datum.sum, Datum.opposite]
      by_cases h : s = t
      · subst h; exact .inr (.inl ⟨s, by simp, by simp⟩)
      · right; right
        have : ¬ (!s) = !t := by simpa using h
        exact ⟨if_neg h, if_neg this⟩
  | number s m i =>
    cases b with
    | nan t u => exact .inr (.inr ⟨rfl, rfl⟩)
    | infinity t => exact .inr (.inl ⟨_, rfl, rfl⟩)
    | number t n j =>
      simp only [Datum.sum, Datum.opposite]
      left
      refine ⟨_, _, _, rfl, ?_⟩
      have key : ∀ (s : Bool) (m u : Nat), signed (!s) m u = - signed s m u := by
        intro s m u; unfold signed; cases s <;> simp
      rw [key, key, ← Int.neg_add]
      generalize signed s m _ + signed t n _ = T
      refine ⟨_, by rw [Int.natAbs_neg], ?_⟩
      intro hT
      have h0 : T ≠ 0 := by intro h; subst h; exact hT rfl
      have h0' : - T ≠ 0 := by omega
      rw [if_neg h0, if_neg h0']
      by_cases c : T < 0
      · have : ¬ (-T < 0) := by omega
        rw [decide_eq_true c, decide_eq_false this]; rfl
      · have : -T < 0 := by omega
        rw [decide_eq_false c, decide_eq_true this]; rfl

theorem INF_word : D.infRung = INF := by decide

theorem rq_lt (n d : Nat) : rq n d < 2 ^ 63 := Nat.lt_of_le_of_lt (rq_le n d) INF_lt

theorem FAdd.neg_lk {x y r r' : Nat} (hx : x < 2 ^ 64) (hy : y < 2 ^ 64) (h : FAdd x y r) (g : FAdd (neg x) (neg y) r') : Lk (neg r) r' := by
  have hr := h.lt
  unfold FAdd Format.add at h g
  rw [read_neg x hx, read_neg y hy] at g
  rcases sum_opposite (D.read x) (D.read y) with ⟨s, m, p, e, s', e', hs⟩ | ⟨s, e, e'⟩ | ⟨e, e'⟩
  · rw [e] at h; rw [e'] at g
    simp only [Option.map_some, Format.write, Res, nearest_wd] at h g
    subst h; subst g
    by_cases hm : m = 0
    · right
      subst hm
      have z : rq (0 * 2 ^ (p + 1074).toNat) (2 ^ (-1074 - p).toNat) = 0 := by unfold rq; rw [Nat.zero_mul, rungQ_zero, Nat.zero_min]
      rw [rg_neg _ (wd_lt _ _ (rq_lt _ _)), rg_wd _ _ (rq_lt _ _), rg_wd _ _ (rq_lt _ _), z]
      exact ⟨rfl, rfl⟩
    · left; left
      rw [neg_wd _ _ (rq_lt _ _), hs hm]
  · rw [e] at h; rw [e'] at g
    simp only [Option.map_some, Format.write, Res, word_eq, INF_word] at h g
    subst h; subst g
    left; left
    rw [neg_wd _ _ INF_lt]
  · rw [e] at h; rw [e'] at g
    left; right
    exact ⟨(isNan_neg r hr).2 h.1, g.1⟩

/-- a product with one factor turned is the product turned. -/
theorem mul_neg_l (x y : Nat) (hx : x < 2 ^ 64) : D.mul (neg x) y = (D.mul x y).map neg := by
  unfold Format.mul
  rw [read_neg x hx]
  have key : ∀ (s : Bool) (m : Nat) (p : Int), D.nearest (!s) m p = neg (D.nearest s m p) := by
    intro s m p; rw [nearest_wd, nearest_wd, neg_wd _ _ (rq_lt _ _)]
  have key2 : ∀ s : Bool, D.word (!s) D.infRung = neg (D.word s D.infRung) := by
    intro s; rw [word_eq, word_eq, INF_word, neg_wd _ _ INF_lt]
  cases D.read x <;> cases D.read y <;> simp only [Datum.opposite, Datum.product, Option.map_none, Option.map_some, Format.write]
  · rw [← key]; simp
  · rename_i s m i t
    by_cases h : m = 0
    · simp [h]
    · simp only [h, if_false, Option.map_some, Format.write]; rw [← key2]; simp
  · rename_i s t n j
    by_cases h : n = 0
    · simp [h]
    · simp only [h, if_false, Option.map_some, Format.write]; rw [← key2]; simp
  · rw [← key2]; simp

theorem mul_neg_r (x y : Nat) (hy : y < 2 ^ 64) : D.mul x (neg y) = (D.mul x y).map neg := by
  rw [mul_comm, mul_neg_l y x hy, mul_comm]

theorem Res.map_neg {o : Option Nat} {r r' : Nat} (h : Res o r) (g : Res (o.map neg) r') : Same (Fl.neg r) r' ∨ (isNan r ∧ isNan r') := by
  cases o with
  | none => exact .inr ⟨h.1, g.1⟩
  | some q => left; left; cases h; exact g.symm

theorem FMul.neg_l {x y r r' : Nat} (hx : x < 2 ^ 64) (h : FMul x y r) (g : FMul (neg x) y r') : Same (neg r) r' := by
  have hr := h.lt
  unfold FMul at h g
  rw [mul_neg_l x y hx] at g
  rcases h.map_neg g with a | a
  · exact a
  · exact .inr ⟨(isNan_neg r hr).2 a.1, a.2⟩
theorem FMul.neg_r {x y r r' : Nat} (hy : y < 2 ^ 64) (h : FMul x y r) (g : FMul x (neg y) r') : Same (neg r) r' := FMul.neg_l hy h.comm g.comm

theorem FSub.add {x y r : Nat} (hy : y < 2 ^ 64) (h : FSub x y r) : FAdd x (neg y) r := by unfold FSub at h; unfold FAdd; rwa [← sub_eq x y hy]

theorem FSub.neg_lk {x y r r' : Nat} (hx : x < 2 ^ 64) (hy : y < 2 ^ 64) (h : FSub x y r) (g : FSub (neg x) (neg y) r') : Lk (neg r) r' :=
  FAdd.neg_lk hx (neg_lt y hy) (h.add hy) (g.add (neg_lt y hy))


/-! ### the order -/
theorem order_self (x : Nat) : D.order x x = some .eq ↔ ¬ isNan x := by
  rcases cases3 x with h | h | h
  · rw [order_fin x x h h]
    have e : compare (iv x) (iv x) = .eq := Int.compare_eq_eq.2 rfl
    have : ¬ isNan x := by unfold fin at h; unfold isNan; omega
    simp [this]
  · have : ¬ isNan x := by unfold isNan; omega
    unfold Format.order
    rw [read_inf x h]
    cases sg x <;> simp [Datum.order, this] <;> decide
  · obtain ⟨t, e⟩ := read_nan x h
    unfold Format.order
    rw [e]
    simp [Datum.order, h]

instance (x y : Nat) : Decidable (Same x y) := inferInstanceAs (Decidable (x = y ∨ (isNan x ∧ isNan y)))
def sameB (x y : Nat) : Bool := decide (Same x y)
theorem sameB_true {x y : Nat} (h : Same x y) : sameB x y = true := decide_eq_true h
/-- SameC's answer. -/
def sameCB (a b c d : Nat) : Bool := sameB a c && sameB b d
/-- 'x == 0' -/
def zeroB (x : Nat) : Bool := decide (rg x = 0)
def lkB (x y : Nat) : Bool := sameB x y || (zeroB x && zeroB y)
theorem lkB_true {x y : Nat} (h : Lk x y) : lkB x y = true := by
  unfold lkB zeroB
  rcases h with h | h
  · rw [sameB_true h]; rfl
  · simp [h.1, h.2]

theorem order_zero (x : Nat) : D.order x 0 = some .eq ↔ rg x = 0 := by
  have f0 : fin 0 := by decide
  have v0 : iv 0 = 0 := by decide
  rcases cases3 x with h | h | h
  · rw [order_fin x 0 h f0, v0]
    have key : iv x = 0 ↔ rg x = 0 := by
      unfold iv
      have : mv x = 0 ↔ rg x = 0 := by
        unfold mv
        constructor
        · intro e
          by_cases c : rg x = 0
          · exact c
          · have := valR_lt (r := 0) (s := rg x) (by omega)
            omega
        · intro e; rw [e]; rfl
      split <;> omega
    rw [← key, Option.some.injEq]
    exact Int.compare_eq_eq
  · unfold Format.order
    rw [read_inf x h]
    have e0 : D.read 0 = .number false 0 (-1074) := by decide
    rw [e0]
    have : rg x ≠ 0 := by rw [h]; decide
    cases sg x <;> simp [Datum.order, this]
  · obtain ⟨t, e⟩ := read_nan x h
    unfold Format.order
    rw [e]
    have : rg x ≠ 0 := by unfold isNan at h; omega
    simp [Datum.order, this]
theorem order_zeroB (x : Nat) : (Go.FloatKind.f64.format.order x 0 == some Ordering.eq) = zeroB x := by
  have e : Go.FloatKind.f64.format = D := rfl
  rw [e]
  unfold zeroB
  by_cases h : rg x = 0
  · rw [decide_eq_true h, (order_zero x).2 h]; rfl
  · rw [decide_eq_false h, beq_eq_false_iff_ne]; exact fun c => h ((order_zero x).1 c)

theorem sameCB_true {a b c d : Nat} (h : Same a c) (g : Same b d) : sameCB a b c d = true := by
  unfold sameCB; rw [sameB_true h, sameB_true g]; rfl
theorem AddR.comm {a b c d x y x' y' : Nat} (h : AddR a b c d x y) (g : AddR c d a b x' y') : sameCB x y x' y' = true :=
  sameCB_true (Res.same h.1 g.1.comm) (Res.same h.2 g.2.comm)
theorem MulR.comm {a b c d x y x' y' : Nat} (h : MulR a b c d x y) (g : MulR c d a b x' y') : sameCB x y x' y' = true := by
  obtain ⟨p, q, r, s, h1, h2, h3, h4, h5, h6⟩ := h
  obtain ⟨p', q', r', s', g1, g2, g3, g4, g5, g6⟩ := g
  refine sameCB_true (h3.cong g3 (Res.same h1 g1.comm) (Res.same h2 g2.comm)) ?_
  exact h6.cong g6.comm (Res.same h4 g5.comm) (Res.same h5 g4.comm)
theorem SubR.addNeg {a b c d x y x' y' : Nat} (hc : c < 2 ^ 64) (hd : d < 2 ^ 64) (h : SubR a b c d x y) (g : AddR a b (neg c) (neg d) x' y') : sameCB x y x' y' = true :=
  sameCB_true (Res.same (h.1.add hc) g.1) (Res.same (h.2.add hd) g.2)
theorem AddR.conj {a b c d x y x' y' : Nat} (hb : b < 2 ^ 64) (hd : d < 2 ^ 64) (h : AddR a b c d x y) (g : AddR a (neg b) c (neg d) x' y') : Lk x x' ∧ Lk (neg y) y' :=
  ⟨(Res.same h.1 g.1).lk, FAdd.neg_lk hb hd h.2 g.2⟩
theorem SubR.conj {a b c d x y x' y' : Nat} (hb : b < 2 ^ 64) (hd : d < 2 ^ 64) (h : SubR a b c d x y) (g : SubR a (neg b) c (neg d) x' y') : Lk x x' ∧ Lk (neg y) y' :=
  ⟨(Res.same h.1 g.1).lk, FSub.neg_lk hb hd h.2 g.2⟩
/-- a sum of the turned, where the parts are the same as the turned ones -/
theorem FAdd.neg_lk' {x y r u v r' : Nat} (h : FAdd x y r) (g : FAdd u v r') (hx : x < 2 ^ 64) (hy : y < 2 ^ 64) (hu : Same (neg x) u) (hv : Same (neg y) v) : Lk (neg r) r' := by
  obtain ⟨q, hq⟩ : ∃ q, FAdd (neg x) (neg y) q := by
    unfold FAdd Res
    cases D.add (neg x) (neg y) with
    | none => exact ⟨INF + 1, by decide, by decide⟩
    | some q => exact ⟨q, rfl⟩
  have a := FAdd.neg_lk hx hy h hq
  have b : Same q r' := hq.cong g hu hv
  rcases a with a | a
  · exact .inl (a.trans b)
  · rcases b with rfl | b
    · exact .inr a
    · exfalso
      have := b.1
      unfold isNan at this
      omega
theorem FSub.neg_lk' {x y r u v r' : Nat} (h : FSub x y r) (g : FSub u v r') (hx : x < 2 ^ 64) (hy : y < 2 ^ 64) (hvl : v < 2 ^ 64) (hu : Same (neg x) u) (hv : Same (neg y) v) : Lk (neg r) r' := by
  refine FAdd.neg_lk' (h.add hy) (g.add hvl) hx (neg_lt y hy) hu ?_
  exact hv.neg (neg_lt y hy) hvl
theorem MulR.conj {a b c d x y x' y' : Nat} (hb : b < 2 ^ 64) (hd : d < 2 ^ 64) (h : MulR a b c d x y) (g : MulR a (neg b) c (neg d) x' y') : Lk x x' ∧ Lk (neg y) y' := by
  obtain ⟨p, q, r, s, h1, h2, h3, h4, h5, h6⟩ := h
  obtain ⟨p', q', r', s', g1, g2, g3, g4, g5, g6⟩ := g
  constructor
  · refine (h3.cong g3 (Res.same h1 g1) ?_).lk
    -- (-b)(-d) is b d
    obtain ⟨t, ht⟩ : ∃ t, FMul (neg b) d t := by
      unfold FMul Res
      cases D.mul (neg b) d with
      | none => exact ⟨INF + 1, by decide, by decide⟩
      | some q => exact ⟨q, rfl⟩
    have e1 : Same (neg q) t := FMul.neg_l hb h2 ht
    have e2 : Same (neg t) q' := FMul.neg_r hd ht g2
    have e3 := e1.neg (neg_lt q h2.lt) ht.lt
    rw [neg_neg q h2.lt] at e3
    exact e3.trans e2
  · exact FAdd.neg_lk' h6 g6 h4.lt h5.lt (FMul.neg_r hd h4 g4) (FMul.neg_l hb h5 g5)
theorem MulR.negL {a b c d x y x' y' : Nat} (ha : a < 2 ^ 64) (hb : b < 2 ^ 64) (h : MulR a b c d x y) (g : MulR (neg a) (neg b) c d x' y') : Lk (neg x) x' ∧ Lk (neg y) y' := by
  obtain ⟨p, q, r, s, h1, h2, h3, h4, h5, h6⟩ := h
  obtain ⟨p', q', r', s', g1, g2, g3, g4, g5, g6⟩ := g
  exact ⟨FSub.neg_lk' h3 g3 h1.lt h2.lt g2.lt (FMul.neg_l ha h1 g1) (FMul.neg_l hb h2 g2), FAdd.neg_lk' h6 g6 h4.lt h5.lt (FMul.neg_l ha h4 g4) (FMul.neg_l hb h5 g5)⟩
theorem MulR.lt {a b c d x y : Nat} (h : MulR a b c d x y) : x < 2 ^ 64 ∧ y < 2 ^ 64 := by
  obtain ⟨p, q, r, s, _, _, h3, _, _, h6⟩ := h
  exact ⟨h3.lt, h6.lt⟩
theorem DivR.lt {a b c d x y : Nat} (h : DivR a b c d x y) : x < 2 ^ 64 ∧ y < 2 ^ 64 := by
  rcases h with ⟨_, _, _, _, _, _, _, _, _, _, _, _, _, h6, _, _, h9⟩ | ⟨_, _, _, _, _, _, _, _, _, _, _, _, _, h6, _, _, h9⟩
  · exact ⟨h6.lt, h9.lt⟩
  · exact ⟨h6.lt, h9.lt⟩
end Fl
