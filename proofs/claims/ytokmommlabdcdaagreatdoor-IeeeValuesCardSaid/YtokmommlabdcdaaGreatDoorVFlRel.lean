/- What the operations on complex numbers do, as relations between words. No conditions. Laws of binary64's operations for all words: commuted, negated, NaN in NaN out, and what goes in the same comes out the same. No conditions but that words are below 2^64. Bits of a binary64's word: what the walk's operations on uint64 come to. Lists of complex numbers in memory, and what the three sums of a list may answer. The row of all floats: places, neighbours, the order. Shifts of words: plain laws, and the walk's words for them. No conditions. Bits of numbers: lengths, and noughts at the end: plain laws. No conditions. Long division of lists of words: the trial digit, the subtraction and the adding back. No conditions. The trial digit of a long division, as it goes. No conditions. Long division of lists of words, word by word from above. No conditions. Words that are whole numbers: sums, differences and products of them that stay below 2^53 are exact. Scaling a float by a power of two: the exponent's field moves. A fraction rounded once: the guess of its last place, the quotient, and the number set together again. No program in sight. No conditions. Halves, distances and powers of two among floats. A whole number of at most 53 bits times a power of two, set together as a word. No program in sight. No conditions. The fractions that floats are, and fractions rounded once: what the rounded sum, product and quotient of two floats are. No program in sight. No conditions. Sums, products and quotients with infinities and noughts in them. No program in sight. No conditions. Greatest common divisors by odd parts; remainders by a power of two on lists of words: plain laws. No conditions. -/
import Derived.Test.YtokmommlabdcdaaGreatDoorVFlWalk
import Derived.Test.YtokmommlabdcdaaGreatDoorVFl
set_option linter.unusedVariables false
set_option linter.unusedSimpArgs false
namespace Fl
open Go

def FAdd (x y r : Nat) : Prop := Res (D.add x y) r
def FSub (x y r : Nat) : Prop := Res (D.sub x y) r
def FMul (x y r : Nat) : Prop := Res (D.mul x y) r
def FDiv (x y r : Nat) : Prop := Res (D.div x y) r
theorem fop_add (x y : Nat) (w : World) : FAdd x y (fop .add x y w) := by unfold FAdd; exact fop_res .add x y w
theorem fop_sub (x y : Nat) (w : World) : FSub x y (fop .sub x y w) := by unfold FSub; exact fop_res .sub x y w
theorem fop_mul (x y : Nat) (w : World) : FMul x y (fop .mul x y w) := by unfold FMul; exact fop_res .mul x y w
theorem fop_div (x y : Nat) (w : World) : FDiv x y (fop .quo x y w) := by unfold FDiv; exact fop_res .quo x y w

def AddR (a b c d x y : Nat) : Prop := FAdd a c x ∧ FAdd b d y
def SubR (a b c d x y : Nat) : Prop := FSub a c x ∧ FSub b d y
def MulR (a b c d x y : Nat) : Prop := ∃ p q r s, FMul a c p ∧ FMul b d q ∧ FSub p q x ∧ FMul a d r ∧ FMul b c s ∧ FAdd r s y
/-- is x at least y, as the order of binary64 has it? -/
def geB (x y : Nat) : Bool := FloatKind.f64.format.order x y == some .gt || FloatKind.f64.format.order x y == some .eq
def DivR (a b c d x y : Nat) : Prop :=
  (geB (rg c) (rg d) = true ∧ ∃ r m t m1 n1 m2 n2, FDiv d c r ∧ FMul d r m ∧ FAdd c m t ∧ FMul b r m1 ∧ FAdd a m1 n1 ∧ FDiv n1 t x ∧ FMul a r m2 ∧ FSub b m2 n2 ∧ FDiv n2 t y) ∨
  (geB (rg c) (rg d) = false ∧ ∃ r m t m1 n1 m2 n2, FDiv c d r ∧ FMul c r m ∧ FAdd m d t ∧ FMul a r m1 ∧ FAdd m1 b n1 ∧ FDiv n1 t x ∧ FMul b r m2 ∧ FSub m2 a n2 ∧ FDiv n2 t y)

/-- the sign turned. -/
def neg (x : Nat) : Nat := if x < 2 ^ 63 then x + 2 ^ 63 else x - 2 ^ 63

/-- both NaN, or the same word. -/
def Same (x y : Nat) : Prop := x = y ∨ (isNan x ∧ isNan y)
end Fl
namespace Fl
open Ieee

theorem neg_lt (x : Nat) (h : x < 2 ^ 64) : neg x < 2 ^ 64 := by unfold neg; split <;> omega
theorem neg_neg (x : Nat) (h : x < 2 ^ 64) : neg (neg x) = x := by unfold neg; split <;> split <;> omega
theorem rg_neg (x : Nat) (h : x < 2 ^ 64) : rg (neg x) = rg x := by unfold neg rg; split <;> omega
theorem sg_neg (x : Nat) (h : x < 2 ^ 64) : sg (neg x) = !sg x := by
  unfold neg sg
  split
  · have a : x / 2 ^ 63 = 0 := by omega
    have b : (x + 2 ^ 63) / 2 ^ 63 = 1 := by omega
    rw [a, b]; decide
  · have a : x / 2 ^ 63 = 1 := by omega
    have b : (x - 2 ^ 63) / 2 ^ 63 = 0 := by omega
    rw [a, b]; decide
theorem neg_wd (s : Bool) (r : Nat) (h : r < 2 ^ 63) : neg (wd s r) = wd (!s) r := by
  cases s
  · have a : wd false r = r := rfl
    have b : wd (!false) r = 2 ^ 63 + r := rfl
    rw [a, b]; unfold neg; rw [if_pos h]; omega
  · have a : wd true r = 2 ^ 63 + r := rfl
    have b : wd (!true) r = r := rfl
    rw [a, b]; unfold neg; rw [if_neg (by omega)]; omega
theorem isNan_neg (x : Nat) (h : x < 2 ^ 64) : isNan (neg x) ↔ isNan x := by unfold isNan; rw [rg_neg x h]
theorem fin_neg (x : Nat) (h : x < 2 ^ 64) : fin (neg x) ↔ fin x := by unfold fin; rw [rg_neg x h]

theorem cases3 (x : Nat) : fin x ∨ rg x = INF ∨ isNan x := by unfold fin isNan; omega

theorem read_neg (x : Nat) (h : x < 2 ^ 64) : D.read (neg x) = (D.read x).opposite := by
  have e1 : neg x % 2 ^ 63 = x % 2 ^ 63 := rg_neg x h
  have e2 : (neg x / 2 ^ 63 % 2 == 1) = !(x / 2 ^ 63 % 2 == 1) := sg_neg x h
  unfold Format.read
  simp only
  rw [signWeight_eq, e1, e2]
  split
  · rfl
  · split
    · rfl
    · split <;> rfl

theorem sub_eq (x y : Nat) (h : y < 2 ^ 64) : D.sub x y = D.add x (neg y) := by
  unfold Format.sub Format.add; rw [read_neg y h]

theorem sum_comm (a b : Datum) : a.sum b = b.sum a := by
  cases a <;> cases b <;> simp only [Datum.sum]
  · rw [Int.min_comm]; rw [Int.add_comm, Bool.and_comm]
  · rename_i s t
    by_cases h : s = t
    · subst h; rfl
    · rw [if_neg h, if_neg (fun e => h e.symm)]

theorem product_comm (a b : Datum) : a.product b = b.product a := by
  cases a <;> cases b <;> simp only [Datum.product]
  · rw [Nat.mul_comm, Int.add_comm, Bool.xor_comm]
  all_goals rw [Bool.xor_comm]

theorem add_comm (x y : Nat) : D.add x y = D.add y x := by unfold Format.add; rw [sum_comm]
theorem mul_comm (x y : Nat) : D.mul x y = D.mul y x := by unfold Format.mul; rw [product_comm]

/-- a NaN goes in: none comes out. -/
theorem add_nan (x y : Nat) (h : isNan x ∨ isNan y) : D.add x y = none := by
  unfold Format.add
  rcases h with h | h
  · obtain ⟨t, e⟩ := read_nan x h; rw [e]; rfl
  · obtain ⟨t, e⟩ := read_nan y h; rw [e]; cases D.read x <;> rfl
theorem mul_nan (x y : Nat) (h : isNan x ∨ isNan y) : D.mul x y = none := by
  unfold Format.mul
  rcases h with h | h
  · obtain ⟨t, e⟩ := read_nan x h; rw [e]; rfl
  · obtain ⟨t, e⟩ := read_nan y h; rw [e]; cases D.read x <;> rfl
theorem div_nan (x y : Nat) (h : isNan x ∨ isNan y) : D.div x y = none := by
  unfold Format.div
  rcases h with h | h
  · obtain ⟨t, e⟩ := read_nan x h; rw [e]; rfl
  · obtain ⟨t, e⟩ := read_nan y h; rw [e]; cases D.read x <;> rfl
theorem sub_nan (x y : Nat) (h : isNan x ∨ isNan y) : D.sub x y = none := by
  unfold Format.sub
  rcases h with h | h
  · obtain ⟨t, e⟩ := read_nan x h; rw [e]; rfl
  · obtain ⟨t, e⟩ := read_nan y h; rw [e]; cases D.read x <;> rfl

theorem Res.nan {o : Option Nat} {r : Nat} (h : Res o r) (ho : o = none) : isNan r := by subst ho; exact h.1
theorem Res.eq {o : Option Nat} {r q : Nat} (h : Res o r) (ho : o = some q) : r = q := by subst ho; exact h

theorem FAdd.lt {x y r : Nat} (h : FAdd x y r) : r < 2 ^ 64 := by
  unfold FAdd at h
  cases e : D.add x y with
  | none => rw [e] at h; exact h.2
  | some q => rw [e] at h; have := Format.add_lt D e; cases h; exact this
theorem FSub.lt {x y r : Nat} (h : FSub x y r) : r < 2 ^ 64 := by
  unfold FSub at h
  cases e : D.sub x y with
  | none => rw [e] at h; exact h.2
  | some q => rw [e] at h; have := Format.sub_lt D e; cases h; exact this
theorem FMul.lt {x y r : Nat} (h : FMul x y r) : r < 2 ^ 64 := by
  unfold FMul at h
  cases e : D.mul x y with
  | none => rw [e] at h; exact h.2
  | some q => rw [e] at h; have := Format.mul_lt D e; cases h; exact this
theorem FDiv.lt {x y r : Nat} (h : FDiv x y r) : r < 2 ^ 64 := by
  unfold FDiv at h
  cases e : D.div x y with
  | none => rw [e] at h; exact h.2
  | some q => rw [e] at h; have := Format.div_lt D e; cases h; exact this

/-! ### what goes in the same comes out the same -/
theorem Same.refl (x : Nat) : Same x x := .inl rfl
theorem Same.symm {x y : Nat} (h : Same x y) : Same y x := by
  rcases h with h | h
  · exact .inl h.symm
  · exact .inr ⟨h.2, h.1⟩
theorem Same.trans {x y z : Nat} (h : Same x y) (g : Same y z) : Same x z := by
  rcases h with rfl | h
  · exact g
  · rcases g with rfl | g
    · exact .inr h
    · exact .inr ⟨h.1, g.2⟩

/-- two answers of one operation are the same. -/
theorem Res.same {o : Option Nat} {r r' : Nat} (h : Res o r) (g : Res o r') : Same r r' := by
  cases o with
  | none => exact .inr ⟨h.1, g.1⟩
  | some q => left; cases h; exact g.symm

theorem cong2 {f : Nat → Nat → Option Nat} (hn : ∀ x y, isNan x ∨ isNan y → f x y = none) {x y r x' y' r' : Nat}
    (h : Res (f x y) r) (g : Res (f x' y') r') (hx : Same x x') (hy : Same y y') : Same r r' := by
  rcases hx with rfl | hx
  · rcases hy with rfl | hy
    · exact h.same g
    · exact .inr ⟨h.nan (hn _ _ (.inr hy.1)), g.nan (hn _ _ (.inr hy.2))⟩
  · exact .inr ⟨h.nan (hn _ _ (.inl hx.1)), g.nan (hn _ _ (.inl hx.2))⟩

theorem FAdd.cong {x y r x' y' r' : Nat} (h : FAdd x y r) (g : FAdd x' y' r') (hx : Same x x') (hy : Same y y') : Same r r' := cong2 add_nan h g hx hy
theorem FSub.cong {x y r x' y' r' : Nat} (h : FSub x y r) (g : FSub x' y' r') (hx : Same x x') (hy : Same y y') : Same r r' := cong2 sub_nan h g hx hy
theorem FMul.cong {x y r x' y' r' : Nat} (h : FMul x y r) (g : FMul x' y' r') (hx : Same x x') (hy : Same y y') : Same r r' := cong2 mul_nan h g hx hy
theorem FDiv.cong {x y r x' y' r' : Nat} (h : FDiv x y r) (g : FDiv x' y' r') (hx : Same x x') (hy : Same y y') : Same r r' := cong2 div_nan h g hx hy
theorem FAdd.comm {x y r : Nat} (h : FAdd x y r) : FAdd y x r := by unfold FAdd at *; rwa [add_comm]
theorem FMul.comm {x y r : Nat} (h : FMul x y r) : FMul y x r := by unfold FMul at *; rwa [mul_comm]

theorem Same.neg {x y : Nat} (hx : x < 2 ^ 64) (hy : y < 2 ^ 64) (h : Same x y) : Same (neg x) (neg y) := by
  rcases h with rfl | h
  · exact .inl rfl
  · exact .inr ⟨(isNan_neg x hx).2 h.1, (isNan_neg y hy).2 h.2⟩

/-! ### the same, but for the signs of noughts -/
def Lk (x y : Nat) : Prop := Same x y ∨ (rg x = 0 ∧ rg y = 0)
theorem Same.lk {x y : Nat} (h : Same x y) : Lk x y := .inl h

theorem sum_opposite (a b : Datum) : (∃ s m p, a.sum b = some (.number s m p) ∧ ∃ s', a.opposite.sum b.opposite = some (.number s' m p) ∧ (m ≠ 0 → s' = !s)) ∨
    (∃ s, a.sum b = some (.infinity s) ∧ a.opposite.sum b.opposite = some (.infinity !s)) ∨ (a.sum b = none ∧ a.opposite.sum b.opposite = none) := by
  cases a with
  | nan s t => exact .inr (.inr ⟨rfl, rfl⟩)
  | infinity s =>
    cases b with
    | nan t u => exact .inr (.inr ⟨rfl, rfl⟩)
    | number t n j => exact .inr (.inl ⟨_, rfl, rfl⟩)
    | infinity t =>
      simp only [Datum.sum, Datum.opposite]
      by_cases h : s = t
      · subst h; exact .inr (.inl ⟨s, by simp, by simp⟩)
      · right; right
        have : ¬ (!s) = !t := by simpa using h
        exact ⟨if_neg h, if_neg this⟩
  | number s m i =>
    cases b with
    | nan t u => exact .inr (.inr ⟨rfl, rfl⟩)
    | infinity t => exact .inr (.inl ⟨_, rfl, rfl⟩)
    | number t n j =>
      simp only [Datum.sum, Datum.opposite]
      left
      refine ⟨_, _, _, rfl, ?_⟩
      have key : ∀ (s : Bool) (m u : Nat), signed (!s) m u = - signed s m u := by
        intro s m u; unfold signed; cases s <;> simp
      rw [key, key, ← Int.neg_add]
      generalize signed s m _ + signed t n _ = T
      refine ⟨_, by rw [Int.natAbs_neg], ?_⟩
      intro hT
      have h0 : T ≠ 0 := by intro h; subst h; exact hT rfl
      have h0' : - T ≠ 0 := by omega
      rw [if_neg h0, if_neg h0']
      by_cases c : T < 0
      · have : ¬ (-T < 0) := by omega
        rw [decide_eq_true c, decide_eq_false this]; rfl
      · have : -T < 0 := by omega
        rw [decide_eq_false c, decide_eq_true this]; rfl

theorem INF_word : D.infRung = INF := by decide

theorem rq_lt (n d : Nat) : rq n d < 2 ^ 63 := Nat.lt_of_le_of_lt (rq_le n d) INF_lt

theorem FAdd.neg_lk {x y r r' : Nat} (hx : x < 2 ^ 64) (hy : y < 2 ^ 64) (h : FAdd x y r) (g : FAdd (neg x) (neg y) r') : Lk (neg r) r' := by
  have hr := h.lt
  unfold FAdd Format.add at h g
  rw [read_neg x hx, read_neg y hy] at g
  rcases sum_opposite (D.read x) (D.read y) with ⟨s, m, p, e, s', e', hs⟩ | ⟨s, e, e'⟩ | ⟨e, e'⟩
  · rw [e] at h; rw [e'] at g
    simp only [Option.map_some, Format.write, Res, nearest_wd] at h g
    subst h; subst g
    by_cases hm : m = 0
    · right
      subst hm
      have z : rq (0 * 2 ^ (p + 1074).toNat) (2 ^ (-1074 - p).toNat) = 0 := by unfold rq; rw [Nat.zero_mul, rungQ_zero, Nat.zero_min]
      rw [rg_neg _ (wd_lt _ _ (rq_lt _ _)), rg_wd _ _ (rq_lt _ _), rg_wd _ _ (rq_lt _ _), z]
      exact ⟨rfl, rfl⟩
    · left; left
      rw [neg_wd _ _ (rq_lt _ _), hs hm]
  · rw [e] at h; rw [e'] at g
    simp only [Option.map_some, Format.write, Res, word_eq, INF_word] at h g
    subst h; subst g
    left; left
    rw [neg_wd _ _ INF_lt]
  · rw [e] at h; rw [e'] at g
    left; right
    exact ⟨(isNan_neg r hr).2 h.1, g.1⟩

/-- a product with one factor turned is the product turned. -/
theorem mul_neg_l (x y : Nat) (hx : x < 2 ^ 64) : D.mul (neg x) y = (D.mul x y).map neg := by
  unfold Format.mul
  rw [read_neg x hx]
  have key : ∀ (s : Bool) (m : Nat) (p : Int), D.nearest (!s) m p = neg (D.nearest s m p) := by
    intro s m p; rw [nearest_wd, nearest_wd, neg_wd _ _ (rq_lt _ _)]
  have key2 : ∀ s : Bool, D.word (!s) D.infRung = neg (D.word s D.infRung) := by
    intro s; rw [word_eq, word_eq, INF_word, neg_wd _ _ INF_lt]
  cases D.read x <;> cases D.read y <;> simp only [Datum.opposite, Datum.product, Option.map_none, Option.map_some, Format.write]
  · rw [← key]; simp
  · rename_i s m i t
    by_cases h : m = 0
    · simp [h]
    · simp only [h, if_false, Option.map_some, Format.write]; rw [← key2]; simp
  · rename_i s t n j
    by_cases h : n = 0
    · simp [h]
    · simp only [h, if_false, Option.map_some, Format.write]; rw [← key2]; simp
  · rw [← key2]; simp

theorem mul_neg_r (x y : Nat) (hy : y < 2 ^ 64) : D.mul x (neg y) = (D.mul x y).map neg := by
  rw [mul_comm, mul_neg_l y x hy, mul_comm]

theorem Res.map_neg {o : Option Nat} {r r' : Nat} (h : Res o r) (g : Res (o.map neg) r') : Same (Fl.neg r) r' ∨ (isNan r ∧ isNan r') := by
  cases o with
  | none => exact .inr ⟨h.1, g.1⟩
  | some q => left; left; cases h; exact g.symm

theorem FMul.neg_l {x y r r' : Nat} (hx : x < 2 ^ 64) (h : FMul x y r) (g : FMul (neg x) y r') : Same (neg r) r' := by
  have hr := h.lt
  unfold FMul at h g
  rw [mul_neg_l x y hx] at g
  rcases h.map_neg g with a | a
  · exact a
  · exact .inr ⟨(isNan_neg r hr).2 a.1, a.2⟩
theorem FMul.neg_r {x y r r' : Nat} (hy : y < 2 ^ 64) (h : FMul x y r) (g : FMul x (neg y) r') : Same (neg r) r' := FMul.neg_l hy h.comm g.comm

theorem FSub.add {x y r : Nat} (hy : y < 2 ^ 64) (h : FSub x y r) : FAdd x (neg y) r := by unfold FSub at h; unfold FAdd; rwa [← sub_eq x y hy]

theorem FSub.neg_lk {x y r r' : Nat} (hx : x < 2 ^ 64) (hy : y < 2 ^ 64) (h : FSub x y r) (g : FSub (neg x) (neg y) r') : Lk (neg r) r' :=
  FAdd.neg_lk hx (neg_lt y hy) (h.add hy) (g.add (neg_lt y hy))


/-! ### the order -/
theorem order_self (x : Nat) : D.order x x = some .eq ↔ ¬ isNan x := by
  rcases cases3 x with h | h | h
  · rw [order_fin x x h h]
    have e : compare (iv x) (iv x) = .eq := Int.compare_eq_eq.2 rfl
    have : ¬ isNan x := by unfold fin at h; unfold isNan; omega
    simp [this]
  · have : ¬ isNan x := by unfold isNan; omega
    unfold Format.order
    rw [read_inf x h]
    cases sg x <;> simp [Datum.order, this] <;> decide
  · obtain ⟨t, e⟩ := read_nan x h
    unfold Format.order
    rw [e]
    simp [Datum.order, h]

instance (x y : Nat) : Decidable (Same x y) := inferInstanceAs (Decidable (x = y ∨ (isNan x ∧ isNan y)))
def sameB (x y : Nat) : Bool := decide (Same x y)
theorem sameB_true {x y : Nat} (h : Same x y) : sameB x y = true := decide_eq_true h
/-- SameC's answer. -/
def sameCB (a b c d : Nat) : Bool := sameB a c && sameB b d
/-- 'x == 0' -/
def zeroB (x : Nat) : Bool := decide (rg x = 0)
def lkB (x y : Nat) : Bool := sameB x y || (zeroB x && zeroB y)
theorem lkB_true {x y : Nat} (h : Lk x y) : lkB x y = true := by
  unfold lkB zeroB
  rcases h with h | h
  · rw [sameB_true h]; rfl
  · simp [h.1, h.2]

theorem order_zero (x : Nat) : D.order x 0 = some .eq ↔ rg x = 0 := by
  have f0 : fin 0 := by decide
  have v0 : iv 0 = 0 := by decide
  rcases cases3 x with h | h | h
  · rw [order_fin x 0 h f0, v0]
    have key : iv x = 0 ↔ rg x = 0 := by
      unfold iv
      have : mv x = 0 ↔ rg x = 0 := by
        unfold mv
        constructor
        · intro e
          by_cases c : rg x = 0
          · exact c
          · have := valR_lt (r := 0) (s := rg x) (by omega)
            omega
        · intro e; rw [e]; rfl
      split <;> omega
    rw [← key, Option.some.injEq]
    exact Int.compare_eq_eq
  · unfold Format.order
    rw [read_inf x h]
    have e0 : D.read 0 = .number false 0 (-1074) := by decide
    rw [e0]
    have : rg x ≠ 0 := by rw [h]; decide
    cases sg x <;> simp [Datum.order, this]
  · obtain ⟨t, e⟩ := read_nan x h
    unfold Format.order
    rw [e]
    have : rg x ≠ 0 := by unfold isNan at h; omega
    simp [Datum.order, this]
theorem order_zeroB (x : Nat) : (Go.FloatKind.f64.format.order x 0 == some Ordering.eq) = zeroB x := by
  have e : Go.FloatKind.f64.format = D := rfl
  rw [e]
  unfold zeroB
  by_cases h : rg x = 0
  · rw [decide_eq_true h, (order_zero x).2 h]; rfl
  · rw [decide_eq_false h, beq_eq_false_iff_ne]; exact fun c => h ((order_zero x).1 c)

theorem sameCB_true {a b c d : Nat} (h : Same a c) (g : Same b d) : sameCB a b c d = true := by
  unfold sameCB; rw [sameB_true h, sameB_true g]; rfl
theorem AddR.comm {a b c d x y x' y' : Nat} (h : AddR a b c d x y) (g : AddR c d a b x' y') : sameCB x y x' y' = true :=
  sameCB_true (Res.same h.1 g.1.comm) (Res.same h.2 g.2.comm)
theorem MulR.comm {a b c d x y x' y' : Nat} (h : MulR a b c d x y) (g : MulR c d a b x' y') : sameCB x y x' y' = true := by
  obtain ⟨p, q, r, s, h1, h2, h3, h4, h5, h6⟩ := h
  obtain ⟨p', q', r', s', g1, g2, g3, g4, g5, g6⟩ := g
  refine sameCB_true (h3.cong g3 (Res.same h1 g1.comm) (Res.same h2 g2.comm)) ?_
  exact h6.cong g6.comm (Res.same h4 g5.comm) (Res.same h5 g4.comm)
theorem SubR.addNeg {a b c d x y x' y' : Nat} (hc : c < 2 ^ 64) (hd : d < 2 ^ 64) (h : SubR a b c d x y) (g : AddR a b (neg c) (neg d) x' y') : sameCB x y x' y' = true :=
  sameCB_true (Res.same (h.1.add hc) g.1) (Res.same (h.2.add hd) g.2)
theorem AddR.conj {a b c d x y x' y' : Nat} (hb : b < 2 ^ 64) (hd : d < 2 ^ 64) (h : AddR a b c d x y) (g : AddR a (neg b) c (neg d) x' y') : Lk x x' ∧ Lk (neg y) y' :=
  ⟨(Res.same h.1 g.1).lk, FAdd.neg_lk hb hd h.2 g.2⟩
theorem SubR.conj {a b c d x y x' y' : Nat} (hb : b < 2 ^ 64) (hd : d < 2 ^ 64) (h : SubR a b c d x y) (g : SubR a (neg b) c (neg d) x' y') : Lk x x' ∧ Lk (neg y) y' :=
  ⟨(Res.same h.1 g.1).lk, FSub.neg_lk hb hd h.2 g.2⟩
/-- a sum of the turned, where the parts are the same as the turned ones -/
theorem FAdd.neg_lk' {x y r u v r' : Nat} (h : FAdd x y r) (g : FAdd u v r') (hx : x < 2 ^ 64) (hy : y < 2 ^ 64) (hu : Same (neg x) u) (hv : Same (neg y) v) : Lk (neg r) r' := by
  obtain ⟨q, hq⟩ : ∃ q, FAdd (neg x) (neg y) q := by
    unfold FAdd Res
    cases D.add (neg x) (neg y) with
    | none => exact ⟨INF + 1, by decide, by decide⟩
    | some q => exact ⟨q, rfl⟩
  have a := FAdd.neg_lk hx hy h hq
  have b : Same q r' := hq.cong g hu hv
  rcases a with a | a
  · exact .inl (a.trans b)
  · rcases b with rfl | b
    · exact .inr a
    · exfalso
      have := b.1
      unfold isNan at this
      omega
theorem FSub.neg_lk' {x y r u v r' : Nat} (h : FSub x y r) (g : FSub u v r') (hx : x < 2 ^ 64) (hy : y < 2 ^ 64) (hvl : v < 2 ^ 64) (hu : Same (neg x) u) (hv : Same (neg y) v) : Lk (neg r) r' := by
  refine FAdd.neg_lk' (h.add hy) (g.add hvl) hx (neg_lt y hy) hu ?_
  exact hv.neg (neg_lt y hy) hvl
theorem MulR.conj {a b c d x y x' y' : Nat} (hb : b < 2 ^ 64) (hd : d < 2 ^ 64) (h : MulR a b c d x y) (g : MulR a (neg b) c (neg d) x' y') : Lk x x' ∧ Lk (neg y) y' := by
  obtain ⟨p, q, r, s, h1, h2, h3, h4, h5, h6⟩ := h
  obtain ⟨p', q', r', s', g1, g2, g3, g4, g5, g6⟩ := g
  constructor
  · refine (h3.cong g3 (Res.same h1 g1) ?_).lk
    -- (-b)(-d) is b d
    obtain ⟨t, ht⟩ : ∃ t, FMul (neg b) d t := by
      unfold FMul Res
      cases D.mul (neg b) d with
      | none => exact ⟨INF + 1, by decide, by decide⟩
      | some q => exact ⟨q, rfl⟩
    have e1 : Same (neg q) t := FMul.neg_l hb h2 ht
    have e2 : Same (neg t) q' := FMul.neg_r hd ht g2
    have e3 := e1.neg (neg_lt q h2.lt) ht.lt
    rw [neg_neg q h2.lt] at e3
    exact e3.trans e2
  · exact FAdd.neg_lk' h6 g6 h4.lt h5.lt (FMul.neg_r hd h4 g4) (FMul.neg_l hb h5 g5)
theorem MulR.negL {a b c d x y x' y' : Nat} (ha : a < 2 ^ 64) (hb : b < 2 ^ 64) (h : MulR a b c d x y) (g : MulR (neg a) (neg b) c d x' y') : Lk (neg x) x' ∧ Lk (neg y) y' := by
  obtain ⟨p, q, r, s, h1, h2, h3, h4, h5, h6⟩ := h
  obtain ⟨p', q', r', s', g1, g2, g3, g4, g5, g6⟩ := g
  exact ⟨FSub.neg_lk' h3 g3 h1.lt h2.lt g2.lt (FMul.neg_l ha h1 g1) (FMul.neg_l hb h2 g2), FAdd.neg_lk' h6 g6 h4.lt h5.lt (FMul.neg_l ha h4 g4) (FMul.neg_l hb h5 g5)⟩
theorem MulR.lt {a b c d x y : Nat} (h : MulR a b c d x y) : x < 2 ^ 64 ∧ y < 2 ^ 64 := by
  obtain ⟨p, q, r, s, _, _, h3, _, _, h6⟩ := h
  exact ⟨h3.lt, h6.lt⟩
theorem DivR.lt {a b c d x y : Nat} (h : DivR a b c d x y) : x < 2 ^ 64 ∧ y < 2 ^ 64 := by
  rcases h with ⟨_, _, _, _, _, _, _, _, _, _, _, _, _, h6, _, _, h9⟩ | ⟨_, _, _, _, _, _, _, _, _, _, _, _, _, h6, _, _, h9⟩
  · exact ⟨h6.lt, h9.lt⟩
  · exact ⟨h6.lt, h9.lt⟩
end Fl
namespace Fl
open Go

theorem bits_size (x : Nat) (h : x < 2 ^ 64) : bits .andNot .u64 (x : Int) 9223372036854775808 = (rg x : Int) := by
  have := u64_andNot_nat x 9223372036854775808 h (by decide)
  rw [show ((9223372036854775808 : Nat) : Int) = 9223372036854775808 from rfl] at this
  rw [this]
  congr 1
  exact Nat.and_two_pow_sub_one_eq_mod x 63

theorem xor_top (x : Nat) (h : x < 2 ^ 64) : x ^^^ 9223372036854775808 = neg x := by
  refine Nat.eq_of_testBit_eq fun i => ?_
  rw [Nat.testBit_xor]
  have e : Nat.testBit 9223372036854775808 i = decide (63 = i) := Nat.testBit_two_pow (n := 63) (m := i)
  rw [e]
  unfold neg
  by_cases c : x < 2 ^ 63
  · rw [if_pos c]
    by_cases hi : i = 63
    · subst hi
      have a : x.testBit 63 = false := Nat.testBit_lt_two_pow c
      have b : (x + 2 ^ 63).testBit 63 = true := by
        rw [Nat.add_comm, Nat.testBit_two_pow_add_eq, a]; rfl
      rw [a, b]; rfl
    · have hd : decide (63 = i) = false := by simp; omega
      rw [hd, Bool.xor_false]
      by_cases hl : i < 63
      · rw [Nat.add_comm, Nat.testBit_two_pow_add_gt hl]
      · have a : x.testBit i = false := Nat.testBit_lt_two_pow (Nat.lt_of_lt_of_le c (Nat.pow_le_pow_right (by omega) (by omega)))
        have b : (x + 2 ^ 63).testBit i = false := Nat.testBit_lt_two_pow (Nat.lt_of_lt_of_le (by omega : x + 2 ^ 63 < 2 ^ 64) (Nat.pow_le_pow_right (by omega) (by omega)))
        rw [a, b]
  · rw [if_neg c]
    obtain ⟨y, hy, hy2⟩ : ∃ y, x = 2 ^ 63 + y ∧ y < 2 ^ 63 := ⟨x - 2 ^ 63, by omega, by omega⟩
    have e2 : x - 2 ^ 63 = y := by omega
    rw [e2]
    by_cases hi : i = 63
    · subst hi
      have a : y.testBit 63 = false := Nat.testBit_lt_two_pow hy2
      rw [hy, Nat.testBit_two_pow_add_eq, a]; rfl
    · have hd : decide (63 = i) = false := by simp; omega
      rw [hd, Bool.xor_false, hy]
      by_cases hl : i < 63
      · rw [Nat.testBit_two_pow_add_gt hl]
      · have a : y.testBit i = false := Nat.testBit_lt_two_pow (Nat.lt_of_lt_of_le hy2 (Nat.pow_le_pow_right (by omega) (by omega)))
        have b : (2 ^ 63 + y).testBit i = false := Nat.testBit_lt_two_pow (Nat.lt_of_lt_of_le (by omega : 2 ^ 63 + y < 2 ^ 64) (Nat.pow_le_pow_right (by omega) (by omega)))
        rw [a, b]

theorem bits_neg (x : Nat) (h : x < 2 ^ 64) : bits .xor .u64 (x : Int) 9223372036854775808 = (neg x : Int) := by
  have := u64_xor_nat x 9223372036854775808 h (by decide)
  rw [show ((9223372036854775808 : Nat) : Int) = 9223372036854775808 from rfl] at this
  rw [this, xor_top x h]

theorem negFloat_eq (x : Nat) (h : x < 2 ^ 64) : Op.negFloat .f64 x = neg x := by
  unfold Op.negFloat
  exact xor_top x h

/-- the place in the row of words, of what is no NaN -/
def pl (x : Nat) : Int := if sg x then -1 - (rg x : Int) else (rg x : Int)
/-- the greater one of two, by that row -/
def NANQ : Nat := 9221120237041090560
def fmax (x y : Nat) : Nat := if isNan x ∨ isNan y then NANQ else if pl x ≤ pl y then y else x
def fmin (x y : Nat) : Nat := if isNan x ∨ isNan y then NANQ else if pl y ≤ pl x then y else x

theorem ret_bool {a b : Bool} (h : a = b) : Ending.returned (.bool a) = .returned (.bool b) := by rw [h]
theorem ret_int {k : IntKind} {a b : Int} (h : a = b) : Ending.returned (.int k a) = .returned (.int k b) := by rw [h]
theorem ret_float {a b : Nat} (h : a = b) : Ending.returned (.float .f64 a) = .returned (.float .f64 b) := by rw [h]

theorem nan_test (x : Nat) : decide (9218868437227405312 < (rg x : Int)) = decide (isNan x) := by
  have : (9218868437227405312 < (rg x : Int)) ↔ isNan x := by unfold isNan INF; omega
  exact decide_eq_decide.2 this
theorem inf_test (x : Nat) : ((rg x : Int) == 9218868437227405312) = decide (rg x = INF) := by
  have : ((rg x : Int) = 9218868437227405312) ↔ rg x = INF := by unfold INF; omega
  by_cases h : rg x = INF
  · rw [decide_eq_true h, this.2 h]; rfl
  · rw [decide_eq_false h, beq_eq_false_iff_ne]; exact fun e => h (this.1 e)
theorem and_top (x : Nat) (h : x < 2 ^ 64) : bits .and .u64 (x : Int) 9223372036854775808 = if sg x then 9223372036854775808 else 0 := by
  have := u64_and_nat x 9223372036854775808 h (by decide)
  rw [show ((9223372036854775808 : Nat) : Int) = 9223372036854775808 from rfl] at this
  have e : x &&& 9223372036854775808 = x / 2 ^ 63 % 2 * 2 ^ 63 := nat_bit 63 x
  rw [this, e]
  unfold sg
  by_cases c : x / 2 ^ 63 % 2 = 1
  · simp [c]
  · have c0 : x / 2 ^ 63 % 2 = 0 := by omega
    simp [c0]
theorem sign_test (x : Nat) (h : x < 2 ^ 64) : (bits .and .u64 (x : Int) 9223372036854775808 != 0) = sg x := by
  rw [and_top x h]; cases sg x <;> rfl
theorem sg_true {x : Nat} (h : x < 2 ^ 64) (hs : sg x = true) : x = 2 ^ 63 + rg x := by
  have := wd_sg_rg x h; rw [hs] at this; exact this.symm
theorem sg_false {x : Nat} (h : x < 2 ^ 64) (hs : sg x = false) : x = rg x := by
  have := wd_sg_rg x h; rw [hs] at this; exact this.symm
theorem pl_true {x : Nat} (hs : sg x = true) : pl x = -1 - (rg x : Int) := by unfold pl; rw [hs]; rfl
theorem pl_false {x : Nat} (hs : sg x = false) : pl x = (rg x : Int) := by unfold pl; rw [hs]; rfl
theorem pl_neg (x : Nat) : pl x < 0 ↔ sg x = true := by
  cases hs : sg x
  · rw [pl_false hs]; exact ⟨fun h => by omega, fun h => by cases h⟩
  · rw [pl_true hs]; exact ⟨fun _ => rfl, fun _ => by omega⟩
theorem pl_bounds (x : Nat) : -9223372036854775808 ≤ pl x ∧ pl x < 9223372036854775808 := by
  have := rg_lt x
  cases hs : sg x
  · rw [pl_false hs]; omega
  · rw [pl_true hs]; omega
theorem pl_inj {x y : Nat} (hx : x < 2 ^ 64) (hy : y < 2 ^ 64) (h : pl x = pl y) : x = y := by
  cases hs : sg x <;> cases ht : sg y
  · rw [pl_false hs, pl_false ht] at h; rw [sg_false hx hs, sg_false hy ht]; omega
  · rw [pl_false hs, pl_true ht] at h; omega
  · rw [pl_true hs, pl_false ht] at h; omega
  · rw [pl_true hs, pl_true ht] at h; rw [sg_true hx hs, sg_true hy ht]; omega

theorem w64 (n : Int) (h1 : -9223372036854775808 ≤ n) (h2 : n < 9223372036854775808) : RowKit.wrap64 n = n := by
  unfold RowKit.wrap64; omega
theorem u64w (n : Int) (h1 : 0 ≤ n) (h2 : n < 18446744073709551616) : IntKind.u64.wrap n = n := by
  simp [IntKind.wrap, IntKind.bits, IntKind.signed]; omega

/-- what 'place' reckons -/
theorem place_neg (x : Nat) (hs : sg x = true) : RowKit.wrap64 (-1 - RowKit.wrap64 (rg x : Int)) = pl x := by
  have := rg_lt x
  rw [w64 (rg x : Int) (by omega) (by omega), w64 _ (by omega) (by omega), pl_true hs]
theorem place_pos (x : Nat) (h : x < 2 ^ 64) (hs : sg x = false) : RowKit.wrap64 (x : Int) = pl x := by
  have := rg_lt x
  have e := sg_false h hs
  rw [w64 (x : Int) (by omega) (by omega), pl_false hs]; omega
/-- what 'at' reckons -/
theorem at_neg (x : Nat) (h : x < 2 ^ 64) (hs : sg x = true) : (bits .or .u64 (IntKind.u64.wrap (RowKit.wrap64 (-1 - pl x))) 9223372036854775808).toNat = x := by
  have hr := rg_lt x
  have e := sg_true h hs
  rw [pl_true hs]
  have e1 : -1 - (-1 - (rg x : Int)) = (rg x : Int) := by omega
  rw [e1, w64 _ (by omega) (by omega), u64w _ (by omega) (by omega)]
  have := u64_or_nat (rg x) 9223372036854775808 (by omega) (by decide)
  rw [show ((9223372036854775808 : Nat) : Int) = 9223372036854775808 from rfl] at this
  rw [this, Nat.or_comm, nat_join 63 _ _ (by decide) hr]
  omega
theorem at_pos (x : Nat) (h : x < 2 ^ 64) (hs : sg x = false) : (IntKind.u64.wrap (pl x)).toNat = x := by
  have hr := rg_lt x
  have e := sg_false h hs
  rw [pl_false hs, u64w _ (by omega) (by omega)]; omega
theorem fmax_r {x y : Nat} (nx : ¬ isNan x) (ny : ¬ isNan y) (h : pl x ≤ pl y) : fmax x y = y := by
  unfold fmax; rw [if_neg (by rintro (h | h) <;> contradiction), if_pos h]
theorem fmax_l {x y : Nat} (hx : x < 2 ^ 64) (hy : y < 2 ^ 64) (nx : ¬ isNan x) (ny : ¬ isNan y) (h : pl y ≤ pl x) : fmax x y = x := by
  unfold fmax; rw [if_neg (by rintro (h | h) <;> contradiction)]
  split
  · exact pl_inj hy hx (by omega)
  · rfl
theorem fmin_l {x y : Nat} (hx : x < 2 ^ 64) (hy : y < 2 ^ 64) (nx : ¬ isNan x) (ny : ¬ isNan y) (h : pl x ≤ pl y) : fmin x y = x := by
  unfold fmin; rw [if_neg (by rintro (h | h) <;> contradiction)]
  split
  · exact pl_inj hy hx (by omega)
  · rfl
theorem fmin_r {x y : Nat} (nx : ¬ isNan x) (ny : ¬ isNan y) (h : pl y ≤ pl x) : fmin x y = y := by
  unfold fmin; rw [if_neg (by rintro (h | h) <;> contradiction), if_pos h]
theorem fmax_nan {x y : Nat} (h : isNan x ∨ isNan y) : fmax x y = NANQ := by unfold fmax; rw [if_pos h]
theorem fmin_nan {x y : Nat} (h : isNan x ∨ isNan y) : fmin x y = NANQ := by unfold fmin; rw [if_pos h]

/-- the class of a word, as the document numbers them -/
def clsF (x : Nat) : Int := if isNan x then 1 else if rg x = INF then 2 else if rg x = 0 then 3 else if rg x < 2 ^ 52 then 4 else 5
theorem clsF_cases (x : Nat) : clsF x = if 9218868437227405312 < (rg x : Int) then 1 else if (rg x : Int) = 9218868437227405312 then 2 else if (rg x : Int) = 0 then 3 else if (rg x : Int) ≤ 4503599627370495 then 4 else 5 := by
  have a : (9218868437227405312 < (rg x : Int)) ↔ isNan x := by unfold isNan INF; omega
  have b : ((rg x : Int) = 9218868437227405312) ↔ rg x = INF := by unfold INF; omega
  have c : ((rg x : Int) = 0) ↔ rg x = 0 := by omega
  have d : ((rg x : Int) ≤ 4503599627370495) ↔ rg x < 2 ^ 52 := by omega
  unfold clsF
  simp only [a, b, c, d]
theorem sameB_eq (x y : Nat) : sameB x y = (decide (isNan x) && decide (isNan y) || ((x : Int) == (y : Int))) := by
  unfold sameB Same
  have c : ((x : Int) == (y : Int)) = decide (x = y) := by
    by_cases h : x = y
    · subst h; simp
    · rw [decide_eq_false h]; simp; omega
  rw [c]
  by_cases h : x = y <;> by_cases g : isNan x <;> by_cases k : isNan y <;> simp [h, g, k]
/-- 'x == y' of two words -/
def eqB (x y : Nat) : Bool := FloatKind.f64.format.order x y == some Ordering.eq
/-- the class of a complex number, as the document numbers them -/
def clsC (a b : Nat) : Int := if (clsF a == 2 || clsF b == 2) = true then 2 else if (clsF a == 1 || clsF b == 1) = true then 1 else if (clsF a == 3 && clsF b == 3) = true then 3 else 4
end Fl
namespace Fl
open Go

abbrev Cpx := Nat × Nat
/-- the value of a complex number -/
def cv (z : Cpx) : Value := .complex .f64 z.1 z.2
/-- the i-th -/
def nth (zs : List Cpx) (i : Nat) : Cpx := zs.getD i (0, 0)
/-- the cells from an address on hold the list -/
def Cells (w : World) (b off : Nat) (zs : List Cpx) : Prop := ∀ i, i < zs.length → w.cell? ⟨b, off + i, none⟩ = some (cv (nth zs i))
/-- a slice value that reads as the list -/
def Sl (w : World) (v : Value) (zs : List Cpx) : Prop :=
  (v = .slice none 0 0 ∧ zs = []) ∨ ∃ b off cap, v = .slice (some ⟨b, off, none⟩) zs.length cap ∧ zs.length ≤ cap ∧ Cells w b off zs

theorem Cells.drewN {w : World} {b off : Nat} {zs : List Cpx} (h : Cells w b off zs) (n : Nat) : Cells (w.drewN n) b off zs := h
theorem Sl.drewN {w : World} {v : Value} {zs : List Cpx} (h : Sl w v zs) (n : Nat) : Sl (w.drewN n) v zs := h
theorem Cells.take {w : World} {b off : Nat} {zs : List Cpx} (h : Cells w b off zs) (k : Nat) : Cells w b off (zs.take k) := fun i hi => by
  have hl : (zs.take k).length ≤ zs.length := List.length_take_le' _ _
  have hk : i < k := by have := List.length_take_le k zs; omega
  rw [h i (by omega)]
  congr 2
  simp [nth, List.getD_eq_getElem?_getD, hk]
theorem Cells.drop {w : World} {b off : Nat} {zs : List Cpx} (h : Cells w b off zs) (k : Nat) : Cells w b (off + k) (zs.drop k) := fun i hi => by
  rw [List.length_drop] at hi
  have := h (k + i) (by omega)
  rw [Nat.add_assoc, this]
  congr 2
  simp [nth, List.getD_eq_getElem?_getD]

inductive HalvesR : List Cpx → Nat → Nat → Prop
  | nil : HalvesR [] 0 0
  | one (z : Cpx) : HalvesR [z] z.1 z.2
  | more (zs : List Cpx) (a b c d x y : Nat) : 2 ≤ zs.length → HalvesR (zs.take (zs.length / 2)) a b → HalvesR (zs.drop (zs.length / 2)) c d → AddR a b c d x y → HalvesR zs x y

/-- added one by one behind what is there -/
inductive FoldR : Nat → Nat → List Cpx → Nat → Nat → Prop
  | nil (a b : Nat) : FoldR a b [] a b
  | cons (a b : Nat) (z : Cpx) (zs : List Cpx) (c d x y : Nat) : AddR a b z.1 z.2 c d → FoldR c d zs x y → FoldR a b (z :: zs) x y

theorem FoldR.snoc {a b : Nat} {zs : List Cpx} {c d : Nat} (h : FoldR a b zs c d) {z : Cpx} {x y : Nat} (g : AddR c d z.1 z.2 x y) : FoldR a b (zs ++ [z]) x y := by
  induction h with
  | nil a b => exact .cons _ _ _ _ _ _ _ _ g (.nil _ _)
  | cons a b z' zs' c' d' x' y' h1 _ ih => exact .cons _ _ _ _ _ _ _ _ h1 (ih g)

/-- the sum from the front of a list of one or more -/
def FrontR (zs : List Cpx) (x y : Nat) : Prop := match zs with
  | [] => x = 0 ∧ y = 0
  | z :: r => FoldR z.1 z.2 r x y
/-- what Sum answers in an order that is one -/
def SumR (zs : List Cpx) (order : Int) (x y : Nat) : Prop :=
  (order = 1 ∧ FrontR zs x y) ∨ (order = 2 ∧ FrontR zs.reverse x y) ∨ (order = 3 ∧ HalvesR zs x y)

/-- a complex number is answered, of which Q; the world but for draws as it was -/
def CRet (Q : Nat → Nat → Prop) (w : World) (e : Ending) (w' : World) : Prop := ∃ x y n, Q x y ∧ e = .returned (.complex .f64 x y) ∧ w' = w.drewN n
theorem CRet.mk {Q : Nat → Nat → Prop} {w : World} {x y : Nat} (n : Nat) (h : Q x y) : CRet Q w (.returned (.complex .f64 x y)) (w.drewN n) := ⟨x, y, n, h, rfl, rfl⟩
theorem CRet.mk0 {Q : Nat → Nat → Prop} {w : World} {x y : Nat} (h : Q x y) : CRet Q w (.returned (.complex .f64 x y)) w := ⟨x, y, 0, h, rfl, rfl⟩

/-- what a call of Sum answers; nothing that was there is written -/
def SumRet (zs : List Cpx) (order : Int) (w : World) (e : Ending) (w' : World) : Prop :=
  ∃ x y code, e = .returned (.tuple #[.complex .f64 x y, .int .i64 code]) ∧
    ((1 ≤ order ∧ order ≤ 3 ∧ code = 0 ∧ SumR zs order x y) ∨ (¬ (1 ≤ order ∧ order ≤ 3) ∧ code = 50 ∧ x = 0 ∧ y = 0)) ∧ RowKit.Below w.heap.size w w'
theorem SumRet.bad {zs : List Cpx} {order : Int} {w w' : World} (h : ¬ (1 ≤ order ∧ order ≤ 3)) (hb : RowKit.Below w.heap.size w w') :
    SumRet zs order w (.returned (.tuple #[.complex .f64 0 0, .int .i64 50])) w' := ⟨0, 0, 50, rfl, .inr ⟨h, rfl, rfl, rfl⟩, hb⟩
theorem SumRet.ok {zs : List Cpx} {order : Int} {w w' : World} {x y : Nat} (h1 : 1 ≤ order) (h3 : order ≤ 3) (h : SumR zs order x y) (hb : RowKit.Below w.heap.size w w') :
    SumRet zs order w (.returned (.tuple #[.complex .f64 x y, .int .i64 0])) w' := ⟨x, y, 0, rfl, .inl ⟨h1, h3, rfl, h⟩, hb⟩
/-- of fewer than two the halves' sum is every order's -/
theorem SumR.short {zs : List Cpx} {order : Int} {x y : Nat} (h1 : 1 ≤ order) (h3 : order ≤ 3) (hl : zs.length < 2 ∨ order = 3) (h : HalvesR zs x y) : SumR zs order x y := by
  by_cases h0 : order = 3
  · exact .inr (.inr ⟨h0, h⟩)
  · have hl : zs.length < 2 := by omega
    have key : FrontR zs x y ∧ FrontR zs.reverse x y := by
      cases h with
      | nil => exact ⟨⟨rfl, rfl⟩, ⟨rfl, rfl⟩⟩
      | one z => exact ⟨.nil _ _, .nil _ _⟩
      | more => omega
    by_cases h2 : order = 1
    · exact .inl ⟨h2, key.1⟩
    · exact .inr (.inl ⟨by omega, key.2⟩)

theorem Cells.below {w w' : World} {b off : Nat} {zs : List Cpx} (h : Cells w b off zs) (hb : RowKit.Below w.heap.size w w') : Cells w' b off zs := fun i hi => by
  have e := h i hi
  have hl : b < w.heap.size := World.block_lt_of_cell? w _ e
  rw [hb.cell hl]; exact e
theorem Sl.below {w w' : World} {v : Value} {zs : List Cpx} (h : Sl w v zs) (hb : RowKit.Below w.heap.size w w') : Sl w' v zs := by
  rcases h with h | ⟨b, off, cap, rfl, hcap, hc⟩
  · exact .inl h
  · exact .inr ⟨b, off, cap, rfl, hcap, hc.below hb⟩
theorem below_alloc (w : World) (o : Obj) : RowKit.Below w.heap.size w (w.alloc o) := (RowKit.Below.refl _ _).alloc (Nat.le_refl _) o
theorem Sl.alloc {w : World} {v : Value} {zs : List Cpx} (h : Sl w v zs) (o : Obj) : Sl (w.alloc o) v zs := h.below (below_alloc w o)

theorem FrontR.snoc {l : List Cpx} {x y : Nat} (h : FrontR l x y) (h0 : l ≠ []) {z : Cpx} {c d : Nat} (g : AddR x y z.1 z.2 c d) : FrontR (l ++ [z]) c d := by
  cases l with
  | nil => exact absurd rfl h0
  | cons a r => exact FoldR.snoc h g
theorem FrontR.step {l : List Cpx} {k x y : Nat} (h1 : 1 ≤ k) (hk : k < l.length) (h : FrontR (l.take k) x y) {c d : Nat} (g : AddR x y (nth l k).1 (nth l k).2 c d) : FrontR (l.take (k + 1)) c d := by
  rw [List.take_succ_eq_append_getElem hk]
  refine h.snoc ?_ ?_
  · intro e
    have := congrArg List.length e
    rw [List.length_take, List.length_nil] at this
    omega
  · have e : nth l k = l[k] := by simp [nth, List.getD_eq_getElem?_getD, hk]
    rw [← e]; exact g
/-- the list in the row in which an order takes it -/
def rowOf (order : Int) (zs : List Cpx) : List Cpx := if order = 2 then zs.reverse else zs
theorem rowOf_len (order : Int) (zs : List Cpx) : (rowOf order zs).length = zs.length := by unfold rowOf; split <;> simp
theorem SumR.front {order : Int} {zs : List Cpx} {x y : Nat} (ho : order = 1 ∨ order = 2) (h : FrontR (rowOf order zs) x y) : SumR zs order x y := by
  unfold rowOf at h
  rcases ho with rfl | rfl
  · exact .inl ⟨rfl, h⟩
  · exact .inr (.inl ⟨rfl, h⟩)

theorem cell_new (w : World) (v : Value) (t : TypeId) : (w.alloc (.cells #[v] t)).cell? ⟨w.heap.size, 0, none⟩ = some v := by
  unfold World.cell?
  have : (w.alloc (.cells #[v] t)).heap[w.heap.size]? = some (.cells #[v] t) := by
    show (w.heap.push _)[w.heap.size]? = _
    simp
  simp only [this]
  rfl
theorem cell_old {w : World} {a : Addr} {v : Value} (h : w.cell? a = some v) (o : Obj) : (w.alloc o).cell? a = some v := by
  have hl : a.block < w.heap.size := World.block_lt_of_cell? w _ h
  rw [(below_alloc w o).cell hl]; exact h

theorem FrontR.first {l : List Cpx} (h : 1 ≤ l.length) : FrontR (l.take 1) (nth l 0).1 (nth l 0).2 := by
  cases l with
  | nil => simp at h
  | cons a r => exact .nil _ _

/-- what a call owns from base on is no block below it -/
theorem own_ne {w : World} {base : Nat} {e : TypeId} {size : Nat} {v : Value} {n : Nat} {xs : List Value} (h : w.ownsRow base e size v n xs) {b : Nat} (hb : b < base) : v.ownBlock ≠ some b := by
  obtain ⟨_, ⟨rfl, _⟩ | ⟨g, cap, cur, rfl, hg, _⟩⟩ := h
  · simp [Value.ownBlock]
  · simp only [Value.ownBlock, ne_eq, Option.some.injEq]; omega
theorem own_ge {w : World} {base : Nat} {e : TypeId} {size : Nat} {v : Value} {n : Nat} {xs : List Value} (h : w.ownsRow base e size v n xs) : ∀ k, v.ownBlock = some k → base ≤ k := by
  obtain ⟨_, ⟨rfl, _⟩ | ⟨g, cap, cur, rfl, hg, _⟩⟩ := h
  · simp [Value.ownBlock]
  · simp only [Value.ownBlock, Option.some.injEq]; omega
/-- an owned row of complex numbers reads as the list -/
theorem Sl.of_own {w : World} {base : Nat} {e : TypeId} {v : Value} {zs : List Cpx} (h : w.ownsRow base e 1 v zs.length (zs.map cv)) : Sl w v zs := by
  obtain ⟨hl, ⟨rfl, h0⟩ | ⟨g, cap, cur, rfl, hg, hb, hn, _, hcs, ht⟩⟩ := h
  · exact .inl ⟨rfl, List.eq_nil_of_length_eq_zero h0⟩
  · refine .inr ⟨g, 0, cap, rfl, hn, fun i hi => ?_⟩
    have : w.cell? ⟨g, 0 + i, none⟩ = cur[i]? := by
      unfold World.cell?; simp [hb]
    rw [this, ← Array.getElem?_toList]
    rw [Nat.mul_one] at ht
    have e1 : cur.toList[i]? = (cur.toList.take zs.length)[i]? := by rw [List.getElem?_take, if_pos hi]
    rw [e1, ht]
    simp [nth, List.getElem?_map, List.getElem?_eq_getElem hi, List.getD_eq_getElem?_getD]
theorem map_take_succ (zs : List Cpx) (k : Nat) (h : k < zs.length) : (zs.take (k + 1)).map cv = (zs.take k).map cv ++ [cv (nth zs k)] := by
  rw [List.take_succ_eq_append_getElem h, List.map_append]
  have : nth zs k = zs[k] := by simp [nth, List.getD_eq_getElem?_getD, h]
  rw [this]; rfl
theorem own_nil (w : World) (base : Nat) (e : TypeId) (size : Nat) : w.ownsRow base e size (.slice none 0 0) 0 [] := ⟨by simp, .inl ⟨rfl, rfl⟩⟩
/-- an owned row that holds something: where it lies, and its cells -/
theorem own_pos {w : World} {base : Nat} {e : TypeId} {v : Value} {zs : List Cpx} (h : w.ownsRow base e 1 v zs.length (zs.map cv)) (h0 : 0 < zs.length) :
    ∃ g cap, v = .slice (some ⟨g, 0, none⟩) zs.length cap ∧ zs.length ≤ cap ∧ base ≤ g ∧ g < w.heap.size ∧ Cells w g 0 zs := by
  have hs := Sl.of_own h
  obtain ⟨hl, ⟨rfl, h0'⟩ | ⟨g, cap, cur, rfl, hg, hb, hn, _, hcs, ht⟩⟩ := h
  · omega
  · rcases hs with ⟨h, _⟩ | ⟨b, off, cap', he, hcap, hc⟩
    · cases h
    · cases he
      exact ⟨g, cap, rfl, hn, hg, World.block_lt_of_cell? w _ (hc 0 h0), hc⟩
theorem own_slice {w : World} {base : Nat} {e : TypeId} {v : Value} {zs : List Cpx} (h : w.ownsRow base e 1 v zs.length (zs.map cv)) : ∃ a cap, v = .slice a zs.length cap := by
  obtain ⟨hl, ⟨rfl, h0'⟩ | ⟨g, cap, cur, rfl, hg, hb, hn, _, hcs, ht⟩⟩ := h
  · rw [h0']; exact ⟨_, _, rfl⟩
  · exact ⟨_, _, rfl⟩
/-- what is read of pairs of words: the form that the walks take -/
theorem BitsOk_nth {bs : List Cpx} (h : ∀ z ∈ bs, z.1 < 2 ^ 64 ∧ z.2 < 2 ^ 64) (k : Nat) (hk : k < bs.length) : (nth bs k).1 < 2 ^ 64 ∧ (nth bs k).2 < 2 ^ 64 := by
  have e : nth bs k = bs[k] := by simp [nth, List.getD_eq_getElem?_getD, hk]
  rw [e]; exact h _ (List.getElem_mem _)
end Fl
namespace Fl
open Go Ieee

/-- The order of two that are numbers is that of their values (an infinity counts as the value behind the greatest). -/
theorem order_num {x y : Nat} (nx : ¬ isNan x) (ny : ¬ isNan y) : D.order x y = some (compare (iv x) (iv y)) := by
  have hv : ∀ z, iv z = if sg z then -(valR (rg z) : Int) else (valR (rg z) : Int) := fun _ => rfl
  rcases cases3 x with hx | hx | hx
  · rcases cases3 y with hy | hy | hy
    · exact order_fin x y hx hy
    · obtain ⟨m, i, e, _⟩ := read_fin x hx
      have lt : valR (rg x) < valR INF := valR_lt hx
      unfold Format.order
      rw [e, read_inf y hy, hv x, hv y, hy]
      generalize valR INF = V at lt ⊢
      cases hs : sg x <;> cases ht : sg y <;> simp only [Datum.order] <;> congr 1 <;> symm <;> simp <;> first | (rw [Int.compare_eq_lt]; omega) | (rw [Int.compare_eq_gt]; omega)
    · exact absurd hy ny
  · rcases cases3 y with hy | hy | hy
    · obtain ⟨m, i, e, _⟩ := read_fin y hy
      have lt : valR (rg y) < valR INF := valR_lt hy
      unfold Format.order
      rw [e, read_inf x hx, hv x, hv y, hx]
      generalize valR INF = V at lt ⊢
      cases hs : sg x <;> cases ht : sg y <;> simp only [Datum.order] <;> congr 1 <;> symm <;> simp <;> first | (rw [Int.compare_eq_lt]; omega) | (rw [Int.compare_eq_gt]; omega)
    · have lt : valR 0 < valR INF := valR_lt (by decide)
      unfold Format.order
      rw [read_inf x hx, read_inf y hy, hv x, hv y, hx, hy]
      generalize valR INF = V at lt ⊢
      cases hs : sg x <;> cases ht : sg y <;> simp only [Datum.order] <;> congr 1 <;> symm <;> simp <;> first | (rw [Int.compare_eq_lt]; omega) | (rw [Int.compare_eq_gt]; omega) | (rw [Int.compare_eq_eq]) | (refine Eq.trans ?_ (show Ordering.gt = _ from rfl); rw [Int.compare_eq_gt]; omega) | (refine Eq.trans ?_ (show Ordering.lt = _ from rfl); rw [Int.compare_eq_lt]; omega)
    · exact absurd hy ny
  · exact absurd hx nx

theorem order_none {x y : Nat} (h : isNan x ∨ isNan y) : D.order x y = none := by
  unfold Format.order
  rcases h with h | h
  · obtain ⟨t, e⟩ := read_nan x h; rw [e]; rfl
  · obtain ⟨t, e⟩ := read_nan y h; rw [e]; cases D.read x <;> rfl

theorem iv_lt {x y : Nat} : iv x < iv y → pl x < pl y := by
  have lt : ∀ {r s : Nat}, valR r < valR s ↔ r < s := valR_lt_iff
  unfold iv pl mv
  intro h
  cases hs : sg x <;> cases ht : sg y <;> simp only [hs, ht] at h ⊢ <;> simp only [if_true, Bool.false_eq_true, if_false] at h ⊢
  · have := (lt (r := rg x) (s := rg y)).1 (by omega); omega
  · omega
  · omega
  · have := (lt (r := rg y) (s := rg x)).1 (by omega); omega

theorem iv_eq {x y : Nat} (h : iv x = iv y) : pl x = pl y ∨ (rg x = 0 ∧ rg y = 0) := by
  have lt : ∀ {r s : Nat}, valR r = valR s → r = s := fun h => valR_inj h
  have z : ∀ {r : Nat}, valR r = 0 → r = 0 := fun h => valR_inj (h.trans valR_zero.symm)
  unfold iv mv at h
  unfold pl
  cases hs : sg x <;> cases ht : sg y <;> simp only [hs, ht] at h ⊢ <;> simp only [if_true, Bool.false_eq_true, if_false] at h ⊢
  · exact .inl (by rw [lt (r := rg x) (s := rg y) (by omega)])
  · exact .inr ⟨z (by omega), z (by omega)⟩
  · exact .inr ⟨z (by omega), z (by omega)⟩
  · exact .inl (by rw [lt (r := rg x) (s := rg y) (by omega)])

def plT (x : Nat) : Int := if isNan x then 9223372036854775807 else pl x
theorem plT_nan {x : Nat} (h : isNan x) : plT x = 9223372036854775807 := by unfold plT; rw [if_pos h]
theorem plT_num {x : Nat} (h : ¬ isNan x) : plT x = pl x := by unfold plT; rw [if_neg h]
theorem pl_num {x : Nat} (h : ¬ isNan x) : -9218868437227405313 ≤ pl x ∧ pl x ≤ 9218868437227405312 := by
  have hr : rg x ≤ 9218868437227405312 := by unfold isNan INF at h; omega
  unfold pl; split <;> omega
theorem plT_bounds (x : Nat) : -9223372036854775808 ≤ plT x ∧ plT x ≤ 9223372036854775807 := by
  by_cases h : isNan x
  · rw [plT_nan h]; omega
  · rw [plT_num h]; have := pl_num h; omega
theorem plT_eq {x y : Nat} (hx : x < 2 ^ 64) (hy : y < 2 ^ 64) : plT x = plT y ↔ Same x y := by
  by_cases h : isNan x
  · by_cases g : isNan y
    · rw [plT_nan h, plT_nan g]; exact ⟨fun _ => .inr ⟨h, g⟩, fun _ => rfl⟩
    · rw [plT_nan h, plT_num g]
      have := pl_num g
      exact ⟨fun e => by omega, fun e => by rcases e with rfl | e; exact absurd h g; exact absurd e.2 g⟩
  · by_cases g : isNan y
    · rw [plT_num h, plT_nan g]
      have := pl_num h
      exact ⟨fun e => by omega, fun e => by rcases e with rfl | e; exact absurd g h; exact absurd e.1 h⟩
    · rw [plT_num h, plT_num g]
      exact ⟨fun e => .inl (pl_inj hx hy e), fun e => by rcases e with rfl | e; rfl; exact absurd e.1 h⟩
def ordI (x y : Nat) : Int := if plT x < plT y then -1 else if plT y < plT x then 1 else 0

/-- the word at a place -/
def ofPl (p : Int) : Nat := if p < 0 then 2 ^ 63 + (-1 - p).toNat else p.toNat
theorem ofPl_lt {p : Int} (h1 : -9223372036854775808 ≤ p) (h2 : p < 9223372036854775808) : ofPl p < 2 ^ 64 := by unfold ofPl; split <;> omega
theorem pl_ofPl {p : Int} (h1 : -9223372036854775808 ≤ p) (h2 : p < 9223372036854775808) : pl (ofPl p) = p := by
  unfold ofPl pl sg rg
  split
  · rw [show ((2 ^ 63 + (-1 - p).toNat) / 2 ^ 63 % 2 == 1) = true by rw [beq_iff_eq]; omega]
    simp only [if_true]; omega
  · rw [show (p.toNat / 2 ^ 63 % 2 == 1) = false by rw [beq_eq_false_iff_ne]; omega]
    simp only [Bool.false_eq_true, if_false]; omega
theorem ofPl_pl {x : Nat} (h : x < 2 ^ 64) : ofPl (pl x) = x :=
  pl_inj (ofPl_lt (pl_bounds x).1 (pl_bounds x).2) h (pl_ofPl (pl_bounds x).1 (pl_bounds x).2)
theorem num_of_pl {x : Nat} (h1 : -9218868437227405313 ≤ pl x) (h2 : pl x ≤ 9218868437227405312) : ¬ isNan x := by
  unfold isNan INF; unfold pl at h1 h2; split at h1 <;> simp_all <;> omega
/-- the next one -/
def nxt (x : Nat) : Nat := if isNan x ∨ pl x = 9218868437227405312 then x else ofPl (pl x + 1)
def prv (x : Nat) : Nat := if isNan x ∨ pl x = -9218868437227405313 then x else ofPl (pl x - 1)
theorem nxt_nan {x : Nat} (h : isNan x) : nxt x = x := by unfold nxt; rw [if_pos (.inl h)]
theorem prv_nan {x : Nat} (h : isNan x) : prv x = x := by unfold prv; rw [if_pos (.inl h)]
theorem nxt_end {x : Nat} (h : pl x = 9218868437227405312) : nxt x = x := by unfold nxt; rw [if_pos (.inr h)]
theorem prv_end {x : Nat} (h : pl x = -9218868437227405313) : prv x = x := by unfold prv; rw [if_pos (.inr h)]
theorem nxt_num {x : Nat} (h : ¬ isNan x) (h2 : pl x ≠ 9218868437227405312) : nxt x < 2 ^ 64 ∧ pl (nxt x) = pl x + 1 ∧ ¬ isNan (nxt x) := by
  have b := pl_num h
  unfold nxt
  rw [if_neg (by rintro (h' | h'); exact h h'; exact h2 h')]
  have e := pl_ofPl (p := pl x + 1) (by omega) (by omega)
  exact ⟨ofPl_lt (by omega) (by omega), e, num_of_pl (by omega) (by omega)⟩
theorem prv_num {x : Nat} (h : ¬ isNan x) (h2 : pl x ≠ -9218868437227405313) : prv x < 2 ^ 64 ∧ pl (prv x) = pl x - 1 ∧ ¬ isNan (prv x) := by
  have b := pl_num h
  unfold prv
  rw [if_neg (by rintro (h' | h'); exact h h'; exact h2 h')]
  have e := pl_ofPl (p := pl x - 1) (by omega) (by omega)
  exact ⟨ofPl_lt (by omega) (by omega), e, num_of_pl (by omega) (by omega)⟩
theorem nxt_lt {x : Nat} (h : x < 2 ^ 64) : nxt x < 2 ^ 64 := by
  unfold nxt; split
  · exact h
  · rename_i c
    have := pl_num (x := x) (fun e => c (.inl e))
    exact ofPl_lt (by omega) (by omega)
theorem prv_lt {x : Nat} (h : x < 2 ^ 64) : prv x < 2 ^ 64 := by
  unfold prv; split
  · exact h
  · rename_i c
    have := pl_num (x := x) (fun e => c (.inl e))
    exact ofPl_lt (by omega) (by omega)
/-- the distance to the next one away from zero -/
def ulpW (x : Nat) : Nat := if ¬ fin x then NANQ else if rg x / 2 ^ 52 ≤ 52 then 2 ^ (rg x / 2 ^ 52 - 1) else (rg x / 2 ^ 52 - 52) * 2 ^ 52
theorem order_pl {x y : Nat} (nx : ¬ isNan x) (ny : ¬ isNan y) (h0 : ¬ (rg x = 0 ∧ rg y = 0)) :
    (D.order x y = some .gt ↔ pl y < pl x) ∧ (D.order x y = some .lt ↔ pl x < pl y) ∧ (D.order x y = some .eq ↔ pl x = pl y) := by
  rw [order_num nx ny]
  have tri : iv x < iv y ∨ iv x = iv y ∨ iv y < iv x := by omega
  rcases tri with h | h | h
  · have p := iv_lt h
    rw [Int.compare_eq_lt.2 h]
    simp only [Option.some.injEq, reduceCtorEq, false_iff, true_iff]
    omega
  · have p : pl x = pl y := (iv_eq h).resolve_right h0
    rw [Int.compare_eq_eq.2 h]
    simp only [Option.some.injEq, reduceCtorEq, false_iff, true_iff]
    omega
  · have p := iv_lt h
    rw [Int.compare_eq_gt.2 h]
    simp only [Option.some.injEq, reduceCtorEq, false_iff, true_iff]
    omega
theorem beq_dec {o : Option Ordering} {c : Ordering} {p : Prop} [Decidable p] (h : o = some c ↔ p) : (o == some c) = decide p := by
  by_cases g : p
  · rw [decide_eq_true g, h.2 g]; cases c <;> rfl
  · rw [decide_eq_false g, beq_eq_false_iff_ne]; exact fun e => g (h.1 e)
/-- 'x > MaxFloat64' -/
theorem gt_max {x : Nat} (hx : x < 2 ^ 64) : (Go.FloatKind.f64.format.order x 9218868437227405311 == some Ordering.gt) = decide (x = INF) := by
  refine beq_dec ?_
  show D.order x 9218868437227405311 = some .gt ↔ x = INF
  have p2 : pl 9218868437227405311 = 9218868437227405311 := by decide
  have pI : pl INF = 9218868437227405312 := by decide
  by_cases nx : isNan x
  · rw [order_none (.inl nx)]
    exact ⟨fun e => (by cases e), fun e => by subst e; exact absurd nx (by decide)⟩
  · rw [(order_pl nx (by decide) (fun h => absurd h.2 (by decide))).1, p2]
    have := pl_num nx
    exact ⟨fun h => pl_inj hx (by decide) (by rw [pI]; omega), fun h => by subst h; rw [pI]; decide⟩
theorem lt_small {x : Nat} (nx : ¬ isNan x) (hs : sg x = false) : (Go.FloatKind.f64.format.order x 4503599627370496 == some Ordering.lt) = decide (rg x < 4503599627370496) := by
  refine beq_dec ?_
  show D.order x 4503599627370496 = some .lt ↔ _
  have p2 : pl 4503599627370496 = 4503599627370496 := by decide
  rw [(order_pl nx (by decide) (fun h => absurd h.2 (by decide))).2.1, p2, pl_false hs]
  omega
theorem mul_52 : ∀ k : Fin 52, D.mul (2 ^ k.val) 4841369599423283200 = some ((k.val + 1) * 2 ^ 52) := by decide +kernel
theorem ordI_cases (x y : Nat) : (ordI x y = -1 ∧ plT x < plT y) ∨ (ordI x y = 0 ∧ plT x = plT y) ∨ (ordI x y = 1 ∧ plT y < plT x) := by
  unfold ordI; split
  · exact .inl ⟨rfl, by assumption⟩
  · split
    · exact .inr (.inr ⟨rfl, by assumption⟩)
    · exact .inr (.inl ⟨rfl, by omega⟩)
theorem ordI_lt {x y : Nat} (h : plT x < plT y) : ordI x y = -1 := by unfold ordI; rw [if_pos h]
theorem ordI_gt {x y : Nat} (h : plT y < plT x) : ordI x y = 1 := by unfold ordI; rw [if_neg (by omega), if_pos h]
theorem ordI_eq {x y : Nat} (h : plT x = plT y) : ordI x y = 0 := by unfold ordI; rw [if_neg (by omega), if_neg (by omega)]
/-- where '<' tells, the row tells the same -/
theorem order_row (x y : Nat) : (D.order x y = some .lt → plT x < plT y) ∧ (D.order x y = some .gt → plT y < plT x) ∧ (D.order x y = some .eq → plT x = plT y ∨ rg x = 0) := by
  by_cases h : isNan x ∨ isNan y
  · rw [order_none h]; exact ⟨fun e => (by cases e), fun e => (by cases e), fun e => (by cases e)⟩
  · have nx : ¬ isNan x := fun e => h (.inl e)
    have ny : ¬ isNan y := fun e => h (.inr e)
    rw [order_num nx ny, plT_num nx, plT_num ny]
    simp only [Option.some.injEq, Int.compare_eq_lt, Int.compare_eq_gt, Int.compare_eq_eq]
    exact ⟨iv_lt, iv_lt, fun e => (iv_eq e).imp id (·.1)⟩
theorem and_exp : ∀ k : Fin 2048, (k.val * 2 ^ 52) &&& 9227875636482146303 = 0 := by decide +kernel
end Fl
namespace Wd
open Go
theorem pow_split (s : Nat) (hs : s ≤ 32) : (4294967296 : Nat) = 2 ^ (32 - s) * 2 ^ s := by rw [← Nat.pow_add, Nat.sub_add_cancel hs]
theorem up_word {x c s : Nat} (hc : c < 2 ^ s) (hs : s < 32) : (x * 2 ^ s % 4294967296 ||| c) = (x * 2 ^ s + c) % 4294967296 := by
  have hp := pow_split s (by omega)
  have e1 : x * 2 ^ s % 4294967296 = x % 2 ^ (32 - s) * 2 ^ s := by
    conv => lhs; rw [hp]
    exact Nat.mul_mod_mul_right _ _ _
  rw [e1, or_lt hc]
  have hd := Nat.div_add_mod x (2 ^ (32 - s))
  have hm := Nat.mod_lt x (Nat.two_pow_pos (32 - s))
  have e2 : x * 2 ^ s + c = x % 2 ^ (32 - s) * 2 ^ s + c + 4294967296 * (x / 2 ^ (32 - s)) := by
    conv => lhs; rw [← hd, Nat.add_mul]
    have : 2 ^ (32 - s) * (x / 2 ^ (32 - s)) * 2 ^ s = 4294967296 * (x / 2 ^ (32 - s)) := by rw [Nat.mul_right_comm, ← hp]
    omega
  rw [e2, Nat.add_mul_mod_self_left]
  refine (Nat.mod_eq_of_lt ?_).symm
  have : (x % 2 ^ (32 - s) + 1) * 2 ^ s ≤ 2 ^ (32 - s) * 2 ^ s := Nat.mul_le_mul_right _ (by omega)
  rw [← hp, Nat.succ_mul] at this
  omega
theorem up_carry {x c s : Nat} (hc : c < 2 ^ s) (hs : s ≤ 32) : (x * 2 ^ s + c) / 4294967296 = x / 2 ^ (32 - s) := by
  rw [pow_split s hs, Nat.mul_comm (2 ^ (32 - s)), ← Nat.div_div_eq_div_mul, Nat.mul_comm x, Nat.mul_add_div (Nat.two_pow_pos s), Nat.div_eq_of_lt hc, Nat.add_zero]
theorem up_carry_lt {x s : Nat} (hx : x < 4294967296) (hs : s ≤ 32) : x / 2 ^ (32 - s) < 2 ^ s := by
  rw [Nat.div_lt_iff_lt_mul (Nat.two_pow_pos _), Nat.mul_comm, ← pow_split s hs]; exact hx
theorem u32_or_nat (x y : Nat) (hx : x < 4294967296) (hy : y < 4294967296) : bits .or .u32 (x : Int) (y : Int) = ((x ||| y : Nat) : Int) := by
  have h : (BitVec.ofInt 32 (x : Int) ||| BitVec.ofInt 32 (y : Int)).toNat = x ||| y := by
    rw [BitVec.toNat_or, BitVec.ofInt_natCast, BitVec.ofInt_natCast, BitVec.toNat_ofNat, BitVec.toNat_ofNat, Nat.mod_eq_of_lt hx, Nat.mod_eq_of_lt hy]
  show IntKind.u32.wrap ((BitVec.ofInt 32 (x : Int) ||| BitVec.ofInt 32 (y : Int)).toNat : Int) = _
  rw [h]
  have hb : x ||| y < 2 ^ 32 := Nat.or_lt_two_pow hx hy
  rw [IntKind.wrap_u32]
  omega
theorem u32_and_nat (x y : Nat) (hx : x < 4294967296) (hy : y < 4294967296) : bits .and .u32 (x : Int) (y : Int) = ((x &&& y : Nat) : Int) := by
  have h : (BitVec.ofInt 32 (x : Int) &&& BitVec.ofInt 32 (y : Int)).toNat = x &&& y := by
    rw [BitVec.toNat_and, BitVec.ofInt_natCast, BitVec.ofInt_natCast, BitVec.toNat_ofNat, BitVec.toNat_ofNat, Nat.mod_eq_of_lt hx, Nat.mod_eq_of_lt hy]
  show IntKind.u32.wrap ((BitVec.ofInt 32 (x : Int) &&& BitVec.ofInt 32 (y : Int)).toNat : Int) = _
  rw [h]
  have hb : x &&& y ≤ x := Nat.and_le_left
  rw [IntKind.wrap_u32]
  omega
/-- the walk's word of up -/
theorem up_bits {x c s : Nat} (hc : c < 2 ^ s) (hs : s < 32) : bits .or .u32 ((x : Int) * 2 ^ s % 4294967296) (c : Int) = (((x * 2 ^ s + c) % 4294967296 : Nat) : Int) := by
  have hc2 : c < 4294967296 := Nat.lt_trans hc (by
    have : 2 ^ s ≤ 2 ^ 31 := Nat.pow_le_pow_right (by decide) (by omega)
    omega)
  rw [← up_word hc hs, ← u32_or_nat _ _ (Nat.mod_lt _ (by decide)) hc2, Int.natCast_emod, Int.natCast_mul, Int.natCast_pow]
  rfl
end Wd
namespace Wd
theorem down_word0 (l : List Nat) (ok : Ok l) (s i : Nat) (hs : s < 32) (h : s = 0 ∨ l.length ≤ i + 1) : l.getD i 0 / 2 ^ s = val l / 2 ^ s / 4294967296 ^ i % 4294967296 := by
  rw [← down_word l ok s i hs]
  have : l.getD (i + 1) 0 * 2 ^ (32 - s) % 4294967296 = 0 := by
    rcases h with rfl | h
    · rw [show 2 ^ (32 - 0) = 4294967296 from rfl]; exact Nat.mul_mod_left _ _
    · rw [getD_beyond l (i + 1) h, Nat.zero_mul]
  rw [this, Nat.or_zero]
end Wd
namespace Wd
/-- how many bits a number has -/
def blen (n : Nat) : Nat := if n = 0 then 0 else n.log2 + 1
theorem blen_zero : blen 0 = 0 := rfl
theorem blen_lt (n : Nat) : n < 2 ^ blen n := by
  unfold blen
  by_cases h : n = 0
  · rw [if_pos h, h]; decide
  · rw [if_neg h]; exact Nat.lt_log2_self
theorem blen_le {n : Nat} (h : n ≠ 0) : 2 ^ (blen n - 1) ≤ n := by
  unfold blen
  rw [if_neg h, Nat.add_sub_cancel]; exact Nat.log2_self_le h
theorem blen_unique {n t : Nat} (h1 : t = 0 ∨ 2 ^ (t - 1) ≤ n) (h2 : n < 2 ^ t) : blen n = t := by
  by_cases h : n = 0
  · subst h
    rcases h1 with rfl | h1
    · rfl
    · have := Nat.two_pow_pos (t - 1); omega
  · have h3 := blen_lt n
    have h4 := blen_le h
    have h5 : 1 ≤ blen n := by unfold blen; rw [if_neg h]; omega
    rcases h1 with rfl | h1
    · simp at h2; omega
    · have a : t - 1 < blen n := (Nat.pow_lt_pow_iff_right (by decide : 1 < 2)).1 (Nat.lt_of_le_of_lt h1 h3)
      have b : blen n - 1 < t := (Nat.pow_lt_pow_iff_right (by decide : 1 < 2)).1 (Nat.lt_of_le_of_lt h4 h2)
      have c : 1 ≤ t := by
        by_cases e : t = 0
        · subst e; simp at h2; omega
        · omega
      omega
theorem blen_words {a : List Nat} {x : Nat} (oa : Ok a) (hx : x ≠ 0) : blen (val (a ++ [x])) = 32 * a.length + blen x := by
  have h1 := blen_lt x
  have h2 := blen_le hx
  have h3 : 1 ≤ blen x := by unfold blen; rw [if_neg hx]; omega
  have ha := val_lt oa
  rw [val_snoc]
  rw [pw] at *
  refine blen_unique (.inr ?_) ?_
  · have : 2 ^ (32 * a.length) * 2 ^ (blen x - 1) ≤ 2 ^ (32 * a.length) * x := Nat.mul_le_mul_left _ h2
    rw [← Nat.pow_add] at this
    have e : 32 * a.length + blen x - 1 = 32 * a.length + (blen x - 1) := by omega
    rw [e]; omega
  · have : 2 ^ (32 * a.length) * (x + 1) ≤ 2 ^ (32 * a.length) * 2 ^ blen x := Nat.mul_le_mul_left _ h1
    rw [← Nat.pow_add, Nat.mul_succ] at this
    omega
/-- the loop that counts: x shifted j times -/
theorem blen_step {x j : Nat} (h : x / 2 ^ j ≠ 0) : 2 ^ (j + 1 - 1) ≤ x := by
  rw [Nat.add_sub_cancel]
  by_cases c : 2 ^ j ≤ x
  · exact c
  · exact absurd (Nat.div_eq_of_lt (by omega)) h
theorem blen_end {x j : Nat} (h1 : j = 0 ∨ 2 ^ (j - 1) ≤ x) (h : x / 2 ^ j = 0) : blen x = j := by
  refine blen_unique h1 ?_
  by_cases c : x < 2 ^ j
  · exact c
  · have := (Nat.le_div_iff_mul_le (Nat.two_pow_pos j)).2 (show 1 * 2 ^ j ≤ x by omega)
    omega
theorem half_again (x j : Nat) : x / 2 ^ j / 2 = x / 2 ^ (j + 1) := by rw [Nat.div_div_eq_div_mul, Nat.pow_succ]
theorem blen_le_32 {x : Nat} (h : x < 4294967296) : blen x ≤ 32 := by
  by_cases h0 : x = 0
  · subst h0; decide
  · have := blen_le h0
    have : blen x - 1 < 32 := (Nat.pow_lt_pow_iff_right (by decide : 1 < 2)).1 (Nat.lt_of_le_of_lt this h)
    omega
end Wd
namespace Wd
/-- t is how many noughts stand at the end of n (of 0: 0) -/
def TzR (n t : Nat) : Prop := (n = 0 ∧ t = 0) ∨ (n % 2 ^ t = 0 ∧ n / 2 ^ t % 2 = 1)
theorem tz_words {l : List Nat} {k j x : Nat} (h0 : val (l.take k) = 0) (hk : k < l.length) (hx : l.getD k 0 = x) (hj : j < 32) (h1 : x % 2 ^ j = 0) (h2 : x / 2 ^ j % 2 = 1) : TzR (val l) (32 * k + j) := by
  right
  have e := val_split l k (by omega)
  rw [h0, Nat.zero_add, drop_cons' l k hk, hx, val_cons, pw] at e
  rw [e, Nat.pow_add, Nat.mul_mod_mul_left, ← Nat.div_div_eq_div_mul, Nat.mul_div_cancel_left _ (Nat.two_pow_pos _)]
  generalize val (l.drop (k + 1)) = D
  have hp : (4294967296 : Nat) = 2 ^ j * (2 * 2 ^ (31 - j)) := by
    rw [Nat.mul_left_comm, ← Nat.pow_add]
    have : j + (31 - j) = 31 := by omega
    rw [this]
  constructor
  · rw [hp, Nat.mul_assoc, Nat.add_mul_mod_self_left, h1, Nat.mul_zero]
  · rw [hp, Nat.mul_assoc, Nat.add_mul_div_left _ _ (Nat.two_pow_pos _), Nat.mul_assoc]
    omega
theorem tz_zero : TzR 0 0 := .inl ⟨rfl, rfl⟩
/-- the loop that halves -/
def HalfV (x j : Nat) (Y : Int) : Prop := Y = ((x / 2 ^ j : Nat) : Int) ∧ x % 2 ^ j = 0 ∧ j < 32
theorem HalfV.start (x : Nat) : HalfV x 0 x := ⟨by rw [Nat.pow_zero, Nat.div_one], by rw [Nat.pow_zero]; exact Nat.mod_one _, by omega⟩
theorem HalfV.pos {x j : Nat} {Y : Int} (h : HalfV x j Y) : 0 ≤ Y := by rw [h.1]; exact Int.natCast_nonneg _
theorem HalfV.lt {x j : Nat} {Y : Int} (h : HalfV x j Y) (hx : x < 4294967296) : Y < 4294967296 := by
  obtain ⟨rfl, _, _⟩ := h
  have := Nat.div_le_self x (2 ^ j)
  generalize x / 2 ^ j = y at *
  omega
theorem HalfV.step {x j : Nat} {Y : Int} (h : HalfV x j Y) (hx : x < 4294967296) (h0 : x ≠ 0) (hY : Y % 2 = 0) : HalfV x (j + 1) (Y / 2) := by
  obtain ⟨rfl, h2, h3⟩ := h
  have h4 : x / 2 ^ j % 2 = 0 := by
    generalize x / 2 ^ j = y at *
    omega
  have h5 : x % 2 ^ (j + 1) = 0 := by
    rw [Nat.pow_succ, Nat.mod_mul, h2, h4]; simp
  refine ⟨?_, h5, ?_⟩
  · rw [← half_again, Int.natCast_ediv]; rfl
  · have hd := Nat.div_add_mod x (2 ^ (j + 1))
    rw [h5, Nat.add_zero] at hd
    have : 2 ^ (j + 1) ≤ x := by
      by_cases c : x / 2 ^ (j + 1) = 0
      · rw [c, Nat.mul_zero] at hd; omega
      · have := Nat.mul_le_mul_left (2 ^ (j + 1)) (Nat.one_le_iff_ne_zero.2 c)
        omega
    exact (Nat.pow_lt_pow_iff_right (by decide : 1 < 2)).1 (Nat.lt_of_le_of_lt this hx)
theorem HalfV.done {x j : Nat} {Y : Int} (h : HalfV x j Y) (hY : ¬ Y % 2 = 0) : x / 2 ^ j % 2 = 1 := by
  obtain ⟨rfl, _, _⟩ := h
  generalize x / 2 ^ j = y at *
  omega
theorem HalfV.and {x j : Nat} {Y : Int} (h : HalfV x j Y) (hx : x < 4294967296) : Go.bits .and .u32 Y 1 = Y % 2 := by
  have hl := h.lt hx
  obtain ⟨rfl, _, _⟩ := h
  have := u32_and_nat (x / 2 ^ j) 1 (by generalize x / 2 ^ j = y at *; omega) (by decide)
  rw [show ((1 : Nat) : Int) = 1 from rfl] at this
  rw [this, Nat.and_one_is_mod]; rfl
end Wd
set_option linter.unusedVariables false
set_option linter.unusedSimpArgs false
namespace Wd
/-- q times the divisor's two upper words is not above the dividend's three -/
theorem q_upper {q U V P T D ul vl : Nat} (hU : U = T * P + ul) (hul : ul < P) (hV : V = D * P + vl) (hq : q * V ≤ U) : q * D ≤ T := by
  have h1 : q * D * P ≤ q * V := by rw [hV, Nat.mul_add, ← Nat.mul_assoc]; exact Nat.le_add_right _ _
  have h2 : q * D * P < (T + 1) * P := by rw [Nat.add_mul, Nat.one_mul]; omega
  have := Nat.lt_of_mul_lt_mul_right h2
  omega
theorem q_first {q t v1 v2 u2 : Nat} (hu : u2 < 4294967296) (h : q * (v1 * 4294967296 + v2) ≤ t * 4294967296 + u2) : q * v1 ≤ t := by
  rw [Nat.mul_add, ← Nat.mul_assoc] at h
  generalize q * v1 = a at *
  generalize q * v2 = b at *
  omega
/-- the trial digit and what it leaves -/
def Tr (t v1 q g r : Nat) : Prop := t = g * v1 + r ∧ q ≤ g
theorem Tr.start {t v1 q : Nat} (hv : 0 < v1) (h : q * v1 ≤ t) : Tr t v1 q (t / v1) (t % v1) :=
  ⟨by rw [Nat.mul_comm]; exact (Nat.div_add_mod t v1).symm, (Nat.le_div_iff_mul_le hv).2 h⟩
theorem Tr.step {t v1 v2 u2 q g r : Nat} (h : Tr t v1 q g r) (hu : q * (v1 * 4294967296 + v2) ≤ t * 4294967296 + u2) (hq : q < 4294967296) (hg : 4294967296 ≤ g ∨ r * 4294967296 + u2 < g * v2) : Tr t v1 q (g - 1) (r + v1) ∧ 1 ≤ g := by
  obtain ⟨h1, h2⟩ := h
  have lt : q < g := by
    rcases hg with hg | hg
    · omega
    · have h3 : q * (v1 * 4294967296 + v2) < g * (v1 * 4294967296 + v2) := by
        rw [Nat.mul_add g, ← Nat.mul_assoc]
        subst h1
        generalize g * v1 = a at *
        omega
      exact Nat.lt_of_mul_lt_mul_right h3
  obtain ⟨j, rfl⟩ : ∃ j, g = j + 1 := ⟨g - 1, by omega⟩
  refine ⟨⟨?_, by omega⟩, by omega⟩
  rw [h1, Nat.add_mul, Nat.one_mul, Nat.add_sub_cancel]; omega
theorem Tr.close {t v1 v2 u2 q g r : Nat} (h : Tr t v1 q g r) (hg : g * v2 ≤ r * 4294967296 + u2) : g * (v1 * 4294967296 + v2) ≤ t * 4294967296 + u2 := by
  obtain ⟨h1, _⟩ := h
  rw [Nat.mul_add, ← Nat.mul_assoc]
  subst h1
  generalize g * v1 = a at *
  omega
theorem Tr.closeR {t v1 v2 u2 q g r : Nat} (h : Tr t v1 q g r) (hg : g ≤ 4294967296) (hv : v2 < 4294967296) (hr : 4294967296 ≤ r) : g * (v1 * 4294967296 + v2) ≤ t * 4294967296 + u2 := by
  refine h.close ?_
  have h1 : g * v2 ≤ 4294967296 * v2 := Nat.mul_le_mul_right _ hg
  omega
/-- the trial digit is at most one too great -/
theorem g_upper {g U V P T D ul vl v1 v2 : Nat} (hU : U = T * P + ul) (hV : V = D * P + vl) (hvl : vl < P) (hD : D = v1 * 4294967296 + v2) (hv : 1 ≤ v1) (hg : g ≤ 4294967296) (h : g * D ≤ T) : g * V < U + V := by
  have h1 : g * D * P ≤ T * P := Nat.mul_le_mul_right _ h
  have h2 : g * vl ≤ 4294967296 * vl := Nat.mul_le_mul_right _ hg
  have h3 : 1 * 4294967296 * P ≤ D * P := Nat.mul_le_mul_right _ (by rw [hD]; omega)
  have e : g * V = g * D * P + g * vl := by rw [hV, Nat.mul_add, Nat.mul_assoc]
  rw [e, hU, hV]
  omega
theorem g_cases {g U V q : Nat} (hV : 0 < V) (hq : q = U / V) (h1 : q ≤ g) (h2 : g * V < U + V) : g = q ∨ g = q + 1 := by
  have h3 := Nat.div_add_mod U V
  have h4 := Nat.mod_lt U hV
  rw [← hq] at h3
  by_cases c : g ≤ q + 1
  · omega
  · exfalso
    have h5 : (q + 2) * V ≤ g * V := Nat.mul_le_mul_right _ (by omega)
    rw [Nat.add_mul, Nat.mul_comm q] at h5
    omega
/-- one word of the subtraction -/
theorem sub_step {X X' U S P u y b b' c p d : Nat} (h : X + S = U + (b + c) * P) (hX : X' + P * u = X + P * d) (hp : p % 4294967296 + b = y) (hd : d + y = u + 4294967296 * b') (g v : Nat) (hpe : p = c + g * v) :
    X' + (S + P * (g * v)) = U + (b' + p / 4294967296) * (4294967296 * P) := by
  have e1 : p = 4294967296 * (p / 4294967296) + p % 4294967296 := (Nat.div_add_mod p _).symm
  generalize p / 4294967296 = c' at *
  generalize p % 4294967296 = m at *
  -- d + m + b = u + B b', g v = B c' + m - c
  have e2 : g * v + c = 4294967296 * c' + m := by omega
  generalize g * v = gv at *
  have e3 : P * d + P * m + P * b = P * u + 4294967296 * (P * b') := by
    have : P * (d + y) = P * (u + 4294967296 * b') := by rw [hd]
    rw [← hp] at this
    rw [Nat.mul_add, Nat.mul_add, Nat.mul_add, Nat.mul_left_comm P 4294967296 b'] at this
    omega
  have e4 : P * gv + P * c = 4294967296 * (P * c') + P * m := by
    have : P * (gv + c) = P * (4294967296 * c' + m) := by rw [e2]
    simp only [Nat.mul_add] at this
    rw [Nat.mul_left_comm] at this
    omega
  have e5 : (b + c) * P = P * b + P * c := by rw [Nat.add_mul, Nat.mul_comm b, Nat.mul_comm c]
  have e6 : (b' + c') * (4294967296 * P) = 4294967296 * (P * b') + 4294967296 * (P * c') := by
    rw [Nat.add_mul, Nat.mul_left_comm b', Nat.mul_left_comm c', Nat.mul_comm b', Nat.mul_comm c']
  rw [e5] at h
  rw [e6]
  generalize P * gv = a1 at *
  generalize P * c = a2 at *
  generalize P * c' = a3 at *
  generalize P * m = a4 at *
  generalize P * b = a5 at *
  generalize P * b' = a6 at *
  generalize P * u = a7 at *
  generalize P * d = a8 at *
  omega
theorem sub_bound {c g v p : Nat} (hc : c < 4294967296) (hg : g < 4294967296) (hv : v < 4294967296) (hp : p = c + g * v) : p < 18446744073709551616 ∧ p / 4294967296 < 4294967296 := by
  have : g * v ≤ 4294967295 * 4294967295 := Nat.mul_le_mul (by omega) (by omega)
  generalize g * v = a at *
  omega
/-- one word of the adding back -/
theorem back_step {X X' U S P u b x v : Nat} (h : X + b * P = U + S) (hx : x = u + b + v) (hX : X' + P * u = X + P * (x % 4294967296)) :
    X' + (x / 4294967296) * (4294967296 * P) = U + (S + P * v) := by
  have e1 : x = 4294967296 * (x / 4294967296) + x % 4294967296 := (Nat.div_add_mod x _).symm
  generalize x / 4294967296 = c' at *
  generalize x % 4294967296 = m at *
  have e2 : P * u + P * b + P * v = 4294967296 * (P * c') + P * m := by
    have : P * (u + b + v) = P * (4294967296 * c' + m) := by rw [← hx, e1]
    simp only [Nat.mul_add] at this
    rw [Nat.mul_left_comm P 4294967296 c'] at this
    exact this
  have e3 : b * P = P * b := Nat.mul_comm _ _
  have e4 : c' * (4294967296 * P) = 4294967296 * (P * c') := by rw [Nat.mul_left_comm, Nat.mul_comm c']
  rw [e3] at h
  rw [e4]
  generalize P * c' = a3 at *
  generalize P * m = a4 at *
  generalize P * b = a5 at *
  generalize P * u = a7 at *
  generalize P * v = a8 at *
  omega
/-- the subtraction's end -/
theorem sub_end {X U G N b : Nat} (h : X + G = U + b * N) (hX : X < N) (hG : G ≤ U) (hb : b ≤ 1) : b = 0 ∧ X = U - G := by
  rcases Nat.lt_or_ge 0 b with c | c
  · have : b = 1 := by omega
    subst this; omega
  · have : b = 0 := by omega
    subst this; omega
theorem sub_end' {X U G N b : Nat} (h : X + G = U + b * N) (hG : U < G) (hb : b ≤ 1) : b = 1 ∧ X + G = U + N := by
  rcases Nat.lt_or_ge 0 b with c | c
  · have : b = 1 := by omega
    subst this; exact ⟨rfl, by rw [Nat.one_mul] at h; exact h⟩
  · have : b = 0 := by omega
    subst this; omega
theorem back_end {X X' U V N g q k : Nat} (hX : X + g * V = U + N) (hg : g = q + 1) (h : X' + k * N = X + V) (hX' : X' < N) (hV : V ≤ N) (hq1 : q * V ≤ U) (hq2 : U < q * V + V) : X' = U - q * V := by
  subst hg
  rw [Nat.add_mul, Nat.one_mul] at hX
  generalize q * V = a at *
  -- X' + kN = U + N - a - V + V
  have h1 : X' + k * N = U - a + N := by omega
  have h2 : U - a < N := by omega
  have : k = 1 := by
    rcases Nat.lt_trichotomy k 1 with c | c | c
    · have : k = 0 := by omega
      subst this; omega
    · exact c
    · exfalso
      have : 2 * N ≤ k * N := Nat.mul_le_mul_right _ c
      omega
  subst this; omega
/-- the upper words of a normalised list: it is at least half of all -/
theorem top_split (l : List Nat) (k : Nat) (hl : l.length = k + 2) : val l = (l.getD (k + 1) 0 * 4294967296 + l.getD k 0) * 4294967296 ^ k + val (l.take k) := by
  have h := val_split l k (by omega)
  rw [drop_cons' l k (by omega), drop_cons' l (k + 1) (by omega), List.drop_of_length_le (by omega), val_cons, val_cons, val_nil] at h
  rw [h, Nat.mul_comm (_ ^ k)]
  generalize l.getD (k + 1) 0 = a
  generalize l.getD k 0 = b
  rw [show b + 4294967296 * (a + 4294967296 * 0) = a * 4294967296 + b by omega, Nat.add_comm]
theorem top_split3 (l : List Nat) (k : Nat) (hl : l.length = k + 3) : val l = ((l.getD (k + 2) 0 * 4294967296 + l.getD (k + 1) 0) * 4294967296 + l.getD k 0) * 4294967296 ^ k + val (l.take k) := by
  have h := val_split l k (by omega)
  rw [drop_cons' l k (by omega), drop_cons' l (k + 1) (by omega), drop_cons' l (k + 2) (by omega), List.drop_of_length_le (by omega), val_cons, val_cons, val_cons, val_nil] at h
  rw [h, Nat.mul_comm (_ ^ k)]
  generalize l.getD (k + 2) 0 = a
  generalize l.getD (k + 1) 0 = b
  generalize l.getD k 0 = c
  rw [show c + 4294967296 * (b + 4294967296 * (a + 4294967296 * 0)) = (a * 4294967296 + b) * 4294967296 + c by omega, Nat.add_comm]
theorem val_take_lt {l : List Nat} (ok : Ok l) (k : Nat) (hk : k ≤ l.length) : val (l.take k) < 4294967296 ^ k := by
  have := val_lt (ok.take k)
  rwa [List.length_take, Nat.min_eq_left hk] at this
end Wd
set_option linter.unusedVariables false
namespace Wd
/-- what the trial is asked, in numbers -/
structure DigH (l m : List Nat) (K Q : Nat) : Prop where
  hl : l.length = K + 3
  hm : m.length = K + 2
  ol : Ok l
  om : Ok m
  hQ : Q = val l / val m
  hv : 2147483648 ≤ m.getD (K + 1) 0
  hlt : val l < val m * 4294967296
theorem DigH.Qlt {l m : List Nat} {K Q : Nat} (h : DigH l m K Q) : Q < 4294967296 := by
  rw [h.hQ]
  exact (Nat.div_lt_iff_lt_mul (by have := h.hlt; omega)).2 (by have := h.hlt; omega)
theorem DigH.upper {l m : List Nat} {K Q : Nat} (h : DigH l m K Q) : Q * (m.getD (K + 1) 0 * 4294967296 + m.getD K 0) ≤ (l.getD (K + 2) 0 * 4294967296 + l.getD (K + 1) 0) * 4294967296 + l.getD K 0 :=
  q_upper (top_split3 l K h.hl) (val_take_lt h.ol K (by have := h.hl; omega)) (top_split m K h.hm) (by rw [h.hQ]; exact Nat.div_mul_le_self _ _)
theorem DigH.start {l m : List Nat} {K Q : Nat} (h : DigH l m K Q) : Tr (l.getD (K + 2) 0 * 4294967296 + l.getD (K + 1) 0) (m.getD (K + 1) 0) Q ((l.getD (K + 2) 0 * 4294967296 + l.getD (K + 1) 0) / m.getD (K + 1) 0) ((l.getD (K + 2) 0 * 4294967296 + l.getD (K + 1) 0) % m.getD (K + 1) 0) :=
  Tr.start (by have := h.hv; omega) (q_first (h.ol.get K) h.upper)
theorem top_le {B P a b c d tl ml U V : Nat} (hU : U = (a * B + c) * (B * P) + tl) (hV : V = (b * B + d) * P + ml) (hml : ml < P) (hd : d < B) (h : U < V * B) : a ≤ b := by
  by_cases g : a ≤ b
  · exact g
  · exfalso
    have h1 : V ≤ (b + 1) * B * P := by
      have : (b * B + d + 1) * P ≤ (b + 1) * B * P := Nat.mul_le_mul_right _ (by rw [Nat.add_mul, Nat.one_mul]; omega)
      rw [Nat.add_mul (b * B + d), Nat.one_mul] at this
      omega
    have h2 : V * B ≤ (b + 1) * B * P * B := Nat.mul_le_mul_right _ h1
    have h3 : (b + 1) * B * (B * P) ≤ a * B * (B * P) := Nat.mul_le_mul_right _ (Nat.mul_le_mul_right _ (by omega))
    have h4 : a * B * (B * P) ≤ (a * B + c) * (B * P) := Nat.mul_le_mul_right _ (Nat.le_add_right _ _)
    have h5 : (b + 1) * B * P * B = (b + 1) * B * (B * P) := by rw [Nat.mul_assoc _ P, Nat.mul_comm P]
    omega
theorem DigH.top {l m : List Nat} {K Q : Nat} (h : DigH l m K Q) : l.getD (K + 2) 0 ≤ m.getD (K + 1) 0 := by
  have h1 := top_split l (K + 1) h.hl
  rw [pw_succ] at h1
  exact top_le h1 (top_split m K h.hm) (val_take_lt h.om K (by have := h.hm; omega)) (h.om.get K) h.hlt
/-- the trial's state -/
def TrN (t v Q g r : Nat) : Prop := Tr t v Q g r ∧ r < 4294967296 ∧ g ≤ 4294967297 ∧ (g = 4294967297 → r + v < 4294967296)
theorem DigH.startS {l m : List Nat} {K Q : Nat} (h : DigH l m K Q) : TrN (l.getD (K + 2) 0 * 4294967296 + l.getD (K + 1) 0) (m.getD (K + 1) 0) Q ((l.getD (K + 2) 0 * 4294967296 + l.getD (K + 1) 0) / m.getD (K + 1) 0) ((l.getD (K + 2) 0 * 4294967296 + l.getD (K + 1) 0) % m.getD (K + 1) 0) := by
  have h1 := h.start
  have h2 := h.top
  have h3 := h.hv
  have h4 := h.ol.get (K + 1)
  have h5 := h.om.get (K + 1)
  unfold TrN
  generalize l.getD (K + 2) 0 = a at *
  generalize l.getD (K + 1) 0 = c at *
  generalize m.getD (K + 1) 0 = b at *
  have e := h1.1
  have hr : (a * 4294967296 + c) % b < b := Nat.mod_lt _ (by omega)
  refine ⟨h1, by omega, ?_, ?_⟩
  · by_cases x : (a * 4294967296 + c) / b ≤ 4294967297
    · exact x
    · exfalso
      generalize (a * 4294967296 + c) / b = g at *
      have : 4294967298 * b ≤ g * b := Nat.mul_le_mul_right _ (by omega)
      omega
  · intro x
    rw [x] at e
    omega
/-- what the trial leaves -/
def TrE (Q g : Nat) : Prop := (g = Q ∨ g = Q + 1) ∧ g < 4294967296
theorem DigH.fin {l m : List Nat} {K Q g r : Nat} (h : DigH l m K Q) (t : Tr (l.getD (K + 2) 0 * 4294967296 + l.getD (K + 1) 0) (m.getD (K + 1) 0) Q g r) (hg : g < 4294967296) (hc : g * m.getD K 0 ≤ r * 4294967296 + l.getD K 0 ∨ 4294967296 ≤ r) : TrE Q g := by
  refine ⟨?_, hg⟩
  have hc2 : g * (m.getD (K + 1) 0 * 4294967296 + m.getD K 0) ≤ (l.getD (K + 2) 0 * 4294967296 + l.getD (K + 1) 0) * 4294967296 + l.getD K 0 := by
    rcases hc with hc | hc
    · exact t.close hc
    · exact t.closeR (by omega) (h.om.get K) hc
  have hv := h.hv
  have e1 := g_upper (top_split3 l K h.hl) (top_split m K h.hm) (val_take_lt h.om K (by have := h.hm; omega)) rfl (by omega) (by omega) hc2
  refine g_cases ?_ h.hQ t.2 e1
  have := h.hlt
  omega
/-- another round of the trial -/
theorem DigH.exit {l m : List Nat} {K Q g r : Nat} (h : DigH l m K Q) (t : TrN (l.getD (K + 2) 0 * 4294967296 + l.getD (K + 1) 0) (m.getD (K + 1) 0) Q g r) (hg : ¬ (4294967296 ≤ g ∨ r * 4294967296 + l.getD K 0 < g * m.getD K 0)) : TrE Q g :=
  h.fin t.1 (by omega) (.inl (by omega))
theorem DigH.round {l m : List Nat} {K Q g r : Nat} (h : DigH l m K Q) (t : TrN (l.getD (K + 2) 0 * 4294967296 + l.getD (K + 1) 0) (m.getD (K + 1) 0) Q g r) (hg : 4294967296 ≤ g ∨ r * 4294967296 + l.getD K 0 < g * m.getD K 0) :
    1 ≤ g ∧ (r + m.getD (K + 1) 0 < 4294967296 → TrN (l.getD (K + 2) 0 * 4294967296 + l.getD (K + 1) 0) (m.getD (K + 1) 0) Q (g - 1) (r + m.getD (K + 1) 0)) ∧ (4294967296 ≤ r + m.getD (K + 1) 0 → TrE Q (g - 1)) := by
  obtain ⟨t1, t2, t3, t4⟩ := t
  obtain ⟨s1, s2⟩ := t1.step h.upper h.Qlt hg
  exact ⟨s2, fun hr => ⟨s1, hr, by omega, fun e => by omega⟩, fun hr => h.fin s1 (by omega) (.inr hr)⟩
/-- the same of integers -/
def TrI (t v Q : Nat) (G R : Int) : Prop := ∃ g r : Nat, G = g ∧ R = r ∧ TrN t v Q g r
theorem TrI.bounds {t v Q : Nat} {G R : Int} (h : TrI t v Q G R) : 0 ≤ G ∧ G ≤ 4294967297 ∧ 0 ≤ R ∧ R < 4294967296 := by
  obtain ⟨g, r, rfl, rfl, _, h1, h2, _⟩ := h
  omega
theorem TrI.round {t v Q u a : Nat} {G R : Int} (h : TrI t v Q G R) (H : ∀ g r, TrN t v Q g r → (4294967296 ≤ g ∨ r * 4294967296 + u < g * a) → 1 ≤ g ∧ (r + v < 4294967296 → TrN t v Q (g - 1) (r + v)) ∧ (4294967296 ≤ r + v → TrE Q (g - 1)))
    (hg : 4294967296 ≤ G ∨ R * 4294967296 + u < G * a) : 1 ≤ G ∧ (R + v < 4294967296 → TrI t v Q (G - 1) (R + v)) ∧ (4294967296 ≤ R + v → ∃ g : Nat, G - 1 = g ∧ TrE Q g) := by
  obtain ⟨g, r, rfl, rfl, h⟩ := h
  have hg' : 4294967296 ≤ g ∨ r * 4294967296 + u < g * a := by
    rcases hg with hg | hg
    · exact .inl (by omega)
    · refine .inr ?_
      have e : ((g : Int) * (a : Int)) = ((g * a : Nat) : Int) := by rw [Int.natCast_mul]
      rw [e] at hg
      generalize g * a = p at *
      omega
  obtain ⟨s1, s2, s3⟩ := H g r h hg'
  exact ⟨by omega, fun x => ⟨g - 1, r + v, by omega, by omega, s2 (by omega)⟩, fun x => ⟨g - 1, by omega, s3 (by omega)⟩⟩
theorem TrI.exit {t v Q u a : Nat} {G R : Int} (h : TrI t v Q G R) (H : ∀ g r, TrN t v Q g r → ¬ (4294967296 ≤ g ∨ r * 4294967296 + u < g * a) → TrE Q g)
    (hg : G < 4294967296) (hc : ¬ R * 4294967296 + u < G * a) : ∃ g : Nat, G = g ∧ TrE Q g := by
  obtain ⟨g, r, rfl, rfl, h⟩ := h
  refine ⟨g, rfl, H g r h ?_⟩
  have e : ((g : Int) * (a : Int)) = ((g * a : Nat) : Int) := by rw [Int.natCast_mul]
  rw [e] at hc
  generalize g * a = p at *
  omega
/-- the subtraction's state: what is borrowed and carried -/
def SubV (l m : List Nat) (G n i : Nat) (C b : Int) (X : List Nat) : Prop :=
  ∃ c bo : Nat, C = c ∧ b = bo ∧ c < 4294967296 ∧ bo ≤ 1 ∧ X.length = n ∧ Ok X ∧ val X + G * val (m.take i) = val l + (bo + c) * 4294967296 ^ i ∧ (m.length < i → c = 0)
theorem SubV.start {l m : List Nat} {n : Nat} (G : Nat) (h : l.length = n) (ok : Ok l) : SubV l m G n 0 0 0 l :=
  ⟨0, 0, rfl, rfl, by omega, by omega, h, ok, by simp [val], fun _ => rfl⟩
theorem SubV.bounds {l m X : List Nat} {G n i : Nat} {C b : Int} (h : SubV l m G n i C b X) : 0 ≤ C ∧ C < 4294967296 ∧ 0 ≤ b ∧ b ≤ 1 ∧ X.length = n ∧ Ok X := by
  obtain ⟨c, bo, rfl, rfl, h1, h2, h3, h4, _⟩ := h
  exact ⟨by omega, by omega, by omega, by omega, h3, h4⟩
theorem SubV.step {l m X : List Nat} {G n i : Nat} {C b : Int} (h : SubV l m G n i C b X) (hi : i < n) (om : Ok m) (hG : G < 4294967296) {p q : Int} (hp : p = C + (G * m.getD i 0 : Nat)) (hq : q = p % 4294967296) {d : Nat} {b' : Int} (hb : b' = 0 ∨ b' = 1) (hd : (d : Int) + (q + b) = (X.getD i 0 : Nat) + 4294967296 * b') (hdl : d < 4294967296) :
    SubV l m G n (i + 1) (p / 4294967296) b' (X.set i d) := by
  obtain ⟨c, bo, rfl, rfl, h1, h2, h3, h4, h5, h6⟩ := h
  have hv := om.get i
  obtain ⟨s1, s2⟩ := sub_bound (c := c) (g := G) (v := m.getD i 0) h1 hG hv rfl
  obtain ⟨pN, hpN⟩ : ∃ pN, c + G * m.getD i 0 = pN := ⟨_, rfl⟩
  have hpp : p = (pN : Int) := by rw [hp, ← hpN]; omega
  rw [hpN] at s1 s2
  obtain ⟨bN, rfl⟩ : ∃ bN : Nat, b' = bN := ⟨b'.toNat, by omega⟩
  refine ⟨pN / 4294967296, bN, by rw [hpp]; omega, rfl, s2, by omega, by rw [List.length_set]; exact h3, h4.set hdl, ?_, fun hm => ?_⟩
  case refine_2 =>
    have hz := getD_beyond m i (by omega)
    rw [hz, Nat.mul_zero, Nat.add_zero] at hpN
    rw [← hpN]; omega
  rw [val_take_succ', Nat.mul_add, pw_succ, Nat.mul_left_comm G]
  refine sub_step (b := bo) (c := c) (y := pN % 4294967296 + bo) h5 (val_set X i d (by omega)) rfl ?_ G (m.getD i 0) hpN.symm
  subst hq hpp
  omega
theorem SubV.done {l m X : List Nat} {G n Q : Nat} {C b : Int} (h : SubV l m G n n C b X) (hl : l.length = n) (ol : Ok l) (hm : m.length < n) (om : Ok m) (hV : 0 < val m) (hQ : Q = val l / val m) (hE : TrE Q G) :
    (b = 0 ∧ G = Q ∧ val X = val l % val m) ∨ (b = 1 ∧ G = Q + 1 ∧ val X + G * val m = val l + 4294967296 ^ n) := by
  obtain ⟨c, bo, rfl, rfl, h1, h2, h3, h4, h5, h6⟩ := h
  rw [h6 hm, Nat.add_zero, take_all (by omega)] at h5
  have hX := val_lt h4
  rw [h3] at hX
  have hq1 := Nat.div_add_mod (val l) (val m)
  have hq2 := Nat.mod_lt (val l) hV
  rw [← hQ, Nat.mul_comm] at hq1
  rcases hE.1 with e | e
  · left
    subst e
    obtain ⟨s1, s2⟩ := sub_end h5 hX (by omega) h2
    exact ⟨by omega, rfl, by omega⟩
  · right
    have e2 : G * val m = Q * val m + val m := by rw [e, Nat.add_mul, Nat.one_mul]
    obtain ⟨s1, s2⟩ := sub_end' h5 (by omega) h2
    exact ⟨by omega, e, s2⟩
/-- the adding back's state -/
def BackV (X0 m : List Nat) (n i : Nat) (C : Int) (X : List Nat) : Prop :=
  ∃ c : Nat, C = c ∧ c ≤ 1 ∧ X.length = n ∧ Ok X ∧ val X + c * 4294967296 ^ i = val X0 + val (m.take i)
theorem BackV.start {X m : List Nat} {n : Nat} (h : X.length = n) (ok : Ok X) : BackV X m n 0 0 X := ⟨0, rfl, by omega, h, ok, by simp [val]⟩
theorem BackV.bounds {X0 m X : List Nat} {n i : Nat} {C : Int} (h : BackV X0 m n i C X) : 0 ≤ C ∧ C ≤ 1 ∧ X.length = n ∧ Ok X := by
  obtain ⟨c, rfl, h1, h2, h3, _⟩ := h
  exact ⟨by omega, by omega, h2, h3⟩
theorem BackV.step {X0 m X : List Nat} {n i : Nat} {C : Int} (h : BackV X0 m n i C X) (hi : i < n) (om : Ok m) {x : Int} (hx : x = (X.getD i 0 : Nat) + C + (m.getD i 0 : Nat)) :
    BackV X0 m n (i + 1) (x / 4294967296) (X.set i (x % 4294967296).toNat) := by
  obtain ⟨c, rfl, h1, h2, h3, h4⟩ := h
  have hv := om.get i
  have hX := h3.get i
  obtain ⟨xN, hxN⟩ : ∃ xN, X.getD i 0 + c + m.getD i 0 = xN := ⟨_, rfl⟩
  have hxx : x = (xN : Int) := by rw [hx, ← hxN]; omega
  have e : (x % 4294967296).toNat = xN % 4294967296 := by rw [hxx]; omega
  rw [e]
  refine ⟨xN / 4294967296, by rw [hxx]; omega, by omega, by rw [List.length_set]; exact h2, h3.set (Nat.mod_lt _ (by decide)), ?_⟩
  rw [val_take_succ', pw_succ]
  exact back_step h4 hxN.symm (val_set X i _ (by omega))
theorem BackV.done {l X0 m X : List Nat} {n Q G : Nat} {C : Int} (h : BackV X0 m n n C X) (hn : l.length = n) (hm : m.length < n) (om : Ok m) (hV : 0 < val m) (hQ : Q = val l / val m) (hG : G = Q + 1) (hX : val X0 + G * val m = val l + 4294967296 ^ n) : val X = val l % val m := by
  obtain ⟨c, rfl, h1, h2, h3, h4⟩ := h
  rw [take_all (by omega)] at h4
  have hX' := val_lt h3
  rw [h2] at hX'
  have hmV := val_lt om
  have hq1 := Nat.div_add_mod (val l) (val m)
  have hq2 := Nat.mod_lt (val l) hV
  rw [← hQ, Nat.mul_comm] at hq1
  have hp : 4294967296 ^ m.length ≤ 4294967296 ^ n := Nat.pow_le_pow_right (by decide) (by omega)
  have := back_end hX hG h4 hX' (by omega) (by omega) (by omega)
  omega
end Wd
set_option linter.unusedVariables false
namespace Wd
theorem nm_len {l : List Nat} (ok : Ok l) (nm : Nm l) {k : Nat} (h1 : 4294967296 ^ k ≤ val l) (h2 : val l < 4294967296 ^ (k + 1)) : l.length = k + 1 := by
  have a := length_le nm h2
  rcases Nat.lt_or_ge k l.length with c | c
  · omega
  · exfalso
    have b := val_lt ok
    have : 4294967296 ^ l.length ≤ 4294967296 ^ k := Nat.pow_le_pow_right (by decide) c
    omega
theorem top_word {l : List Nat} {k : Nat} (hl : l.length = k + 1) : val l = val (l.take k) + 4294967296 ^ k * l.getD k 0 := by
  rw [← val_take_succ', take_all (by omega)]
theorem shl_len {r v : List Nat} {x s : Nat} (ok : Ok r) (ov : Ok v) (nv : Nm v) (h1 : 2147483648 ≤ x * 2 ^ s) (h2 : x * 2 ^ s < 4294967296) (hs : s < 32) (hv : val v = val (r ++ [x]) * 2 ^ s) :
    v.length = r.length + 1 ∧ 2147483648 ≤ v.getD r.length 0 := by
  have hr := val_lt ok
  rw [val_snoc] at hv
  obtain ⟨P, hP⟩ : ∃ P, 4294967296 ^ r.length = P := ⟨_, rfl⟩
  have hP0 : 0 < P := by rw [← hP]; exact pw_pos _
  rw [hP] at hr hv
  have lo : 2147483648 * P ≤ val v := by
    rw [hv, Nat.add_mul]
    have : 2147483648 * P ≤ x * 2 ^ s * P := Nat.mul_le_mul_right _ h1
    have e : P * x * 2 ^ s = x * 2 ^ s * P := by ac_rfl
    omega
  have hi : val v < 4294967296 * P := by
    rw [hv]
    obtain ⟨y, hy⟩ : ∃ y, 2 ^ (32 - s) = y := ⟨_, rfl⟩
    have sp := pow_split s (by omega)
    rw [hy] at sp
    have hx : x < y := by
      rw [sp] at h2
      exact Nat.lt_of_mul_lt_mul_right h2
    have : (val r + P * x) < y * P := by
      have : (x + 1) * P ≤ y * P := Nat.mul_le_mul_right _ hx
      rw [Nat.add_mul, Nat.one_mul] at this
      have e : P * x = x * P := Nat.mul_comm _ _
      omega
    have h3 := Nat.mul_lt_mul_of_pos_right this (Nat.two_pow_pos s)
    have e : y * P * 2 ^ s = 4294967296 * P := by rw [sp]; ac_rfl
    omega
  have len := nm_len ov nv (k := r.length) (by rw [hP]; omega) (by rw [pw_succ, hP]; exact hi)
  refine ⟨len, ?_⟩
  have tw := top_word len
  have tl := val_take_lt ov r.length (by omega)
  rw [hP] at tw tl
  generalize v.getD r.length 0 = y at *
  rcases Nat.lt_or_ge y 2147483648 with c | c
  · exfalso
    have : P * (y + 1) ≤ P * 2147483648 := Nat.mul_le_mul_left _ c
    rw [Nat.mul_add, Nat.mul_one] at this
    have e : 2147483648 * P = P * 2147483648 := Nat.mul_comm _ _
    omega
  · exact c
theorem shl_len_u {a u : List Nat} {s : Nat} (oa : Ok a) (na : Nm a) (h0 : a ≠ []) (ou : Ok u) (nu : Nm u) (hs : s < 32) (hu : val u = val a * 2 ^ s) : a.length ≤ u.length ∧ u.length ≤ a.length + 1 := by
  have h1 := na.le h0
  have h2 := val_lt oa
  have h3 := val_lt ou
  have hl : 0 < a.length := List.length_pos_iff.2 h0
  constructor
  · rcases Nat.lt_or_ge u.length a.length with c | c
    · exfalso
      have : 4294967296 ^ u.length ≤ 4294967296 ^ (a.length - 1) := Nat.pow_le_pow_right (by decide) (by omega)
      have : val a * 1 ≤ val a * 2 ^ s := Nat.mul_le_mul_left _ (Nat.two_pow_pos s)
      omega
    · exact c
  · refine length_le nu ?_
    rw [pw_succ, hu, Nat.mul_comm]
    have : 2 ^ s < 2 ^ 32 := Nat.pow_lt_pow_right (by decide) hs
    exact Nat.mul_lt_mul_of_lt_of_le this (Nat.le_of_lt h2) (pw_pos _)
/-- a part of a row put in place of another -/
def splice (X l : List Nat) (j : Nat) : List Nat := X.take j ++ l ++ X.drop (j + l.length)
theorem splice_len {X l : List Nat} {j : Nat} (h : j + l.length ≤ X.length) : (splice X l j).length = X.length := by
  unfold splice
  rw [List.length_append, List.length_append, List.length_take, List.length_drop]; omega
theorem splice_get {X l : List Nat} {j : Nat} (h : j + l.length ≤ X.length) (i : Nat) : (splice X l j).getD i 0 = if j ≤ i ∧ i < j + l.length then l.getD (i - j) 0 else X.getD i 0 := by
  unfold splice
  have h1 : (X.take j).length = j := by rw [List.length_take]; omega
  simp only [List.getD_eq_getElem?_getD]
  by_cases c1 : i < j
  · rw [List.append_assoc, List.getElem?_append_left (by omega), List.getElem?_take, if_pos c1, if_neg (by omega)]
  · by_cases c2 : i < j + l.length
    · rw [if_pos ⟨by omega, c2⟩, List.getElem?_append_left (by rw [List.length_append]; omega), List.getElem?_append_right (by omega), h1]
    · rw [if_neg (by omega), List.getElem?_append_right (by rw [List.length_append]; omega), List.getElem?_drop, List.length_append, h1, show j + l.length + (i - (j + l.length)) = i by omega]
theorem splice_ok {X l : List Nat} {j : Nat} (h : Ok X) (g : Ok l) : Ok (splice X l j) := ((h.take j).append g).append (h.drop _)
theorem splice_val {X l : List Nat} {j : Nat} (h : j + l.length ≤ X.length) : val (splice X l j) = val (X.take j) + 4294967296 ^ j * (val l + 4294967296 ^ l.length * val (X.drop (j + l.length))) := by
  unfold splice
  have h1 : (X.take j).length = j := by rw [List.length_take]; omega
  rw [List.append_assoc, val_append, val_append, h1]
theorem val_drop_split (X : List Nat) (j k : Nat) (h : j + k ≤ X.length) : val (X.drop j) = val ((X.drop j).take k) + 4294967296 ^ k * val (X.drop (j + k)) := by
  rw [val_split (X.drop j) k (by rw [List.length_drop]; omega), List.drop_drop]
/-- the division's state: what is left of the dividend, what stands of the quotient -/
structure DivV (U0 n : Nat) (v : List Nat) (t : Nat) (X Q : List Nat) : Prop where
  hX : X.length = n + v.length
  oX : Ok X
  hQ : Q.length = n
  oQ : Ok Q
  hv : val Q * val v + val X = U0
  hr : val (X.drop t) < val v
  hz : ∀ j, j < t → Q.getD j 0 = 0
  ht : t ≤ n
theorem DivV.start {U0 n : Nat} {v X : List Nat} (hX : X.length = n + v.length) (oX : Ok X) (h : val X = U0) (hU : U0 < val v * 4294967296 ^ n) : DivV U0 n v n X (List.replicate n 0) where
  hX := hX
  oX := oX
  hQ := List.length_replicate
  oQ := .replicate _
  hv := by rw [val_replicate, Nat.zero_mul, Nat.zero_add, h]
  hr := by
    rw [← val_div X oX, h]
    exact (Nat.div_lt_iff_lt_mul (pw_pos n)).2 hU
  hz := fun j _ => by rw [List.getD_eq_getElem?_getD, List.getElem?_replicate]; split <;> rfl
  ht := Nat.le_refl _
theorem start_small {A s lb n : Nat} {a v : List Nat} (oa : Ok a) (hs : s ≤ 31) (hl : v.length = lb + 1) (hn : n + lb = a.length) (hv : 2147483648 ≤ v.getD lb 0) (hA : val a = A) : A * 2 ^ s < val v * 4294967296 ^ n := by
  have h1 := val_lt oa
  have tw := top_word hl
  have h2 : 4294967296 ^ lb * 2147483648 ≤ val v := by
    have : 4294967296 ^ lb * 2147483648 ≤ 4294967296 ^ lb * v.getD lb 0 := Nat.mul_le_mul_left _ hv
    omega
  have h3 : 4294967296 ^ lb * 2147483648 * 4294967296 ^ n ≤ val v * 4294967296 ^ n := Nat.mul_le_mul_right _ h2
  have e : 4294967296 ^ lb * 2147483648 * 4294967296 ^ n = 4294967296 ^ a.length * 2147483648 := by rw [← hn, Nat.pow_add]; ac_rfl
  have h4 : 2 ^ s ≤ 2147483648 := Nat.pow_le_pow_right (n := 2) (by decide) hs
  rw [hA] at h1
  have h5 : A * 2 ^ s < 4294967296 ^ a.length * 2147483648 := Nat.mul_lt_mul_of_lt_of_le h1 h4 (by decide)
  omega
/-- the words above those that a digit is reckoned of are 0 -/
theorem DivV.above {U0 n t : Nat} {v X Q : List Nat} (h : DivV U0 n v (t + 1) X Q) (ov : Ok v) : val (X.drop (t + (v.length + 1))) = 0 ∧ val ((X.drop t).take (v.length + 1)) = val (X.drop t) ∧ t + (v.length + 1) ≤ X.length := by
  have hl := h.hX
  have ht := h.ht
  have hr := h.hr
  have hvl := val_lt ov
  have hle : t + (v.length + 1) ≤ X.length := by omega
  have sp := val_drop_split X (t + 1) v.length (by omega)
  have z : val (X.drop (t + 1 + v.length)) = 0 := by
    rcases Nat.eq_zero_or_pos (val (X.drop (t + 1 + v.length))) with c | c
    · exact c
    · exfalso
      have : 4294967296 ^ v.length * 1 ≤ 4294967296 ^ v.length * val (X.drop (t + 1 + v.length)) := Nat.mul_le_mul_left _ c
      omega
  rw [show t + 1 + v.length = t + (v.length + 1) by omega] at z
  have sp2 := val_drop_split X t (v.length + 1) hle
  rw [z, Nat.mul_zero, Nat.add_zero] at sp2
  exact ⟨z, sp2.symm, hle⟩
theorem DivV.dig {U0 n t K : Nat} {v X Q : List Nat} (h : DivV U0 n v (t + 1) X Q) (ov : Ok v) (hK : v.length = K + 2) (htop : 2147483648 ≤ v.getD (K + 1) 0) : DigH ((X.drop t).take (K + 3)) v K (val ((X.drop t).take (K + 3)) / val v) := by
  obtain ⟨a1, a2, a3⟩ := h.above ov
  rw [hK] at a2 a3
  refine ⟨by rw [List.length_take, List.length_drop]; omega, hK, (h.oX.drop t).take _, ov, rfl, htop, ?_⟩
  rw [a2, drop_cons' X t (by omega), val_cons]
  have := h.oX.get t
  have := h.hr
  omega
theorem DivV.step {U0 n t K : Nat} {v X Q l : List Nat} (h : DivV U0 n v (t + 1) X Q) (ov : Ok v) (hK : v.length = K + 2) (hl : l.length = K + 3) (ol : Ok l) (hm : val l = val ((X.drop t).take (K + 3)) % val v) (hq : val ((X.drop t).take (K + 3)) / val v < 4294967296) :
    DivV U0 n v t (splice X l t) (Q.set t (val ((X.drop t).take (K + 3)) / val v)) := by
  obtain ⟨a1, a2, a3⟩ := h.above ov
  rw [hK] at a1 a2 a3
  have hle : t + l.length ≤ X.length := by omega
  have ht := h.ht
  have hQl := h.hQ
  have hqs := val_set Q t (val ((X.drop t).take (K + 3)) / val v) (by omega)
  rw [h.hz t (by omega), Nat.mul_zero, Nat.add_zero] at hqs
  have hdm := Nat.div_add_mod (val ((X.drop t).take (K + 3))) (val v)
  rw [← hm] at hdm
  have hsv := splice_val hle
  rw [hl, a1, Nat.mul_zero, Nat.add_zero] at hsv
  have hXs := val_split X t (by omega)
  rw [← a2] at hXs
  have hV : 0 < val v := by have := h.hr; omega
  refine ⟨by rw [splice_len hle]; exact h.hX, splice_ok h.oX ol, by rw [List.length_set]; exact hQl, h.oQ.set hq, ?_, ?_, ?_, by omega⟩
  · rw [hsv, hqs]
    have := h.hv
    rw [hXs] at this
    rw [← this]
    generalize val ((X.drop t).take (K + 3)) / val v = q at *
    rw [show K + 2 + 1 = K + 3 from rfl, ← hdm, Nat.add_mul, Nat.mul_add, Nat.mul_assoc, Nat.mul_comm q]
    omega
  · have e : val ((splice X l t).drop t) = val l := by
      unfold splice
      have h1 : (X.take t).length = t := by rw [List.length_take]; omega
      rw [List.append_assoc, List.drop_left' h1, val_append, hl, a1, Nat.mul_zero, Nat.add_zero]
    rw [e, hm]
    exact Nat.mod_lt _ hV
  · intro j hj
    rw [getD_set _ _ _ _ (by omega), if_neg (by omega)]
    exact h.hz j (by omega)
theorem DivV.done {U0 n : Nat} {v X Q : List Nat} (h : DivV U0 n v 0 X Q) : val Q = U0 / val v ∧ val X = U0 % val v := by
  have h1 := h.hv
  have h2 := h.hr
  rw [List.drop_zero] at h2
  have hV : 0 < val v := by omega
  have e := Nat.div_mod_unique (a := U0) (c := val X) (d := val Q) hV
  obtain ⟨a, b⟩ := e.2 ⟨by rw [Nat.mul_comm (val v)]; omega, h2⟩
  exact ⟨a.symm, b.symm⟩
theorem DivV.low {U0 n : Nat} {v X Q : List Nat} (h : DivV U0 n v 0 X Q) (ov : Ok v) : val (X.take v.length) = val X := by
  have h2 := h.hr
  rw [List.drop_zero] at h2
  have := val_lt ov
  rw [← val_mod X h.oX v.length (by rw [h.hX]; omega), Nat.mod_eq_of_lt (by omega)]
theorem shl_div {A b s : Nat} : A * 2 ^ s / (b * 2 ^ s) = A / b ∧ A * 2 ^ s % (b * 2 ^ s) / 2 ^ s = A % b := by
  refine ⟨Nat.mul_div_mul_right _ _ (Nat.two_pow_pos s), ?_⟩
  rw [Nat.mul_mod_mul_right, Nat.mul_div_cancel _ (Nat.two_pow_pos s)]
/-- the division by one word: its state -/
def SmV (l : List Nat) (x n t : Nat) (r : Int) (Q : List Nat) : Prop :=
  ∃ c : Nat, r = c ∧ c < x ∧ Q.length = n ∧ Ok Q ∧ val Q * x + 4294967296 ^ t * c + val (l.take t) = val l ∧ ∀ j, j < t → Q.getD j 0 = 0
theorem SmV.start {l : List Nat} {x n : Nat} (hx : 0 < x) (hl : l.length = n) : SmV l x n n 0 (List.replicate n 0) :=
  ⟨0, rfl, hx, List.length_replicate, .replicate _, by rw [val_replicate, take_all (by omega)]; simp, fun j _ => by rw [List.getD_eq_getElem?_getD, List.getElem?_replicate]; split <;> rfl⟩
theorem SmV.bounds {l Q : List Nat} {x n t : Nat} {r : Int} (h : SmV l x n t r Q) : 0 ≤ r ∧ r < x ∧ Q.length = n ∧ Ok Q := by
  obtain ⟨c, rfl, h1, h2, h3, _⟩ := h
  exact ⟨by omega, by omega, h2, h3⟩
theorem SmV.step {l Q : List Nat} {x n t : Nat} {r : Int} (h : SmV l x n (t + 1) r Q) (hn : t < n) (hx : x < 4294967296) (ol : Ok l) {T : Int} (hT : T = r * 4294967296 + (l.getD t 0 : Nat)) :
    0 ≤ T ∧ T < 18446744073709551616 ∧ 0 ≤ T / x ∧ T / x < 4294967296 ∧ SmV l x n t (T % x) (Q.set t (T / x).toNat) := by
  obtain ⟨c, rfl, h1, h2, h3, h4, h5⟩ := h
  have hg := ol.get t
  obtain ⟨N, hN⟩ : ∃ N, c * 4294967296 + l.getD t 0 = N := ⟨_, rfl⟩
  have hTN : T = (N : Int) := by rw [hT, ← hN]; omega
  subst hTN
  have hdm := Nat.div_add_mod N x
  have hml := Nat.mod_lt N (show x > 0 by omega)
  have hq : N / x < 4294967296 := by
    refine (Nat.div_lt_iff_lt_mul (by omega)).2 ?_
    have : c * 4294967296 + 4294967296 ≤ 4294967296 * x := by omega
    omega
  have e1 : (N : Int) / (x : Int) = ((N / x : Nat) : Int) := by rw [Int.natCast_ediv]
  have e2 : (N : Int) % (x : Int) = ((N % x : Nat) : Int) := by rw [Int.natCast_emod]
  rw [e1, e2, Int.toNat_natCast]
  clear e1 e2
  generalize N / x = q at *
  generalize N % x = m at *
  refine ⟨by omega, by omega, by omega, by omega, m, rfl, hml, by rw [List.length_set]; exact h2, h3.set hq, ?_, fun j hj => by rw [getD_set _ _ _ _ (by omega), if_neg (by omega)]; exact h5 j (by omega)⟩
  have hs := val_set Q t q (by omega)
  rw [h5 t (by omega), Nat.mul_zero, Nat.add_zero] at hs
  rw [hs, ← h4, val_take_succ', pw_succ, Nat.add_mul]
  have e : 4294967296 ^ t * q * x + 4294967296 ^ t * m = 4294967296 ^ t * (4294967296 * c) + 4294967296 ^ t * l.getD t 0 := by
    rw [Nat.mul_assoc, ← Nat.mul_add, ← Nat.mul_add, Nat.mul_comm q, hdm, ← hN, Nat.mul_comm c]
  have e3 : 4294967296 * 4294967296 ^ t * c = 4294967296 ^ t * (4294967296 * c) := by ac_rfl
  rw [e3]
  omega
theorem SmV.done {l Q : List Nat} {x n : Nat} {r : Int} (h : SmV l x n 0 r Q) : val Q = val l / x ∧ r = ((val l % x : Nat) : Int) := by
  obtain ⟨c, rfl, h1, h2, h3, h4, h5⟩ := h
  rw [Nat.pow_zero, Nat.one_mul, List.take_zero, val_nil, Nat.add_zero] at h4
  have e := Nat.div_mod_unique (a := val l) (c := c) (d := val Q) (show 0 < x by omega)
  obtain ⟨a, b⟩ := e.2 ⟨by rw [Nat.mul_comm x]; omega, h1⟩
  exact ⟨a.symm, by rw [b]⟩
end Wd
namespace Fl
open Ieee

/-- x is the whole number m. -/
def IsI (x : Nat) (m : Int) : Prop := fin x ∧ iv x = m * (UN : Int) ∧ x < 2 ^ 64

theorem exists_rung (k : Nat) (hk : k ≤ 2 ^ 53) : ∃ r, r < INF ∧ valR r = k * UN := by
  have hU := UE_eq
  by_cases h0 : k = 0
  · subst h0; exact ⟨0, by decide, by simp [valR_zero]⟩
  · by_cases h53 : k = 2 ^ 53
    · refine ⟨UE * 2 ^ 52 + 2 ^ 53, by unfold INF; omega, ?_⟩
      rw [valR_mk _ _ (by omega) (.inr (by omega)), h53, UN_def]
    · have hl := log2_lt_pow (n := k) (k := 52) (by omega)
      have a := pow_log2_le h0
      have b := lt_log2_pow k
      generalize hlg : k.log2 = l at *
      refine ⟨(UE - 52 + l) * 2 ^ 52 + k * 2 ^ (52 - l), ?_, ?_⟩
      · have : k * 2 ^ (52 - l) < 2 ^ (l + 1) * 2 ^ (52 - l) := (Nat.mul_lt_mul_right (Nat.two_pow_pos _)).2 b
        rw [← Nat.pow_add] at this
        have e : l + 1 + (52 - l) = 53 := by omega
        rw [e] at this
        unfold INF; omega
      · have h1 : k * 2 ^ (52 - l) < 2 ^ 53 := by
          have : k * 2 ^ (52 - l) < 2 ^ (l + 1) * 2 ^ (52 - l) := (Nat.mul_lt_mul_right (Nat.two_pow_pos _)).2 b
          rw [← Nat.pow_add] at this
          have e : l + 1 + (52 - l) = 53 := by omega
          rwa [e] at this
        have h2 : 2 ^ 52 ≤ k * 2 ^ (52 - l) := by
          have : 2 ^ l * 2 ^ (52 - l) ≤ k * 2 ^ (52 - l) := Nat.mul_le_mul_right _ a
          rw [← Nat.pow_add] at this
          have e : l + (52 - l) = 52 := by omega
          rwa [e] at this
        rw [valR_mk _ _ (by omega) (.inr h2), Nat.mul_assoc, ← Nat.pow_add, UN_def]
        have e : 52 - l + (UE - 52 + l) = UE := by omega
        rw [e]

theorem rq_exact {r d : Nat} (hr : r < INF) (hd : 0 < d) : rq (valR r * d) d = r := by
  unfold rq
  rw [rungQ_valR r d hd, Nat.min_eq_left (by omega)]

theorem INF_63 : INF < 2 ^ 63 := by decide

/-- a word set together of a sign and a rung below infinity's -/
theorem fin_wd {s : Bool} {r : Nat} (h : r < INF) : fin (wd s r) := by
  unfold fin; rw [rg_wd s r (by have := INF_63; omega)]; exact h
theorem mv_wd {s : Bool} {r : Nat} (h : r < INF) : mv (wd s r) = valR r := by
  unfold mv; rw [rg_wd s r (by have := INF_63; omega)]
theorem iv_wd {s : Bool} {r : Nat} (h : r < INF) : iv (wd s r) = if s then -(valR r : Int) else (valR r : Int) := by
  unfold iv; rw [sg_wd s r (by have := INF_63; omega), mv_wd h]

theorem IsI.of_wd {s : Bool} {k : Nat} (hk : k ≤ 2 ^ 53) {m : Int} (hm : m = if s then -(k : Int) else (k : Int)) (n d : Nat) (hd : 0 < d) (hn : n = k * UN * d) : IsI (wd s (rq n d)) m := by
  obtain ⟨r, hr, hv⟩ := exists_rung k hk
  rw [hn, ← hv, rq_exact hr hd]
  refine ⟨fin_wd hr, ?_, wd_lt _ _ (by have := INF_63; omega)⟩
  rw [iv_wd hr, hv, hm]
  cases s
  · simp
  · simp [Int.neg_mul]

theorem iv_natAbs (x : Nat) : (iv x).natAbs = mv x := by unfold iv; split <;> omega

theorem IsI.mv {x : Nat} {m : Int} (h : IsI x m) : mv x = m.natAbs * UN := by
  have := congrArg Int.natAbs h.2.1
  rw [iv_natAbs, Int.natAbs_mul, Int.natAbs_natCast] at this
  exact this
theorem IsI.sg {x : Nat} {m : Int} (h : IsI x m) (h0 : m ≠ 0) : sg x = decide (m < 0) := by
  have e := h.2.1
  have hU : (0 : Int) < UN := by have := UN_pos; omega
  unfold iv at e
  cases hs : Fl.sg x
  · rw [hs] at e
    simp only [Bool.false_eq_true, if_false] at e
    have : 0 ≤ m := by
      by_cases c : 0 ≤ m
      · exact c
      · have := Int.mul_neg_of_neg_of_pos (a := m) (b := UN) (by omega) hU
        omega
    rw [decide_eq_false (by omega)]
  · rw [hs] at e
    simp only [if_true] at e
    have : m < 0 := by
      by_cases c : m < 0
      · exact c
      · have := Int.mul_pos (a := m) (b := UN) (by omega) hU
        omega
    rw [decide_eq_true this]

theorem IsI.add {x y r : Nat} {m n : Int} (hx : IsI x m) (hy : IsI y n) (h : FAdd x y r) (hb : (m + n).natAbs ≤ 2 ^ 53) : IsI r (m + n) := by
  have e := h.eq (add_fin x y hx.1 hy.1)
  have ev : iv x + iv y = (m + n) * (UN : Int) := by rw [hx.2.1, hy.2.1, Int.add_mul]
  have hU : (0 : Int) < UN := by have := UN_pos; omega
  rw [e, ev]
  refine IsI.of_wd hb ?_ _ 1 (by omega) (by rw [Int.natAbs_mul, Int.natAbs_natCast, Nat.mul_one])
  by_cases c : m + n = 0
  · rw [c]; simp
  · have c1 : (m + n) * (UN : Int) ≠ 0 := by
      intro h; rcases Int.mul_eq_zero.1 h with h | h <;> omega
    rw [if_neg c1]
    by_cases d : m + n < 0
    · have : (m + n) * (UN : Int) < 0 := Int.mul_neg_of_neg_of_pos d hU
      rw [decide_eq_true this]; simp; omega
    · have : ¬ (m + n) * (UN : Int) < 0 := by
        have := Int.mul_pos (a := m + n) (b := UN) (by omega) hU
        omega
      rw [decide_eq_false this]; simp; omega

theorem iv_neg {x : Nat} (h : x < 2 ^ 64) : iv (neg x) = - iv x := by
  unfold iv mv
  rw [sg_neg x h, rg_neg x h]
  cases sg x <;> simp
theorem IsI.neg {x : Nat} {m : Int} (hx : IsI x m) : IsI (neg x) (-m) :=
  ⟨(fin_neg x hx.2.2).2 hx.1, by rw [iv_neg hx.2.2, hx.2.1, Int.neg_mul], neg_lt x hx.2.2⟩
theorem IsI.sub {x y r : Nat} {m n : Int} (hx : IsI x m) (hy : IsI y n) (h : FSub x y r) (hb : (m - n).natAbs ≤ 2 ^ 53) : IsI r (m - n) :=
  IsI.add hx hy.neg (h.add hy.2.2) hb

theorem IsI.mul {x y r : Nat} {m n : Int} (hx : IsI x m) (hy : IsI y n) (h : FMul x y r) (hb : (m * n).natAbs ≤ 2 ^ 53) : IsI r (m * n) := by
  have e := h.eq (mul_fin x y hx.1 hy.1)
  rw [e, hx.mv, hy.mv]
  refine IsI.of_wd hb ?_ _ UN UN_pos (by rw [Int.natAbs_mul]; generalize UN = U; ac_rfl)
  by_cases c : m = 0
  · subst c; simp
  · by_cases d : n = 0
    · subst d; simp
    · rw [hx.sg c, hy.sg d]
      by_cases a : m < 0 <;> by_cases b : n < 0
      · have : 0 < m * n := Int.mul_pos_of_neg_of_neg a b
        simp [a, b]; omega
      · have : m * n < 0 := Int.mul_neg_of_neg_of_pos a (by omega)
        simp [a, b]; omega
      · have : m * n < 0 := Int.mul_neg_of_pos_of_neg (by omega) b
        simp [a, b]; omega
      · have : 0 < m * n := Int.mul_pos (by omega) (by omega)
        simp [a, b]; omega

/-- the float of a whole number -/
theorem IsI.ofInt (m : Int) (hb : m.natAbs ≤ 2 ^ 53) : IsI (Go.floatOfInt .f64 m) m := by
  have e : Go.floatOfInt .f64 m = D.nearest (decide (m < 0)) m.natAbs 0 := rfl
  rw [e, nearest_wd]
  have hU := UE_eq
  refine IsI.of_wd hb ?_ _ _ (Nat.two_pow_pos _) ?_
  · by_cases c : m < 0 <;> simp [c] <;> omega
  · have e1 : (-1074 - (0 : Int)).toNat = 0 := by decide
    have e2 : ((0 : Int) + 1074).toNat = UE := by decide
    rw [e1, e2, Nat.pow_zero, Nat.mul_one, UN_def]

theorem iv_zero : iv 0 = 0 := by decide
theorem IsI.zero : IsI 0 0 := ⟨by decide, by rw [iv_zero, Int.zero_mul], by decide⟩

theorem IsI.order {x y : Nat} {m n : Int} (hx : IsI x m) (hy : IsI y n) : D.order x y = some (compare m n) := by
  rw [order_fin x y hx.1 hy.1, hx.2.1, hy.2.1, compare_mul_pos]
  have := UN_pos; omega
theorem IsI.eqB {x y : Nat} {m : Int} (hx : IsI x m) (hy : IsI y m) : Go.FloatKind.f64.format.order x y = some Ordering.eq := by
  have e : Go.FloatKind.f64.format = D := rfl
  rw [e, hx.order hy, Int.compare_eq_eq.2 rfl]

theorem cut_zero (neg : Bool) (n drop : Nat) : Toward.zero.cut neg n drop = n / 2 ^ drop := by
  unfold Toward.cut
  simp only [Nat.one_shiftLeft, Bool.toNat_false, Nat.add_zero]
  by_cases h : drop ≤ n.log2 + 2
  · rw [Nat.min_eq_left h]
  · rw [Nat.min_eq_right (by omega)]
    have h1 := lt_log2_pow n
    have h2 : 2 ^ (n.log2 + 1) ≤ 2 ^ (n.log2 + 2) := Nat.pow_le_pow_right (by omega) (by omega)
    have h3 : 2 ^ (n.log2 + 2) ≤ 2 ^ drop := Nat.pow_le_pow_right (by omega) (by omega)
    rw [Nat.div_eq_of_lt (by omega), Nat.div_eq_of_lt (by omega)]

/-- int64 of a whole number is it -/
theorem IsI.toInt {x : Nat} {m : Int} (h : IsI x m) (hb : m.natAbs < 2 ^ 63) : Go.floatToIntVal .f64 x .i64 = some m := by
  obtain ⟨k, i, er, hi, hk, _⟩ := read_fin x h.1
  have hv := h.mv
  have hU := UE_eq
  have e0 : Go.FloatKind.f64.decode x = D.read x := rfl
  have key : Toward.zero.cut (Fl.sg x) (k <<< i.toNat) (-i).toNat = m.natAbs := by
    rw [cut_zero, Nat.shiftLeft_eq]
    rw [hv] at hk
    by_cases c : 0 ≤ i
    · have e1 : (-i).toNat = 0 := by omega
      rw [e1, Nat.pow_zero, Nat.div_one]
      have e2 : (i + 1074).toNat = i.toNat + UE := by omega
      rw [e2, Nat.pow_add, ← UN_def, ← Nat.mul_assoc] at hk
      exact Nat.mul_right_cancel UN_pos hk
    · have e1 : i.toNat = 0 := by omega
      rw [e1, Nat.pow_zero, Nat.mul_one]
      have e2 : 2 ^ (i + 1074).toNat * 2 ^ (-i).toNat = UN := by
        rw [← Nat.pow_add, UN_def]; congr 1; omega
      have hp := Nat.two_pow_pos (i + 1074).toNat
      have : k = m.natAbs * 2 ^ (-i).toNat := by
        rw [← e2] at hk
        have : k * 2 ^ (i + 1074).toNat = (m.natAbs * 2 ^ (-i).toNat) * 2 ^ (i + 1074).toNat := by rw [hk]; ac_rfl
        exact Nat.mul_right_cancel hp this
      rw [this, Nat.mul_div_cancel _ (Nat.two_pow_pos _)]
  have hs : signed (Fl.sg x) m.natAbs 0 = m := by
    rw [signed_eq]
    by_cases c : m = 0
    · subst c; simp
    · rw [h.sg c]
      by_cases a : m < 0 <;> simp [a] <;> omega
  unfold Go.floatToIntVal
  rw [e0, er]
  simp only [Datum.toInt, Datum.integral, key, hs]
  have hmin : Go.IntKind.i64.min = -9223372036854775808 := by decide
  have hmax : Go.IntKind.i64.max = 9223372036854775807 := by decide
  rw [if_pos ⟨by rw [hmin]; omega, by rw [hmax]; omega⟩]
end Fl
namespace Fl
open Go Ieee
theorem and_mask (x : Nat) (h : x < 2 ^ 64) : x &&& 9227875636482146303 = x / 2 ^ 63 * 2 ^ 63 + x % 2 ^ 52 := by
  have e : (9227875636482146303 : Nat) = 2 ^ 63 ||| (2 ^ 52 - 1) := by decide
  have a := nat_bit 63 x
  have b := Nat.and_two_pow_sub_one_eq_mod x 52
  have c := nat_join 63 (x / 2 ^ 63 % 2 * 2 ^ 63) (x % 2 ^ 52) (by omega) (by omega)
  rw [e, Nat.and_or_distrib_left, a, b, c]
  omega
theorem i64_and2047 (n : Int) : bits .and .i64 n 2047 = n % 2048 := by
  have h127 : (BitVec.ofInt 64 2047).toNat = 2 ^ 11 - 1 := by decide
  have key : (BitVec.ofInt 64 n &&& BitVec.ofInt 64 2047).toNat = (n % ((2 ^ 64 : Nat) : Int)).toNat % 2 ^ 11 := by
    rw [BitVec.toNat_and, BitVec.toNat_ofInt, h127, Nat.and_two_pow_sub_one_eq_mod]
  show IntKind.i64.wrap ((BitVec.ofInt 64 n &&& BitVec.ofInt 64 2047).toNat : Nat) = n % 2048
  rw [key, IntKind.wrap_i64]
  omega
theorem or_exp (s f e : Nat) (hf : f < 2 ^ 52) (he : e < 2048) : (s * 2 ^ 63 + f) ||| (e * 2 ^ 52) = s * 2 ^ 63 + (e * 2 ^ 52 + f) := by
  have a : s * 2 ^ 63 + f = s * 2 ^ 63 ||| f := (nat_join 63 _ _ (by omega) (by omega)).symm
  rw [a, Nat.or_assoc, Nat.or_comm f, nat_join 52 (e * 2 ^ 52) f (by omega) hf, nat_join 63 _ _ (by omega) (by omega)]
theorem one_mv : mv 4607182418800017408 = UN := by
  have h := IsI.ofInt 1 (by decide)
  rw [show Go.floatOfInt .f64 1 = 4607182418800017408 by decide +kernel] at h
  have e := h.mv
  rw [show (1 : Int).natAbs = 1 from rfl, Nat.one_mul] at e
  exact e
theorem mul_one' {y : Nat} (hy : y < 2 ^ 64) (hf : fin y) : D.mul 4607182418800017408 y = some y := by
  rw [mul_fin _ _ (by decide) hf, one_mv, Nat.mul_comm]
  have e := rq_exact (r := rg y) (d := UN) hf UN_pos
  rw [show mv y = valR (rg y) from rfl, e, show sg 4607182418800017408 = false by decide, Bool.false_xor, wd_sg_rg y hy]
/-- x times two to the k -/
def ldx (x : Nat) (k : Int) : Nat := wd (sg x) ((rg x : Int) + k * 4503599627370496).toNat
theorem ldx_word {x : Nat} {k : Int} (hx : x < 2 ^ 64) (h1 : 1 ≤ (rg x / 2 ^ 52 : Nat) + k) (h2 : (rg x / 2 ^ 52 : Nat) + k ≤ 2046) :
    ldx x k = x / 2 ^ 63 * 2 ^ 63 + (((rg x / 2 ^ 52 : Nat) + k).toNat * 2 ^ 52 + x % 2 ^ 52) := by
  unfold ldx wd sg rg
  unfold rg at h1 h2
  by_cases c : x / 2 ^ 63 % 2 = 1
  · rw [show (x / 2 ^ 63 % 2 == 1) = true by rw [c]; rfl]; simp only [if_true]; omega
  · rw [show (x / 2 ^ 63 % 2 == 1) = false by rw [beq_eq_false_iff_ne]; exact c]; simp only [Bool.false_eq_true, if_false]; omega
theorem ldx_facts {x : Nat} {k : Int} (h1 : 1 ≤ (rg x / 2 ^ 52 : Nat) + k) (h2 : (rg x / 2 ^ 52 : Nat) + k ≤ 2046) :
    sg (ldx x k) = sg x ∧ (rg (ldx x k) : Int) = rg x + k * 4503599627370496 ∧ fin (ldx x k) ∧ ldx x k < 2 ^ 64 := by
  have b : ((rg x : Int) + k * 4503599627370496).toNat < INF := by unfold INF; omega
  have b2 : ((rg x : Int) + k * 4503599627370496).toNat < 2 ^ 63 := by unfold INF at b; omega
  unfold ldx
  refine ⟨sg_wd _ _ b2, ?_, fin_wd b, wd_lt _ _ b2⟩
  rw [rg_wd _ _ b2]; omega
theorem ldx_neg {x : Nat} (k : Int) (hx : x < 2 ^ 64) (h1 : 1 ≤ (rg x / 2 ^ 52 : Nat) + k) (h2 : (rg x / 2 ^ 52 : Nat) + k ≤ 2046) : ldx (neg x) k = neg (ldx x k) := by
  have b2 : ((rg x : Int) + k * 4503599627370496).toNat < 2 ^ 63 := by omega
  unfold ldx
  rw [sg_neg x hx, rg_neg x hx, neg_wd _ _ b2]
theorem ldx_zero {x : Nat} (hx : x < 2 ^ 64) : ldx x 0 = x := by
  unfold ldx
  rw [show ((rg x : Int) + 0 * 4503599627370496).toNat = rg x by omega, wd_sg_rg x hx]
theorem ldx_back {x : Nat} {k : Int} (hx : x < 2 ^ 64) (h1 : 1 ≤ (rg x / 2 ^ 52 : Nat) + k) (h2 : (rg x / 2 ^ 52 : Nat) + k ≤ 2046) : ldx (ldx x k) (-k) = x := by
  obtain ⟨a, b, _, _⟩ := ldx_facts h1 h2
  have e : ldx (ldx x k) (-k) = wd (sg (ldx x k)) ((rg (ldx x k) : Int) + (-k) * 4503599627370496).toNat := rfl
  rw [e, a, b, show ((rg x : Int) + k * 4503599627370496 + -k * 4503599627370496).toNat = rg x by omega, wd_sg_rg x hx]
theorem ldx_bits {x E : Nat} {k : Int} (hx : x < 18446744073709551616) (hE : rg x / 2 ^ 52 = E) (h1 : 1 ≤ (E : Int) + k) (h2 : (E : Int) + k ≤ 2046) :
    ∃ A B : Nat, bits .andNot .u64 (x : Int) 9218868437227405312 = A ∧ ((E : Int) + k) * 4503599627370496 = B ∧ (bits .or .u64 (A : Int) (B : Int)).toNat = ldx x k := by
  obtain ⟨e, he⟩ : ∃ e : Nat, (E : Int) + k = e := ⟨((E : Int) + k).toNat, by omega⟩
  have hx' : x < 2 ^ 64 := hx
  have wr := ldx_word (x := x) (k := k) hx' (by rw [hE]; exact h1) (by rw [hE]; exact h2)
  rw [hE, he, Int.toNat_natCast] at wr
  refine ⟨x / 2 ^ 63 * 2 ^ 63 + x % 2 ^ 52, e * 2 ^ 52, ?_, ?_, ?_⟩
  · have := u64_andNot_nat x 9218868437227405312 hx (by decide)
    rw [show ((9218868437227405312 : Nat) : Int) = 9218868437227405312 from rfl] at this
    rw [this, show 18446744073709551615 - 9218868437227405312 = 9227875636482146303 from rfl, and_mask x hx']
  · rw [he]; omega
  · have b1 : x / 2 ^ 63 * 2 ^ 63 + x % 2 ^ 52 < 18446744073709551616 := by omega
    have be : e ≤ 2046 := by omega
    have b2 : e * 2 ^ 52 < 18446744073709551616 := Nat.lt_of_le_of_lt (Nat.mul_le_mul_right _ be) (by decide)
    have o := or_exp (x / 2 ^ 63) (x % 2 ^ 52) e (by omega) (by omega)
    have := u64_or_nat _ _ b1 b2
    rw [this, Int.toNat_natCast, wr, o]
end Fl
set_option linter.unusedVariables false
set_option linter.unusedSimpArgs false
namespace Fl
open Wd Ieee
theorem RNE_ratio {n g m k : Nat} (hg : 0 < g) (hk : 0 < k) (h : n * k = m * g) : RNE n g = RNE m k := by
  rw [← RNE_scale n g k hk, h, Nat.mul_comm g k, RNE_scale m k g hg]
theorem div_ratio {n g m k : Nat} (hg : 0 < g) (hk : 0 < k) (h : n * k = m * g) : n / g = m / k := by
  rw [← Nat.mul_div_mul_right n g hk, h, Nat.mul_comm g k, Nat.mul_div_mul_right m k hg]
def scN (n : Nat) (k : Int) : Nat := n * 2 ^ (-k).toNat
def scD (d : Nat) (k : Int) : Nat := d * 2 ^ k.toNat
theorem scD_pos {d : Nat} (hd : 0 < d) (k : Int) : 0 < scD d k := Nat.mul_pos hd (Nat.two_pow_pos _)
theorem UN_split (i j : Nat) (h : i + j = 1074) : UN = 2 ^ i * 2 ^ j := by rw [← Nat.pow_add]; exact (UN_eq _ h).symm
theorem pow_UN (j e : Nat) (h : e = j + 1074) : 2 ^ e = 2 ^ j * UN := by
  obtain ⟨k, hk⟩ : ∃ k, k = 1074 := ⟨_, rfl⟩
  rw [show e = j + k by omega, Nat.pow_add, UN_eq k hk]
theorem sc_ratio (n d : Nat) (k : Int) (hk : -1074 ≤ k) : n * UN * scD d k = scN n k * (d * 2 ^ (k + 1074).toNat) := by
  unfold scN scD
  by_cases c : 0 ≤ k
  · obtain ⟨j, rfl⟩ : ∃ j : Nat, k = j := ⟨k.toNat, by omega⟩
    rw [show (-(j : Int)).toNat = 0 by omega, show ((j : Int)).toNat = j by omega, Nat.pow_zero, Nat.mul_one, pow_UN j ((j : Int) + 1074).toNat (by omega), Nat.mul_assoc, Nat.mul_comm UN, Nat.mul_assoc]
  · obtain ⟨j, hj⟩ : ∃ j : Nat, k = -(j : Int) := ⟨(-k).toNat, by omega⟩
    subst hj
    obtain ⟨i, hi⟩ : ∃ i, (-(j : Int) + 1074).toNat = i := ⟨_, rfl⟩
    rw [show (-(-(j : Int))).toNat = j by omega, show (-(j : Int)).toNat = 0 by omega, hi, Nat.pow_zero, Nat.mul_one, UN_split j i (by omega)]
    generalize 2 ^ j = a
    generalize 2 ^ i = b
    ac_rfl
/-- the quotient at the last place is what rungQ keeps -/
theorem rounded_rung {n d q : Nat} {K : Int} (hd : 0 < d) (hK : -1074 ≤ K) (hq : scN n K / scD d K = q) (h1 : q < 2 ^ 53) (h2 : K = -1074 ∨ 2 ^ 52 ≤ q) :
    rungQ (n * UN) d = (K + 1074).toNat * 2 ^ 52 + RNE (scN n K) (scD d K) := by
  have r := sc_ratio n d K hK
  obtain ⟨e, he⟩ : ∃ e, (K + 1074).toNat = e := ⟨_, rfl⟩
  rw [he] at r ⊢
  have dp : 0 < d * 2 ^ e := Nat.mul_pos hd (Nat.two_pow_pos e)
  have hq2 : n * UN / d / 2 ^ e = q := by rw [Nat.div_div_eq_div_mul, ← hq]; exact div_ratio dp (scD_pos hd K) r
  have hL : (n * UN / d).log2 - 52 = e := by
    have hlt : n * UN / d < 2 ^ (52 + e + 1) := by
      rw [show 52 + e + 1 = 53 + e by omega, Nat.pow_add]
      rw [← hq2] at h1
      exact (Nat.div_lt_iff_lt_mul (Nat.two_pow_pos e)).1 h1
    have hle := log2_lt_pow hlt
    rcases h2 with h2 | h2
    · have : e = 0 := by omega
      omega
    · have hge : 2 ^ (52 + e) ≤ n * UN / d := by
        rw [Nat.pow_add]
        rw [← hq2] at h2
        exact (Nat.le_div_iff_mul_le (Nat.two_pow_pos e)).1 h2
      rw [log2_unique hge hlt]; omega
  unfold rungQ
  rw [hL, RNE_ratio dp (scD_pos hd K) r]
/-- the guess -/
theorem guess_lo {n d : Nat} {k : Int} (hn : n ≠ 0) (h : k ≤ (blen n : Int) - blen d - 53) : 2 ^ 52 * scD d k ≤ scN n k := by
  unfold scD scN
  have h1 := blen_le hn
  have h2 := blen_lt d
  have hb : 1 ≤ blen n := by
    unfold blen; rw [if_neg hn]; omega
  have a : 2 ^ 52 * (d * 2 ^ k.toNat) ≤ 2 ^ 52 * (2 ^ blen d * 2 ^ k.toNat) := Nat.mul_le_mul_left _ (Nat.mul_le_mul_right _ (Nat.le_of_lt h2))
  have b : 2 ^ (blen n - 1) * 2 ^ (-k).toNat ≤ n * 2 ^ (-k).toNat := Nat.mul_le_mul_right _ h1
  refine Nat.le_trans a (Nat.le_trans ?_ b)
  rw [← Nat.pow_add, ← Nat.pow_add, ← Nat.pow_add]
  exact Nat.pow_le_pow_right (by decide) (by omega)
theorem guess_hi {n d j : Nat} {k : Int} (hd : d ≠ 0) (h : (blen n : Int) - blen d - 53 ≤ k + j) : scN n k < 2 ^ (54 + j) * scD d k := by
  unfold scD scN
  have h1 := blen_le hd
  have h2 := blen_lt n
  have hb : 1 ≤ blen d := by
    unfold blen; rw [if_neg hd]; omega
  have a : n * 2 ^ (-k).toNat < 2 ^ blen n * 2 ^ (-k).toNat := Nat.mul_lt_mul_of_pos_right h2 (Nat.two_pow_pos _)
  have b : 2 ^ (54 + j) * (2 ^ (blen d - 1) * 2 ^ k.toNat) ≤ 2 ^ (54 + j) * (d * 2 ^ k.toNat) := Nat.mul_le_mul_left _ (Nat.mul_le_mul_right _ h1)
  refine Nat.lt_of_lt_of_le a (Nat.le_trans ?_ b)
  rw [← Nat.pow_add, ← Nat.pow_add, ← Nat.pow_add]
  exact Nat.pow_le_pow_right (by decide) (by omega)
theorem sc_half {n d : Nat} (k : Int) : scN n (k + 1) / scD d (k + 1) = scN n k / scD d k / 2 := by
  unfold scN scD
  rw [Nat.div_div_eq_div_mul]
  by_cases c : 0 ≤ k
  · rw [show (-(k + 1)).toNat = 0 by omega, show (-k).toNat = 0 by omega, show (k + 1).toNat = k.toNat + 1 by omega, Nat.pow_succ, Nat.mul_assoc]
  · rw [show (-k).toNat = (-(k + 1)).toNat + 1 by omega, show (k + 1).toNat = 0 by omega, show k.toNat = 0 by omega, Nat.pow_succ, ← Nat.mul_assoc, Nat.mul_div_mul_right _ _ (by decide : 0 < 2)]
/-- what is kept at the end: the place, and the quotient's bounds -/
theorem blen_53 {q : Nat} (h : blen q ≤ 53) : q < 2 ^ 53 := Nat.lt_of_lt_of_le (blen_lt q) (Nat.pow_le_pow_right (by decide) h)
theorem blen_54 {q : Nat} (h : ¬ blen q ≤ 53) : 2 ^ 53 ≤ q := by
  have h0 : q ≠ 0 := by rintro rfl; simp [blen_zero] at h
  exact Nat.le_trans (Nat.pow_le_pow_right (by decide) (by omega)) (blen_le h0)
theorem place_small {n d : Nat} {k K : Int} (hd : 0 < d) (hk : k = (blen n : Int) - blen d - 53) (hK : k < -1074) (e : K = -1074) : scN n K / scD d K < 2 ^ 53 := by
  refine (Nat.div_lt_iff_lt_mul (scD_pos hd K)).2 ?_
  have := guess_hi (n := n) (d := d) (j := 0) (k := K - 1) (by omega) (by omega)
  have h2 := sc_half (n := n) (d := d) (K - 1)
  rw [show K - 1 + 1 = K by omega] at h2
  have h3 : scN n (K - 1) / scD d (K - 1) < 2 ^ 54 := (Nat.div_lt_iff_lt_mul (scD_pos hd _)).2 this
  have h4 : scN n K / scD d K < 2 ^ 53 := by omega
  exact (Nat.div_lt_iff_lt_mul (scD_pos hd K)).1 h4
theorem place_more {n d : Nat} {k : Int} (hd : 0 < d) (hk : k = (blen n : Int) - blen d - 53) (hq : ¬ blen (scN n k / scD d k) ≤ 53) :
    scN n (k + 1) / scD d (k + 1) < 2 ^ 53 ∧ 2 ^ 52 ≤ scN n (k + 1) / scD d (k + 1) := by
  have h1 := guess_hi (n := n) (d := d) (j := 0) (k := k) (by omega) (by omega)
  have h3 : scN n k / scD d k < 2 ^ 54 := (Nat.div_lt_iff_lt_mul (scD_pos hd _)).2 h1
  have h4 := blen_54 hq
  rw [sc_half]
  omega
theorem place_here {n d : Nat} {k : Int} (hn : n ≠ 0) (hd : 0 < d) (hk : k = (blen n : Int) - blen d - 53) (hq : blen (scN n k / scD d k) ≤ 53) :
    scN n k / scD d k < 2 ^ 53 ∧ 2 ^ 52 ≤ scN n k / scD d k :=
  ⟨blen_53 hq, (Nat.le_div_iff_mul_le (scD_pos hd k)).2 (guess_lo hn (by omega))⟩
/-- the half is up, by the comparison -/
theorem RNE_cmp (A B : Nat) : RNE A B = A / B + (if B < 2 * (A % B) ∨ (2 * (A % B) = B ∧ A / B % 2 = 1) then 1 else 0) := rfl
theorem RNE_le53 {A B : Nat} (h : A / B < 2 ^ 53) : RNE A B ≤ 2 ^ 53 := by have := RNE_hi A B; omega
/-- the rung of m times 2 to the K -/
def ldR (m : Nat) (K : Int) : Nat := min ((K + 1074).toNat * 2 ^ 52 + m) INF
theorem ldR_of {n d : Nat} {K : Int} (hd : 0 < d) (hK : -1074 ≤ K) (h1 : scN n K / scD d K < 2 ^ 53) (h2 : K = -1074 ∨ 2 ^ 52 ≤ scN n K / scD d K) :
    ldR (RNE (scN n K) (scD d K)) K = rq (n * UN) d := by
  unfold ldR rq
  rw [rounded_rung hd hK rfl h1 h2]
end Fl
namespace Fl
open Go Ieee

theorem two_mv : mv 4611686018427387904 = 2 * UN := by
  have h := IsI.ofInt 2 (by decide)
  rw [show Go.floatOfInt .f64 2 = 4611686018427387904 by decide +kernel] at h
  have e := h.mv
  rw [show (2 : Int).natAbs = 2 from rfl] at e
  exact e
theorem two_fin : fin 4611686018427387904 := by decide

theorem valR_half {r : Nat} (h : 2 ^ 53 ≤ r) : valR r = 2 * valR (r - 2 ^ 52) := by
  unfold valR
  rw [if_neg (by omega), if_neg (by omega)]
  have e1 : (r - 2 ^ 52) % 2 ^ 52 = r % 2 ^ 52 := by omega
  have e2 : r / 2 ^ 52 - 1 = ((r - 2 ^ 52) / 2 ^ 52 - 1) + 1 := by omega
  rw [e1, e2]
  generalize (r - 2 ^ 52) / 2 ^ 52 - 1 = a
  generalize 2 ^ 52 + r % 2 ^ 52 = m
  rw [@Nat.pow_succ 2 a, Nat.mul_comm (2 ^ a) 2, Nat.mul_left_comm]

theorem half_one {x : Nat} (hf : fin x) (h : 2 ^ 53 ≤ rg x) : D.div x 4611686018427387904 = some (wd (sg x) (rg x - 2 ^ 52)) := by
  rw [div_fin x _ hf two_fin (by rw [two_mv]; have := UN_pos; omega), two_mv]
  have s2 : sg 4611686018427387904 = false := by decide
  rw [s2, Bool.xor_false]
  have e : mv x * UN = valR (rg x - 2 ^ 52) * (2 * UN) := by
    show valR (rg x) * UN = _
    rw [valR_half h, Nat.mul_comm 2 (valR _), Nat.mul_assoc]
  have := rq_exact (r := rg x - 2 ^ 52) (d := 2 * UN) (by unfold fin at hf; omega) (by have := UN_pos; omega)
  rw [e, this]

theorem same_sum (s zz : Bool) (A B : Nat) (h : 0 < A) :
    (if (if s = true then -(A : Int) else (A : Int)) + (if s = true then -(B : Int) else (B : Int)) = 0 then zz
      else decide ((if s = true then -(A : Int) else (A : Int)) + (if s = true then -(B : Int) else (B : Int)) < 0)) = s ∧
    ((if s = true then -(A : Int) else (A : Int)) + (if s = true then -(B : Int) else (B : Int))).natAbs = A + B := by
  cases s
  · simp only [Bool.false_eq_true, if_false]; rw [if_neg (by omega)]; exact ⟨decide_eq_false (by omega), by omega⟩
  · simp only [if_true]; rw [if_neg (by omega)]; exact ⟨decide_eq_true (by omega), by omega⟩
theorem mid_rung {r q A B : Nat} (hr : q = r + 1 ∨ r = q + 1) (va : valR r = 2 * A) (vb : valR q = 2 * B) : rungQ (A + B) 1 = r ∨ rungQ (A + B) 1 = q := by
  rcases hr with e | e
  · have lt : valR r < valR q := valR_lt (by omega)
    have a := le_rungQ (n := A + B) (d := 1) (r := r) (by omega) (by omega)
    have b := rungQ_le (n := A + B) (d := 1) (r := q) (by omega) (by omega)
    omega
  · have lt : valR q < valR r := valR_lt (by omega)
    have a := le_rungQ (n := A + B) (d := 1) (r := q) (by omega) (by omega)
    have b := rungQ_le (n := A + B) (d := 1) (r := r) (by omega) (by omega)
    omega
theorem half_law {x u : Nat} (hx : x < 2 ^ 64) (hu : u < 2 ^ 64) (fx : fin x) (fu : fin u) (hs : sg u = sg x)
    (hr : rg u = rg x + 1 ∨ rg x = rg u + 1) (bx : 2 ^ 53 ≤ rg x) (bu : 2 ^ 53 ≤ rg u) :
    ∃ h1 h2 hf, D.div x 4611686018427387904 = some h1 ∧ D.div u 4611686018427387904 = some h2 ∧ D.add h1 h2 = some hf ∧ (hf = x ∨ hf = u) := by
  have nx : rg x - 2 ^ 52 < INF := Nat.lt_of_le_of_lt (Nat.sub_le _ _) fx
  have nu : rg u - 2 ^ 52 < INF := Nat.lt_of_le_of_lt (Nat.sub_le _ _) fu
  have p1 : 0 < valR (rg x - 2 ^ 52) := by have := valR_lt (r := 0) (s := rg x - 2 ^ 52) (by omega); rw [valR_zero] at this; exact this
  have key := mid_rung hr (valR_half bx) (valR_half bu)
  have ss := fun zz => same_sum (sg x) zz _ (valR (rg u - 2 ^ 52)) p1
  refine ⟨_, _, _, half_one fx bx, half_one fu bu, add_fin _ _ (fin_wd nx) (fin_wd nu), ?_⟩
  rw [iv_wd nx, iv_wd nu, hs, (ss _).1, (ss false).2]
  unfold rq
  have e1 := wd_sg_rg x hx
  have e2 := wd_sg_rg u hu
  rcases key with k | k
  · left; rw [k, Nat.min_eq_left (Nat.le_of_lt fx)]; exact e1
  · right; rw [k, Nat.min_eq_left (Nat.le_of_lt fu), ← hs]; exact e2

theorem valR_pow {k : Nat} (h : k < 52) : valR (2 ^ k) = 2 ^ k := by
  unfold valR; rw [if_pos (Nat.pow_lt_pow_right (by decide) h)]
theorem valR_binade {k : Nat} (h : 1 ≤ k) : valR (k * 2 ^ 52) = 2 ^ (52 + (k - 1)) := by
  unfold valR
  rw [if_neg (by omega), Nat.mul_mod_left, Nat.mul_div_cancel _ (by decide), Nat.add_zero, ← Nat.pow_add]
theorem valR_succ (r : Nat) : valR (r + 1) = valR r + 2 ^ (r / 2 ^ 52 - 1) := by
  unfold valR
  by_cases h : r < 2 ^ 52
  · rw [if_pos h, Nat.div_eq_of_lt h]
    by_cases g : r + 1 < 2 ^ 52
    · rw [if_pos g]
    · have : r + 1 = 2 ^ 52 := by omega
      rw [if_neg g, this]
  · rw [if_neg h, if_neg (by omega)]
    by_cases g : r % 2 ^ 52 + 1 < 2 ^ 52
    · have e1 : (r + 1) % 2 ^ 52 = r % 2 ^ 52 + 1 := by omega
      have e2 : (r + 1) / 2 ^ 52 = r / 2 ^ 52 := by omega
      rw [e1, e2, ← Nat.add_assoc, Nat.add_mul, Nat.one_mul]
    · have e1 : (r + 1) % 2 ^ 52 = 0 := by omega
      have e2 : (r + 1) / 2 ^ 52 - 1 = (r / 2 ^ 52 - 1) + 1 := by omega
      have e3 : 2 ^ 52 + r % 2 ^ 52 = 2 ^ 53 - 1 := by omega
      rw [e1, e2, e3]
      generalize r / 2 ^ 52 - 1 = a
      rw [@Nat.pow_succ 2 a]
      generalize 2 ^ a = q
      omega
theorem ulpW_rg {x : Nat} (hf : fin x) : valR (ulpW x) = 2 ^ (rg x / 2 ^ 52 - 1) ∧ ulpW x < INF ∧ 0 < ulpW x := by
  unfold ulpW
  rw [if_neg (not_not_intro hf)]
  unfold fin INF at hf
  split
  · rename_i h
    have b : 2 ^ (rg x / 2 ^ 52 - 1) < 2 ^ 52 := Nat.pow_lt_pow_right (by decide) (by omega)
    refine ⟨valR_pow (by omega), by unfold INF; omega, Nat.two_pow_pos _⟩
  · rename_i h
    refine ⟨?_, by unfold INF; omega, by omega⟩
    rw [valR_binade (by omega)]
    congr 1
    omega
theorem of_pl_nonneg {x : Nat} (h : 0 ≤ pl x) : sg x = false ∧ (rg x : Int) = pl x := by
  cases hs : sg x
  · exact ⟨rfl, (pl_false hs).symm⟩
  · rw [pl_true hs] at h; omega
theorem of_pl_neg {x : Nat} (h : pl x < 0) : sg x = true ∧ (rg x : Int) = -1 - pl x := by
  have hs := (pl_neg x).1 h
  exact ⟨hs, by rw [pl_true hs]; omega⟩
/-- what the neighbours of a number that is no end are -/
theorem nb_facts {x : Nat} (hx : x < 2 ^ 64) (nx : ¬ isNan x) (h1 : pl x ≠ 9218868437227405312) (h2 : pl x ≠ -9218868437227405313) :
    ordI x (nxt x) = -1 ∧ ordI (prv x) x = -1 ∧ prv (nxt x) = x ∧ nxt (prv x) = x := by
  obtain ⟨a1, a2, a3⟩ := nxt_num nx h1
  obtain ⟨b1, b2, b3⟩ := prv_num nx h2
  have bx := pl_num nx
  have ba := pl_num a3
  have bb := pl_num b3
  obtain ⟨c1, c2, _⟩ := prv_num a3 (by omega)
  obtain ⟨d1, d2, _⟩ := nxt_num b3 (by omega)
  exact ⟨ordI_lt (by rw [plT_num nx, plT_num a3]; omega), ordI_lt (by rw [plT_num nx, plT_num b3]; omega), pl_inj c1 hx (by omega), pl_inj d1 hx (by omega)⟩
theorem ne_self_false {x : Nat} (h : ¬ isNan x) : (Go.FloatKind.f64.format.order x x != some Ordering.eq) = false := by
  have e := (order_self x).2 h
  show (D.order x x != some Ordering.eq) = false
  rw [e]; rfl
theorem ne_self_true {x : Nat} (h : isNan x) : (Go.FloatKind.f64.format.order x x != some Ordering.eq) = true := by
  have e := order_none (x := x) (y := x) (.inl h)
  show (D.order x x != some Ordering.eq) = true
  rw [e]; rfl
theorem eq_self {x : Nat} (h : ¬ isNan x) : (Go.FloatKind.f64.format.order x x == some Ordering.eq) = true := by
  have e := (order_self x).2 h
  show (D.order x x == some Ordering.eq) = true
  rw [e]; rfl
theorem sameB_self (x : Nat) : sameB x x = true := sameB_true (.refl x)
end Fl
set_option linter.unusedVariables false
set_option linter.unusedSimpArgs false
namespace Fl
open Wd Ieee
/-- the word of a whole number: its last place and what is kept -/
theorem word_form {m : Nat} (h0 : 0 < m) (hm : m ≤ 2 ^ 53) : ∃ L k, Go.floatOfInt .f64 (m : Int) < 2 ^ 64 ∧ sg (Go.floatOfInt .f64 (m : Int)) = false ∧ rg (Go.floatOfInt .f64 (m : Int)) = L * 2 ^ 52 + k ∧ 2 ^ 52 ≤ k ∧ k < 2 ^ 53 ∧ k * 2 ^ L = m * UN ∧ 1022 ≤ L ∧ L ≤ 1075 := by
  have h := IsI.ofInt (m : Int) (by omega)
  have hs := h.sg (by omega)
  rw [decide_eq_false (by omega)] at hs
  have hv := h.mv
  rw [Int.natAbs_natCast] at hv
  generalize Go.floatOfInt .f64 (m : Int) = x at *
  obtain ⟨L, k, e, hk, hL⟩ := rung_form (rg x)
  unfold mv at hv
  rw [e, valR_mk _ _ (by omega) hL] at hv
  have u1 : UN = 2 ^ 53 * 2 ^ 1021 := UN_split 53 1021 rfl
  have u2 : 2 * UN = 2 ^ 1075 := by rw [pow_UN 1 1075 rfl]
  have mu : UN ≤ m * UN := Nat.le_mul_of_pos_left _ h0
  have mu2 : m * UN ≤ 2 ^ 53 * UN := Nat.mul_le_mul_right _ hm
  have h1 : 1022 ≤ L := by
    rw [u1] at mu hv
    have : 2 ^ 53 * 2 ^ 1021 < 2 ^ 53 * 2 ^ L := by
      refine Nat.lt_of_le_of_lt mu ?_
      rw [← hv]
      exact Nat.mul_lt_mul_of_pos_right hk (Nat.two_pow_pos _)
    have := Nat.lt_of_mul_lt_mul_left this
    have := (Nat.pow_lt_pow_iff_right (by decide : 1 < 2)).1 this
    omega
  have hk2 : 2 ^ 52 ≤ k := by omega
  have h2 : L ≤ 1075 := by
    have : 2 ^ 52 * 2 ^ L ≤ 2 ^ 52 * 2 ^ 1075 := by
      rw [← u2]
      refine Nat.le_trans (Nat.mul_le_mul_right _ hk2) ?_
      rw [hv]; omega
    have := Nat.le_of_mul_le_mul_left this (Nat.two_pow_pos 52)
    exact (Nat.pow_le_pow_iff_right (by decide : 1 < 2)).1 this
  exact ⟨L, k, h.2.2, hs, e, hk2, hk, hv, h1, h2⟩
theorem ld_cross {k L m i j : Nat} (h : k * 2 ^ L = m * UN) (e : i + 1074 = L + j) : k * 2 ^ i = m * 2 ^ j := by
  refine Nat.eq_of_mul_eq_mul_right UN_pos ?_
  rw [Nat.mul_assoc, ← pow_UN i (L + j) (by omega), Nat.pow_add, ← Nat.mul_assoc, h, Nat.mul_right_comm]
theorem ldx_is {x L k : Nat} {K : Int} (hx : rg x = L * 2 ^ 52 + k) (hs : sg x = false) (h1 : 0 ≤ (L : Int) + K) : ldx x K = wd false (((L : Int) + K).toNat * 2 ^ 52 + k) := by
  unfold ldx
  rw [hs, hx]
  congr 1
  omega
theorem ld_mid {x m L k : Nat} {K : Int} (hm : m ≤ 2 ^ 53) (hx : rg x = L * 2 ^ 52 + k) (hs : sg x = false) (hk1 : 2 ^ 52 ≤ k) (hk2 : k < 2 ^ 53) (hv : k * 2 ^ L = m * UN) (hK : -1074 ≤ K) (hc : K = -1074 ∨ 2 ^ 52 ≤ m) (h1 : 0 ≤ (L : Int) + K) (h2 : (L : Int) + K ≤ 2045) :
    ldx x K = wd false (ldR m K) := by
  rw [ldx_is hx hs h1]
  obtain ⟨i, hi⟩ : ∃ i, ((L : Int) + K).toNat = i := ⟨_, rfl⟩
  obtain ⟨j, hj⟩ : ∃ j, (K + 1074).toNat = j := ⟨_, rfl⟩
  have e : i * 2 ^ 52 + k = j * 2 ^ 52 + m := by
    refine valR_inj ?_
    rw [valR_mk _ _ (by omega) (.inr hk1), valR_mk _ _ hm (by omega)]
    exact ld_cross hv (by omega)
  unfold ldR
  rw [hi, hj, e, Nat.min_eq_left]
  rw [← e]; unfold INF; omega
theorem ld_over {m L k : Nat} {K : Int} (hm : m ≤ 2 ^ 53) (hk1 : 2 ^ 52 ≤ k) (hv : k * 2 ^ L = m * UN) (hL : L ≤ 1075) (h2 : 2046 ≤ (L : Int) + K) : ldR m K = INF := by
  unfold ldR
  rw [Nat.min_eq_right]
  obtain ⟨j, hj⟩ : ∃ j, (K + 1074).toNat = j := ⟨_, rfl⟩
  rw [hj]
  unfold INF
  by_cases c : L ≤ 1073
  · omega
  · by_cases c2 : L = 1074
    · have : k * 2 ^ 0 = m * 2 ^ 0 := ld_cross hv (by omega)
      simp at this
      omega
    · have : k * 2 ^ 1 = m * 2 ^ 0 := ld_cross hv (by omega)
      simp at this
      omega
theorem ld_den {x m L k : Nat} {K : Int} (hm : m ≤ 2 ^ 53) (hx : rg x = L * 2 ^ 52 + k) (hs : sg x = false) (hk1 : 2 ^ 52 ≤ k) (hk2 : k < 2 ^ 53) (hv : k * 2 ^ L = m * UN) (hL : 1022 ≤ L) (hK : -1074 ≤ K) (hc : K = -1074 ∨ 2 ^ 52 ≤ m) (h1 : (L : Int) + K < 0) :
    D.mul 4368491638549381120 (ldx x (K + 53)) = some (wd false (ldR m K)) := by
  have hK2 : K = -1074 := by
    rcases hc with hc | hc
    · exact hc
    · exfalso
      have c : L ≤ 1073 := by omega
      obtain ⟨t, ht⟩ : ∃ t, L + t = 1074 := ⟨1074 - L, by omega⟩
      have : k * 2 ^ 0 = m * 2 ^ t := ld_cross hv (by omega)
      have h2t : 2 ^ 1 ≤ 2 ^ t := Nat.pow_le_pow_right (by decide) (by omega)
      have : m * 2 ^ 1 ≤ m * 2 ^ t := Nat.mul_le_mul_left _ h2t
      simp at *
      omega
  subst hK2
  obtain ⟨i, hi⟩ : ∃ i, ((L : Int) + (-1074 + 53)).toNat = i := ⟨_, rfl⟩
  have hy := ldx_is (K := -1074 + 53) hx hs (by omega)
  rw [hi] at hy
  have hr : i * 2 ^ 52 + k < 2 ^ 63 := by omega
  have hrg : rg (ldx x (-1074 + 53)) = i * 2 ^ 52 + k := by rw [hy, rg_wd _ _ hr]
  have hfy : fin (ldx x (-1074 + 53)) := by rw [hy]; exact fin_wd (by unfold INF; omega)
  rw [mul_fin _ _ (by decide) hfy]
  have hsy : sg (ldx x (-1074 + 53)) = false := by rw [hy, sg_wd _ _ hr]
  rw [hsy, show sg 4368491638549381120 = false by decide, show (false ^^ false) = false from rfl]
  obtain ⟨g, hg⟩ : ∃ g, 52 + (970 - 1) = g := ⟨_, rfl⟩
  have m1 : mv 4368491638549381120 = 2 ^ g := by
    unfold mv
    rw [show rg 4368491638549381120 = 970 * 2 ^ 52 by decide, valR_binade (by decide), hg]
  have m2 : mv (ldx x (-1074 + 53)) = k * 2 ^ i := by
    unfold mv; rw [hrg, valR_mk _ _ (by omega) (.inr hk1)]
  rw [m1, m2]
  have hR : ldR m (-1074) = m := by
    unfold ldR
    rw [show ((-1074 : Int) + 1074).toNat = 0 by omega, Nat.zero_mul, Nat.zero_add, Nat.min_eq_left]
    unfold INF; omega
  have e : 2 ^ g * (k * 2 ^ i) = valR m * UN := by
    have a := valR_mk 0 m hm (.inl rfl)
    rw [Nat.zero_mul, Nat.zero_add, Nat.pow_zero, Nat.mul_one] at a
    rw [a, ← hv, show L = g + i by omega, Nat.pow_add, Nat.mul_left_comm]
  rw [hR, e, rq_exact (by unfold INF; omega) UN_pos]
end Fl
set_option linter.unusedVariables false
set_option linter.unusedSimpArgs false
namespace Fl
open Wd Ieee
/-- the number that a float is -/
def fv (x : Nat) : Rat := mkRat (iv x) UN
/-- the word of a fraction rounded once; a nought has the sign that is told -/
def fq (q : Rat) (below : Bool) : Nat := if q.num = 0 then wd below 0 else wd (decide (q.num < 0)) (rq (q.num.natAbs * UN) q.den)
theorem UN_ne : UN ≠ 0 := Nat.ne_of_gt UN_pos
theorem rq_ratio {n g m k : Nat} (hg : 0 < g) (hk : 0 < k) (h : n * k = m * g) : rq n g = rq m k := by
  unfold rq
  rw [Nat.le_antisymm (rungQ_mono n g m k hg hk (Nat.le_of_eq h)) (rungQ_mono m k n g hk hg (Nat.le_of_eq h.symm))]
theorem rq_zero (d : Nat) : rq 0 d = 0 := by unfold rq; simp [rungQ_zero]
theorem cross_of {q : Rat} {n : Int} {d : Nat} (hd : d ≠ 0) (h : q = mkRat n d) : q.num * d = n * q.den := by
  rw [← Rat.mkRat_eq_iff q.den_nz hd, Rat.mkRat_self, h]
/-- of a fraction that may not be in its lowest terms -/
theorem fq_of {q : Rat} {n : Int} {d : Nat} {s : Bool} (hd : 0 < d) (h : q.num * d = n * q.den) : fq q s = if n = 0 then wd s 0 else wd (decide (n < 0)) (rq (n.natAbs * UN) d) := by
  have hq : (0 : Int) < q.den := by have := q.den_pos; omega
  have hd' : (0 : Int) < d := by omega
  have h0 : q.num = 0 ↔ n = 0 := by
    constructor
    · intro e; rw [e, Int.zero_mul] at h
      rcases Int.mul_eq_zero.1 h.symm with h | h
      · exact h
      · omega
    · intro e; rw [e, Int.zero_mul] at h
      rcases Int.mul_eq_zero.1 h with h | h
      · exact h
      · omega
  have h1 : q.num < 0 ↔ n < 0 := by
    constructor
    · intro e
      have : q.num * d < 0 := Int.mul_neg_of_neg_of_pos e hd'
      rw [h] at this
      rcases Int.lt_or_le n 0 with g | g
      · exact g
      · have := Int.mul_nonneg g (Int.le_of_lt hq); omega
    · intro e
      have : n * q.den < 0 := Int.mul_neg_of_neg_of_pos e hq
      rw [← h] at this
      rcases Int.lt_or_le q.num 0 with g | g
      · exact g
      · have := Int.mul_nonneg g (Int.le_of_lt hd'); omega
  have h2 : q.num.natAbs * d = n.natAbs * q.den := by
    have := congrArg Int.natAbs h
    rwa [Int.natAbs_mul, Int.natAbs_mul, Int.natAbs_natCast, Int.natAbs_natCast] at this
  unfold fq
  by_cases c : n = 0
  · rw [if_pos c, if_pos (h0.2 c)]
  · rw [if_neg c, if_neg (fun e => c (h0.1 e))]
    refine wd_congr ?_ (rq_ratio q.den_pos hd ?_)
    · exact decide_eq_decide.2 h1
    · rw [Nat.mul_right_comm, h2, Nat.mul_right_comm]
theorem mv_zero {x : Nat} : mv x = 0 ↔ iv x = 0 := by rw [← iv_natAbs, Int.natAbs_eq_zero]
theorem fq_add {x y : Nat} (hx : fin x) (hy : fin y) : D.add x y = some (fq (fv x + fv y) (sg x && sg y)) := by
  rw [add_fin x y hx hy]
  have e : fv x + fv y = mkRat (iv x + iv y) UN := by
    unfold fv
    rw [Rat.mkRat_add_mkRat _ _ UN_ne UN_ne, ← Int.add_mul, Rat.mkRat_mul_right UN_ne]
  rw [fq_of UN_pos (cross_of UN_ne e)]
  congr 1
  by_cases c : iv x + iv y = 0
  · rw [if_pos c, if_pos c, c]; rw [show Int.natAbs 0 = 0 from rfl, rq_zero]
  · rw [if_neg c, if_neg c]
    exact wd_congr rfl (rq_ratio (by decide) UN_pos (by rw [Nat.mul_one]))
theorem sg_xor_neg {x y : Nat} (h : iv x * iv y ≠ 0) : (sg x ^^ sg y) = decide (iv x * iv y < 0) := by
  have hx : iv x ≠ 0 := fun e => h (by rw [e, Int.zero_mul])
  have hy : iv y ≠ 0 := fun e => h (by rw [e, Int.mul_zero])
  unfold iv at *
  cases sg x <;> cases sg y <;> simp only [Bool.false_eq_true, if_true, if_false] at *
  · have : 0 < (mv x : Int) * mv y := Int.mul_pos (by omega) (by omega)
    rw [decide_eq_false (by omega)]; rfl
  · have : 0 < (mv x : Int) * mv y := Int.mul_pos (by omega) (by omega)
    rw [Int.mul_neg, decide_eq_true (by omega)]; rfl
  · have : 0 < (mv x : Int) * mv y := Int.mul_pos (by omega) (by omega)
    rw [Int.neg_mul, decide_eq_true (by omega)]; rfl
  · have : 0 < (mv x : Int) * mv y := Int.mul_pos (by omega) (by omega)
    rw [Int.neg_mul_neg, decide_eq_false (by omega)]; rfl
theorem fq_mul {x y : Nat} (hx : fin x) (hy : fin y) : D.mul x y = some (fq (fv x * fv y) (sg x ^^ sg y)) := by
  rw [mul_fin x y hx hy]
  have e : fv x * fv y = mkRat (iv x * iv y) (UN * UN) := by
    unfold fv
    rw [Rat.mkRat_mul_mkRat]
  rw [fq_of (Nat.mul_pos UN_pos UN_pos) (cross_of (Nat.mul_ne_zero UN_ne UN_ne) e)]
  congr 1
  have em : (iv x * iv y).natAbs = mv x * mv y := by rw [Int.natAbs_mul, iv_natAbs, iv_natAbs]
  by_cases c : iv x * iv y = 0
  · rw [if_pos c]
    rw [c] at em
    rw [← em, show Int.natAbs 0 = 0 from rfl, rq_zero]
  · rw [if_neg c, em]
    exact wd_congr (sg_xor_neg c) (rq_ratio UN_pos (Nat.mul_pos UN_pos UN_pos) (by rw [← Nat.mul_assoc]))
theorem fq_div {x y : Nat} (hx : fin x) (hy : fin y) (h0 : mv y ≠ 0) : D.div x y = some (fq (fv x / fv y) (sg x ^^ sg y)) := by
  rw [div_fin x y hx hy h0]
  have hy0 : iv y ≠ 0 := fun e => h0 (mv_zero.2 e)
  have hne : fv y ≠ 0 := by
    intro e
    unfold fv at e
    have : (0 : Rat) = mkRat 0 UN := by simp
    rw [this, Rat.mkRat_eq_iff UN_ne UN_ne, Int.zero_mul] at e
    rcases Int.mul_eq_zero.1 e with e | e
    · exact hy0 e
    · have := UN_ne; omega
  have e : fv x / fv y * fv y = fv x := Rat.div_mul_cancel hne
  obtain ⟨q, hq⟩ : ∃ q, fv x / fv y = q := ⟨_, rfl⟩
  rw [hq] at e ⊢
  have e2 : mkRat (q.num * iv y) (q.den * UN) = mkRat (iv x) UN := by
    rw [← Rat.mkRat_mul_mkRat, Rat.mkRat_self]; exact e
  rw [Rat.mkRat_eq_iff (Nat.mul_ne_zero q.den_nz UN_ne) UN_ne] at e2
  have hU : (0 : Int) < UN := by have := UN_pos; omega
  have e3 : q.num * iv y = iv x * q.den := by
    refine Int.eq_of_mul_eq_mul_right (Int.ne_of_gt hU) ?_
    rw [e2, Int.natCast_mul, Int.mul_assoc]
  have e4 : q.num * (mv y : Nat) = (if sg y then -iv x else iv x) * q.den := by
    cases hs : sg y
    · rw [if_neg (by simp)]
      have ey : iv y = (mv y : Int) := by unfold iv; rw [hs]; rfl
      rw [← ey]; exact e3
    · rw [if_pos rfl]
      have ey : iv y = -(mv y : Int) := by unfold iv; rw [hs]; rfl
      rw [ey, Int.mul_neg] at e3
      rw [Int.neg_mul, ← e3, Int.neg_neg]
  rw [fq_of (Nat.pos_of_ne_zero h0) e4]
  congr 1
  have em : (if sg y then -iv x else iv x : Int).natAbs = mv x := by
    split
    · rw [Int.natAbs_neg, iv_natAbs]
    · rw [iv_natAbs]
  rw [em]
  by_cases c : iv x = 0
  · rw [if_pos (by rw [c]; simp), mv_zero.2 c, Nat.zero_mul, rq_zero]
  · have c2 : (if sg y then -iv x else iv x : Int) ≠ 0 := by split <;> omega
    rw [if_neg c2]
    refine wd_congr ?_ rfl
    have hm : mv x ≠ 0 := fun e => c (mv_zero.1 e)
    unfold iv at *
    cases sg x <;> cases sg y <;> simp <;> omega
/-- of a power of two: its divisors -/
theorem dvd_two_pow {d : Nat} : ∀ {k : Nat}, d ∣ 2 ^ k → ∃ i, i ≤ k ∧ d = 2 ^ i := by
  intro k
  induction k generalizing d with
  | zero => intro h; exact ⟨0, Nat.le_refl _, Nat.dvd_one.1 h⟩
  | succ k ih =>
    intro h
    rcases Nat.mod_two_eq_zero_or_one d with c | c
    · obtain ⟨e, rfl⟩ : ∃ e, d = 2 * e := ⟨d / 2, by omega⟩
      rw [Nat.pow_succ, Nat.mul_comm (2 ^ k)] at h
      obtain ⟨i, hi, rfl⟩ := ih (Nat.dvd_of_mul_dvd_mul_left (show 0 < 2 by decide) h)
      exact ⟨i + 1, by omega, by rw [Nat.pow_succ, Nat.mul_comm]⟩
    · have hc : Nat.Coprime d (2 ^ (k + 1)) := Nat.Coprime.pow_right _ (by
        rw [Nat.coprime_comm]; unfold Nat.Coprime
        rw [Nat.gcd_rec, c]; simp)
      have : Nat.gcd d (2 ^ (k + 1)) = d := Nat.gcd_eq_left h
      refine ⟨0, Nat.zero_le _, ?_⟩
      unfold Nat.Coprime at hc
      rw [this] at hc
      exact hc
theorem twos_of {n : Nat} (h : n ≠ 0) : ∃ p c, n = 2 ^ p * c ∧ c % 2 = 1 := by
  induction n using Nat.strongRecOn with
  | _ n ih =>
    rcases Nat.mod_two_eq_zero_or_one n with c | c
    · obtain ⟨p, d, e, hd⟩ := ih (n / 2) (by omega) (by omega)
      exact ⟨p + 1, d, by rw [Nat.pow_succ, Nat.mul_right_comm, ← e]; omega, hd⟩
    · exact ⟨0, n, by simp, c⟩
/-- a fraction whose denominator is a power of two, and whose numerator has a small odd part -/
structure Dy (B : Nat) (q : Rat) : Prop where
  num : blen q.num.natAbs ≤ B
  den : ∃ i, i ≤ B ∧ q.den = 2 ^ i
  odd : q.num = 0 ∨ ∃ p c, q.num.natAbs = 2 ^ p * c ∧ c % 2 = 1 ∧ c < 2 ^ 53
theorem Dy.mono {B C : Nat} {q : Rat} (h : Dy B q) (hB : B ≤ C) : Dy C q := by
  obtain ⟨h1, ⟨i, hi, e⟩, h3⟩ := h
  exact ⟨Nat.le_trans h1 hB, ⟨i, Nat.le_trans hi hB, e⟩, h3⟩
theorem Dy.zero (B : Nat) : Dy B 0 := ⟨by rw [show (0 : Rat).num = 0 from rfl, show Int.natAbs 0 = 0 from rfl, blen_zero]; exact Nat.zero_le _, ⟨0, Nat.zero_le _, rfl⟩, .inl rfl⟩
theorem blen_le_of {a k : Nat} (h : a < 2 ^ k) : blen a ≤ k := by
  by_cases h0 : a = 0
  · subst h0; rw [blen_zero]; exact Nat.zero_le _
  · have h1 := blen_le h0
    have h3 : 2 ^ (blen a - 1) < 2 ^ k := by omega
    have := (Nat.pow_lt_pow_iff_right (by decide : 1 < 2)).1 h3
    omega
theorem parts_cop {n : Int} {d : Nat} (hd : 0 < d) (h : Nat.gcd n.natAbs d = 1) : (mkRat n d).num = n ∧ (mkRat n d).den = d := by
  rw [← Rat.normalize_eq_mkRat (Nat.ne_of_gt hd), Rat.normalize_eq_mk' n d _ h]
  exact ⟨rfl, rfl⟩
theorem gcd_pow_odd {c : Nat} (h : c % 2 = 1) (k : Nat) : Nat.gcd c (2 ^ k) = 1 := by
  have : Nat.Coprime c (2 ^ k) := Nat.Coprime.pow_right _ (by
    rw [Nat.coprime_comm]; unfold Nat.Coprime
    rw [Nat.gcd_rec, h]; simp)
  exact this
theorem Dy.of {B p c j : Nat} (s : Bool) (hc : c % 2 = 1) (hc2 : c < 2 ^ 53) (hp : p + 54 ≤ B) (hj : j ≤ B) : Dy B (mkRat (if s then -((2 ^ p * c : Nat) : Int) else ((2 ^ p * c : Nat) : Int)) (2 ^ j)) := by
  have key : ∀ p' j' : Nat, p' ≤ p → j' ≤ j → (p' = 0 ∨ j' = 0) → Dy B (mkRat (if s then -((2 ^ p' * c : Nat) : Int) else ((2 ^ p' * c : Nat) : Int)) (2 ^ j')) := by
    intro p' j' h1 h2 h3
    have en : (if s then -((2 ^ p' * c : Nat) : Int) else ((2 ^ p' * c : Nat) : Int)).natAbs = 2 ^ p' * c := by
      cases s
      · rw [if_neg (by simp), Int.natAbs_natCast]
      · rw [if_pos rfl, Int.natAbs_neg, Int.natAbs_natCast]
    have hg : Nat.gcd (if s then -((2 ^ p' * c : Nat) : Int) else ((2 ^ p' * c : Nat) : Int)).natAbs (2 ^ j') = 1 := by
      rw [en]
      rcases h3 with rfl | rfl
      · rw [Nat.pow_zero, Nat.one_mul]; exact gcd_pow_odd hc j'
      · rw [Nat.pow_zero, Nat.gcd_one_right]
    obtain ⟨e1, e2⟩ := parts_cop (Nat.two_pow_pos j') hg
    refine ⟨?_, ⟨j', by omega, e2⟩, .inr ⟨p', c, by rw [e1, en], hc, hc2⟩⟩
    rw [e1, en]
    refine Nat.le_trans (blen_le_of (k := p' + 53) ?_) (by omega)
    rw [Nat.pow_add]
    exact Nat.mul_lt_mul_of_pos_left hc2 (Nat.two_pow_pos p')
  by_cases h : j ≤ p
  · have e : mkRat (if s then -((2 ^ p * c : Nat) : Int) else ((2 ^ p * c : Nat) : Int)) (2 ^ j) = mkRat (if s then -((2 ^ (p - j) * c : Nat) : Int) else ((2 ^ (p - j) * c : Nat) : Int)) (2 ^ 0) := by
      have e1 : 2 ^ p * c = 2 ^ (p - j) * c * 2 ^ j := by rw [Nat.mul_right_comm, ← Nat.pow_add, show p - j + j = p by omega]
      have e2 : (2 : Nat) ^ j = 2 ^ 0 * 2 ^ j := by simp
      rw [e1]
      conv => lhs; arg 2; rw [e2]
      rw [← Rat.mkRat_mul_right (n := if s then -((2 ^ (p - j) * c : Nat) : Int) else ((2 ^ (p - j) * c : Nat) : Int)) (d := 2 ^ 0) (Nat.ne_of_gt (Nat.two_pow_pos j))]
      cases s
      · simp only [Bool.false_eq_true, if_false, Int.natCast_mul]
      · simp only [if_true, Int.natCast_mul, Int.neg_mul]
    rw [e]
    exact key _ _ (by omega) (by omega) (.inr rfl)
  · have e : mkRat (if s then -((2 ^ p * c : Nat) : Int) else ((2 ^ p * c : Nat) : Int)) (2 ^ j) = mkRat (if s then -((2 ^ 0 * c : Nat) : Int) else ((2 ^ 0 * c : Nat) : Int)) (2 ^ (j - p)) := by
      have e1 : 2 ^ p * c = 2 ^ 0 * c * 2 ^ p := by rw [Nat.pow_zero, Nat.one_mul, Nat.mul_comm]
      have e2 : (2 : Nat) ^ j = 2 ^ (j - p) * 2 ^ p := by rw [← Nat.pow_add, show j - p + p = j by omega]
      rw [e1, e2]
      rw [← Rat.mkRat_mul_right (n := if s then -((2 ^ 0 * c : Nat) : Int) else ((2 ^ 0 * c : Nat) : Int)) (d := 2 ^ (j - p)) (Nat.ne_of_gt (Nat.two_pow_pos p))]
      cases s
      · simp only [Bool.false_eq_true, if_false, Int.natCast_mul]
      · simp only [if_true, Int.natCast_mul, Int.neg_mul]
    rw [e]
    exact key _ _ (by omega) (by omega) (.inl rfl)
/-- what stands before the point of a float, and its place from 1 on -/
def mant (x : Nat) : Nat := if rg x / 2 ^ 52 = 0 then x % 2 ^ 52 else 2 ^ 52 + x % 2 ^ 52
def plc (x : Nat) : Nat := if rg x / 2 ^ 52 = 0 then 1 else rg x / 2 ^ 52
def smant (x : Nat) : Int := if sg x then -(mant x : Int) else (mant x : Int)
theorem mant_lt (x : Nat) : mant x < 2 ^ 53 := by unfold mant; split <;> omega
theorem plc_pos (x : Nat) : 1 ≤ plc x := by unfold plc; split <;> omega
theorem mv_parts (x : Nat) : mv x = mant x * 2 ^ (plc x - 1) := by
  unfold mv mant plc
  have hr : rg x % 2 ^ 52 = x % 2 ^ 52 := by unfold rg; omega
  by_cases c : rg x / 2 ^ 52 = 0
  · rw [if_pos c, if_pos c]
    have := valR_mk 0 (x % 2 ^ 52) (by omega) (.inl rfl)
    rw [Nat.zero_mul, Nat.zero_add] at this
    rw [show rg x = x % 2 ^ 52 by omega, this]
  · rw [if_neg c, if_neg c]
    have := valR_mk (rg x / 2 ^ 52 - 1) (2 ^ 52 + x % 2 ^ 52) (by omega) (.inr (by omega))
    rw [← this]
    congr 1
    omega
theorem iv_parts (x : Nat) : iv x = smant x * ((2 ^ (plc x - 1) : Nat) : Int) := by
  unfold iv smant
  rw [mv_parts]
  cases sg x
  · simp only [Bool.false_eq_true, if_false, Int.natCast_mul]
  · simp only [if_true, Int.natCast_mul, Int.neg_mul]
theorem fv_low {x j : Nat} (h : plc x + j = 1075) : fv x = mkRat (smant x) (2 ^ j) := by
  unfold fv
  have := plc_pos x
  rw [iv_parts, UN_split j (plc x - 1) (by omega), Rat.mkRat_mul_right (Nat.ne_of_gt (Nat.two_pow_pos _))]
theorem fv_high {x j : Nat} (h : plc x = 1075 + j) : fv x = ((smant x * ((2 ^ j : Nat) : Int) : Int) : Rat) := by
  unfold fv
  rw [iv_parts, pow_UN j (plc x - 1) (by omega), Int.natCast_mul, ← Int.mul_assoc]
  have := Rat.mkRat_mul_right (n := smant x * ((2 ^ j : Nat) : Int)) (d := 1) UN_ne
  rw [Nat.one_mul] at this
  rw [this, Rat.mkRat_one]
theorem plc_le {x : Nat} (h : fin x) : plc x ≤ 2046 := by
  unfold fin INF at h
  unfold plc; split <;> omega
theorem Dy.fv {x : Nat} (h : fin x) : Dy 1080 (fv x) := by
  have hp := plc_pos x
  have hl := plc_le h
  have hm := mant_lt x
  by_cases m0 : mant x = 0
  · have : Fl.fv x = 0 := by
      unfold Fl.fv
      rw [iv_parts]; unfold smant; rw [m0]; simp
    rw [this]; exact .zero _
  · obtain ⟨p, c, e, hc⟩ := twos_of m0
    have hcm : c ≤ mant x := by rw [e]; exact Nat.le_mul_of_pos_left _ (Nat.two_pow_pos p)
    have hp2 : p < 53 := by
      have h1 : 2 ^ p * 1 ≤ 2 ^ p * c := Nat.mul_le_mul_left _ (by omega)
      have : 2 ^ p < 2 ^ 53 := by omega
      exact (Nat.pow_lt_pow_iff_right (by decide : 1 < 2)).1 this
    by_cases g : plc x ≤ 1075
    · rw [fv_low (x := x) (j := 1075 - plc x) (by omega)]
      unfold smant
      rw [e]
      exact Dy.of _ hc (by omega) (by omega) (by omega)
    · rw [fv_high (x := x) (j := plc x - 1075) (by omega)]
      have := Dy.of (B := 1080) (p := p + (plc x - 1075)) (c := c) (j := 0) (sg x) hc (by omega) (by omega) (by omega)
      rw [Nat.pow_zero, Rat.mkRat_one] at this
      have e2 : smant x * ((2 ^ (plc x - 1075) : Nat) : Int) = if sg x then -((2 ^ (p + (plc x - 1075)) * c : Nat) : Int) else ((2 ^ (p + (plc x - 1075)) * c : Nat) : Int) := by
        unfold smant
        rw [e, Nat.pow_add, Nat.mul_right_comm (2 ^ p)]
        cases sg x
        · simp only [Bool.false_eq_true, if_false, Int.natCast_mul]
        · simp only [if_true, Int.natCast_mul, Int.neg_mul]
      rw [e2]; exact this
end Fl
set_option linter.unusedVariables false
set_option linter.unusedSimpArgs false
namespace Fl
open Ieee
theorem mv_rg {x : Nat} : mv x = 0 ↔ rg x = 0 := by
  have h := mv_parts x
  have hp := Nat.two_pow_pos (plc x - 1)
  constructor
  · intro e
    rw [e] at h
    have hm : mant x = 0 := by
      rcases Nat.mul_eq_zero.1 h.symm with h | h
      · exact h
      · omega
    unfold mant at hm
    split at hm
    · rename_i c
      unfold rg at *
      omega
    · omega
  · intro e
    have hm : mant x = 0 := by
      unfold mant
      rw [e, if_pos (by decide)]
      unfold rg at e
      omega
    rw [h, hm, Nat.zero_mul]
theorem read_zero {x : Nat} (h : fin x) : ∃ m i, D.read x = .number (sg x) m i ∧ (m = 0 ↔ mv x = 0) := by
  obtain ⟨m, i, e, hi, hm, _⟩ := read_fin x h
  refine ⟨m, i, e, ?_⟩
  rw [← hm]
  constructor
  · rintro rfl; simp
  · intro h
    rcases Nat.mul_eq_zero.1 h with h | h
    · exact h
    · have := Nat.two_pow_pos (i + 1074).toNat; omega
theorem wInf (s : Bool) : Format.write D (.infinity s) = wd s INF := by simp only [Format.write]; rw [word_eq, INF_word]
theorem add_inf_inf {x y : Nat} (hx : rg x = INF) (hy : rg y = INF) : D.add x y = if sg x = sg y then some (wd (sg x) INF) else none := by
  unfold Format.add
  rw [read_inf x hx, read_inf y hy]
  simp only [Datum.sum]
  by_cases c : sg x = sg y
  · rw [if_pos c, if_pos c, Option.map_some, wInf]
  · rw [if_neg c, if_neg c]; rfl
theorem add_inf_l {x y : Nat} (hx : rg x = INF) (hy : fin y) : D.add x y = some (wd (sg x) INF) := by
  obtain ⟨m, i, e, _⟩ := read_zero hy
  unfold Format.add
  rw [read_inf x hx, e]
  simp only [Datum.sum, Option.map_some, wInf]
theorem mul_inf_inf {x y : Nat} (hx : rg x = INF) (hy : rg y = INF) : D.mul x y = some (wd (sg x ^^ sg y) INF) := by
  unfold Format.mul
  rw [read_inf x hx, read_inf y hy]
  simp only [Datum.product, Option.map_some, wInf]
theorem mul_inf_l {x y : Nat} (hx : rg x = INF) (hy : fin y) : D.mul x y = if mv y = 0 then none else some (wd (sg x ^^ sg y) INF) := by
  obtain ⟨m, i, e, h0⟩ := read_zero hy
  unfold Format.mul
  rw [read_inf x hx, e]
  simp only [Datum.product]
  by_cases c : mv y = 0
  · rw [if_pos c, if_pos (h0.2 c)]; rfl
  · rw [if_neg c, if_neg (fun h => c (h0.1 h)), Option.map_some, wInf]
theorem div_inf_inf {x y : Nat} (hx : rg x = INF) (hy : rg y = INF) : D.div x y = none := by
  unfold Format.div
  rw [read_inf x hx, read_inf y hy]
  rfl
theorem div_inf_l {x y : Nat} (hx : rg x = INF) (hy : fin y) : D.div x y = some (wd (sg x ^^ sg y) INF) := by
  obtain ⟨m, i, e, _⟩ := read_zero hy
  unfold Format.div
  rw [read_inf x hx, e]
  simp only [Datum.quotient, Option.map_some, wInf]
theorem div_inf_r {x y : Nat} (hx : fin x) (hy : rg y = INF) : D.div x y = some (wd (sg x ^^ sg y) 0) := by
  obtain ⟨m, i, e, _⟩ := read_zero hx
  unfold Format.div
  rw [read_inf y hy, e]
  simp only [Datum.quotient, Option.map_some, Format.write]
  unfold Format.nearest
  rw [if_pos rfl, word_eq]
theorem div_zero {x y : Nat} (hx : fin x) (hy : mv y = 0) : D.div x y = if mv x = 0 then none else some (wd (sg x ^^ sg y) INF) := by
  have fy : fin y := by unfold fin; rw [mv_rg.1 hy]; decide
  obtain ⟨m, i, e, h0⟩ := read_zero hx
  obtain ⟨n, j, e2, h2⟩ := read_zero fy
  unfold Format.div
  rw [e, e2]
  simp only [Datum.quotient]
  rw [if_pos (h2.2 hy)]
  by_cases c : mv x = 0
  · rw [if_pos c, if_pos (h0.2 c)]; rfl
  · rw [if_neg c, if_neg (fun h => c (h0.1 h)), Option.map_some, wInf]
/-- is a difference of a number and itself 0? -/
theorem self_sub {x r : Nat} (hx : x < 2 ^ 64) (h : FSub x x r) : zeroB r = decide (fin x) := by
  have h := h.add hx
  have hn := neg_lt x hx
  rcases cases3 x with c | c | c
  · have fn : fin (neg x) := (fin_neg x hx).2 c
    have e := add_fin x (neg x) c fn
    rw [iv_neg hx, show iv x + -iv x = 0 by omega, if_pos rfl, show Int.natAbs 0 = 0 from rfl, rq_zero, sg_neg x hx] at e
    rw [Res.eq h e, decide_eq_true c]
    cases sg x <;> decide
  · have e := add_inf_inf c (by rw [rg_neg x hx]; exact c : rg (neg x) = INF)
    rw [sg_neg x hx, if_neg (by cases sg x <;> simp)] at e
    have nr := Res.nan h e
    have : ¬ fin x := by unfold fin; omega
    rw [decide_eq_false this]
    unfold zeroB
    exact decide_eq_false (by unfold isNan at nr; omega)
  · have e := add_nan x (neg x) (.inl c)
    have nr := Res.nan h e
    have : ¬ fin x := by unfold fin; unfold isNan at c; omega
    rw [decide_eq_false this]
    unfold zeroB
    exact decide_eq_false (by unfold isNan at nr; omega)
theorem fadd_of {x y r : Nat} (h : D.add x y = some r) : FAdd x y r := by unfold FAdd; rw [h]; rfl
theorem fmul_of {x y r : Nat} (h : D.mul x y = some r) : FMul x y r := by unfold FMul; rw [h]; rfl
theorem fdiv_of {x y r : Nat} (h : D.div x y = some r) : FDiv x y r := by unfold FDiv; rw [h]; rfl
theorem fadd_nan {x y r : Nat} (h : D.add x y = none) (hr : isNan r ∧ r < 2 ^ 64) : FAdd x y r := by unfold FAdd; rw [h]; exact hr
theorem fmul_nan {x y r : Nat} (h : D.mul x y = none) (hr : isNan r ∧ r < 2 ^ 64) : FMul x y r := by unfold FMul; rw [h]; exact hr
theorem fdiv_nan {x y r : Nat} (h : D.div x y = none) (hr : isNan r ∧ r < 2 ^ 64) : FDiv x y r := by unfold FDiv; rw [h]; exact hr
theorem sub_of_add {x y r : Nat} (hy : y < 2 ^ 64) (h : FAdd x (neg y) r) : FSub x y r := by unfold FAdd at h; unfold FSub; rwa [sub_eq x y hy]
theorem inf_word {x : Nat} (hx : x < 2 ^ 64) (h : rg x = INF) : wd (sg x) INF = x := by rw [← h, wd_sg_rg x hx]
theorem nanQ : isNan 9221120237041090561 ∧ 9221120237041090561 < 2 ^ 64 := by decide
/-- the word of a fraction, by its sign -/
theorem fq_cases (q : Rat) (s : Bool) : fq q s = if q.num < 0 then wd true (rg (fq q false)) else if 0 < q.num then fq q false else wd s 0 := by
  have hl := rq_lt (q.num.natAbs * UN) q.den
  unfold fq
  by_cases c : q.num = 0
  · rw [if_pos c, if_neg (by omega), if_neg (by omega)]
  · rw [if_neg c, if_neg c]
    by_cases d : q.num < 0
    · rw [if_pos d, decide_eq_true d, rg_wd _ _ hl]
    · rw [if_neg d, if_pos (by omega)]
end Fl
set_option linter.unusedVariables false
set_option linter.unusedSimpArgs false
namespace Wd
/-- the odd part, and how many twos: n = 2 ^ t * m -/
theorem TzR.split {n t : Nat} (h : TzR n t) (h0 : n ≠ 0) : n = 2 ^ t * (n / 2 ^ t) ∧ n / 2 ^ t % 2 = 1 := by
  rcases h with ⟨h, _⟩ | ⟨h1, h2⟩
  · exact absurd h h0
  · exact ⟨(Nat.mul_div_cancel' (Nat.dvd_of_mod_eq_zero h1)).symm, h2⟩
theorem odd_coprime_pow {m : Nat} (h : m % 2 = 1) (k : Nat) : Nat.gcd m (2 ^ k) = 1 := by
  have h2 : Nat.Coprime m 2 := by
    unfold Nat.Coprime
    rw [Nat.gcd_comm, Nat.gcd_rec, h]; rfl
  exact Nat.Coprime.pow_right k h2
theorem gcd_twos_le {a b p q : Nat} (ha : a % 2 = 1) (hpq : p ≤ q) : Nat.gcd (2 ^ p * a) (2 ^ q * b) = 2 ^ p * Nat.gcd a b := by
  obtain ⟨k, rfl⟩ : ∃ k, q = p + k := ⟨q - p, by omega⟩
  rw [Nat.pow_add, Nat.mul_assoc, Nat.gcd_mul_left]
  congr 1
  exact Nat.Coprime.gcd_mul_left_cancel_right b (Nat.Coprime.symm (odd_coprime_pow ha k))
theorem gcd_twos {a b p q : Nat} (ha : a % 2 = 1) (hb : b % 2 = 1) : Nat.gcd (2 ^ p * a) (2 ^ q * b) = 2 ^ (min p q) * Nat.gcd a b := by
  rcases Nat.le_total p q with h | h
  · rw [Nat.min_eq_left h]; exact gcd_twos_le ha h
  · rw [Nat.min_eq_right h, Nat.gcd_comm, gcd_twos_le hb h, Nat.gcd_comm]
/-- the last so many bits of a list -/
theorem low_words {l : List Nat} (oa : Ok l) {q s : Nat} (hq : q < l.length) (hs : s < 32) :
    val ((l.take (q + 1)).set q (l.getD q 0 % 2 ^ s)) = val l % 2 ^ (32 * q + s) := by
  have e1 : (l.take (q + 1)).set q (l.getD q 0 % 2 ^ s) = l.take q ++ [l.getD q 0 % 2 ^ s] := by
    rw [take_succ' l q hq, List.set_append]
    have : (l.take q).length = q := by rw [List.length_take]; omega
    rw [if_neg (by omega), this, Nat.sub_self]; rfl
  have hl : (l.take q).length = q := by rw [List.length_take]; omega
  rw [e1, val_snoc, hl]
  have hv := val_split l q (by omega)
  have hd := drop_cons' l q hq
  rw [hd, val_cons] at hv
  have lt := val_lt (oa.take q)
  rw [hl] at lt
  obtain ⟨r, hr⟩ : ∃ r, s + r = 32 := ⟨32 - s, by omega⟩
  have eW : (4294967296 : Nat) = 2 ^ s * 2 ^ r := by rw [← Nat.pow_add, hr]
  rw [Nat.pow_add, ← pw, hv]
  generalize val (l.drop (q + 1)) = D at *
  generalize l.getD q 0 = x at *
  generalize val (l.take q) = A at *
  have hP := pw_pos q
  generalize 4294967296 ^ q = P at *
  rw [Nat.mod_mul, show A + P * (x + 4294967296 * D) = P * (x + 4294967296 * D) + A by omega, Nat.mul_add_mod, Nat.mod_eq_of_lt lt, Nat.mul_add_div hP, Nat.div_eq_of_lt lt, Nat.add_zero, eW, Nat.mul_assoc, Nat.add_mul_mod_self_left]
theorem low_all {l : List Nat} (oa : Ok l) {q s : Nat} (hq : l.length ≤ q) : val l % 2 ^ (32 * q + s) = val l := by
  refine Nat.mod_eq_of_lt (Nat.lt_of_lt_of_le (val_lt oa) ?_)
  rw [pw]
  exact Nat.pow_le_pow_right (by decide) (by omega)
end Wd
