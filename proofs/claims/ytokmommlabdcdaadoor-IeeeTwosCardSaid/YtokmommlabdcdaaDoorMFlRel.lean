/- What the operations on complex numbers do, as relations between words. No conditions. Laws of binary64's operations for all words: commuted, negated, NaN in NaN out, and what goes in the same comes out the same. No conditions but that words are below 2^64. Bits of a binary64's word: what the walk's operations on uint64 come to. Lists of complex numbers in memory, and what the three sums of a list may answer. The row of all floats: places, neighbours, the order. Words that are whole numbers: sums, differences and products of them that stay below 2^53 are exact. Shifts of words: plain laws, and the walk's words for them. No conditions. Bits of numbers: lengths, and noughts at the end: plain laws. No conditions. -/
import Derived.Test.YtokmommlabdcdaaDoorMFlWalk
import Derived.Test.YtokmommlabdcdaaDoorMFl
set_option linter.unusedVariables false
set_option linter.unusedSimpArgs false
namespace Fl
open Go

def FAdd (x y r : Nat) : Prop := Res (D.add x y) r
def FSub (x y r : Nat) : Prop := Res (D.sub x y) r
def FMul (x y r : Nat) : Prop := Res (D.mul x y) r
def FDiv (x y r : Nat) : Prop := Res (D.div x y) r
theorem fop_add (x y : Nat) (w : World) : FAdd x y (fop .add x y w) := by unfold FAdd; exact fop_res .add x y w
theorem fop_sub (x y : Nat) (w : World) : FSub x y (fop .sub x y w) := by unfold FSub; exact fop_res .sub x y w
theorem fop_mul (x y : Nat) (w : World) : FMul x y (fop .mul x y w) := by unfold FMul; exact fop_res .mul x y w
theorem fop_div (x y : Nat) (w : World) : FDiv x y (fop .quo x y w) := by unfold FDiv; exact fop_res .quo x y w

def AddR (a b c d x y : Nat) : Prop := FAdd a c x ∧ FAdd b d y
def SubR (a b c d x y : Nat) : Prop := FSub a c x ∧ FSub b d y
def MulR (a b c d x y : Nat) : Prop := ∃ p q r s, FMul a c p ∧ FMul b d q ∧ FSub p q x ∧ FMul a d r ∧ FMul b c s ∧ FAdd r s y
/-- is x at least y, as the order of binary64 has it? -/
def geB (x y : Nat) : Bool := FloatKind.f64.format.order x y == some .gt || FloatKind.f64.format.order x y == some .eq
def DivR (a b c d x y : Nat) : Prop :=
  (geB (rg c) (rg d) = true ∧ ∃ r m t m1 n1 m2 n2, FDiv d c r ∧ FMul d r m ∧ FAdd c m t ∧ FMul b r m1 ∧ FAdd a m1 n1 ∧ FDiv n1 t x ∧ FMul a r m2 ∧ FSub b m2 n2 ∧ FDiv n2 t y) ∨
  (geB (rg c) (rg d) = false ∧ ∃ r m t m1 n1 m2 n2, FDiv c d r ∧ FMul c r m ∧ FAdd m d t ∧ FMul a r m1 ∧ FAdd m1 b n1 ∧ FDiv n1 t x ∧ FMul b r m2 ∧ FSub m2 a n2 ∧ FDiv n2 t y)

/-- the sign turned. -/
def neg (x : Nat) : Nat := if x < 2 ^ 63 then x + 2 ^ 63 else x - 2 ^ 63

/-- both NaN, or the same word. -/
def Same (x y : Nat) : Prop := x = y ∨ (isNan x ∧ isNan y)
end Fl
namespace Fl
open Ieee

theorem neg_lt (x : Nat) (h : x < 2 ^ 64) : neg x < 2 ^ 64 := by unfold neg; split <;> omega
theorem neg_neg (x : Nat) (h : x < 2 ^ 64) : neg (neg x) = x := by unfold neg; split <;> split <;> omega
theorem rg_neg (x : Nat) (h : x < 2 ^ 64) : rg (neg x) = rg x := by unfold neg rg; split <;> omega
theorem sg_neg (x : Nat) (h : x < 2 ^ 64) : sg (neg x) = !sg x := by
  unfold neg sg
  split
  · have a : x / 2 ^ 63 = 0 := by omega
    have b : (x + 2 ^ 63) / 2 ^ 63 = 1 := by omega
    rw [a, b]; decide
  · have a : x / 2 ^ 63 = 1 := by omega
    have b : (x - 2 ^ 63) / 2 ^ 63 = 0 := by omega
    rw [a, b]; decide
theorem neg_wd (s : Bool) (r : Nat) (h : r < 2 ^ 63) : neg (wd s r) = wd (!s) r := by
  cases s
  · have a : wd false r = r := rfl
    have b : wd (!false) r = 2 ^ 63 + r := rfl
    rw [a, b]; unfold neg; rw [if_pos h]; omega
  · have a : wd true r = 2 ^ 63 + r := rfl
    have b : wd (!true) r = r := rfl
    rw [a, b]; unfold neg; rw [if_neg (by omega)]; omega
theorem isNan_neg (x : Nat) (h : x < 2 ^ 64) : isNan (neg x) ↔ isNan x := by unfold isNan; rw [rg_neg x h]
theorem fin_neg (x : Nat) (h : x < 2 ^ 64) : fin (neg x) ↔ fin x := by unfold fin; rw [rg_neg x h]

theorem cases3 (x : Nat) : fin x ∨ rg x = INF ∨ isNan x := by unfold fin isNan; omega

theorem read_neg (x : Nat) (h : x < 2 ^ 64) : D.read (neg x) = (D.read x).opposite := by
  have e1 : neg x % 2 ^ 63 = x % 2 ^ 63 := rg_neg x h
  have e2 : (neg x / 2 ^ 63 % 2 == 1) = !(x / 2 ^ 63 % 2 == 1) := sg_neg x h
  unfold Format.read
  simp only
  rw [signWeight_eq, e1, e2]
  split
  · rfl
  · split
    · rfl
    · split <;> rfl

theorem sub_eq (x y : Nat) (h : y < 2 ^ 64) : D.sub x y = D.add x (neg y) := by
  unfold Format.sub Format.add; rw [read_neg y h]

theorem sum_comm (a b : Datum) : a.sum b = b.sum a := by
  cases a <;> cases b <;> simp only [Datum.sum]
  · rw [Int.min_comm]; rw [Int.add_comm, Bool.and_comm]
  · rename_i s t
    by_cases h : s = t
    · subst h; rfl
    · rw [if_neg h, if_neg (fun e => h e.symm)]

theorem product_comm (a b : Datum) : a.product b = b.product a := by
  cases a <;> cases b <;> simp only [Datum.product]
  · rw [Nat.mul_comm, Int.add_comm, Bool.xor_comm]
  all_goals rw [Bool.xor_comm]

theorem add_comm (x y : Nat) : D.add x y = D.add y x := by unfold Format.add; rw [sum_comm]
theorem mul_comm (x y : Nat) : D.mul x y = D.mul y x := by unfold Format.mul; rw [product_comm]

/-- a NaN goes in: none comes out. -/
theorem add_nan (x y : Nat) (h : isNan x ∨ isNan y) : D.add x y = none := by
  unfold Format.add
  rcases h with h | h
  · obtain ⟨t, e⟩ := read_nan x h; rw [e]; rfl
  · obtain ⟨t, e⟩ := read_nan y h; rw [e]; cases D.read x <;> rfl
theorem mul_nan (x y : Nat) (h : isNan x ∨ isNan y) : D.mul x y = none := by
  unfold Format.mul
  rcases h with h | h
  · obtain ⟨t, e⟩ := read_nan x h; rw [e]; rfl
  · obtain ⟨t, e⟩ := read_nan y h; rw [e]; cases D.read x <;> rfl
theorem div_nan (x y : Nat) (h : isNan x ∨ isNan y) : D.div x y = none := by
  unfold Format.div
  rcases h with h | h
  · obtain ⟨t, e⟩ := read_nan x h; rw [e]; rfl
  · obtain ⟨t, e⟩ := read_nan y h; rw [e]; cases D.read x <;> rfl
theorem sub_nan (x y : Nat) (h : isNan x ∨ isNan y) : D.sub x y = none := by
  unfold Format.sub
  rcases h with h | h
  · obtain ⟨t, e⟩ := read_nan x h; rw [e]; rfl
  · obtain ⟨t, e⟩ := read_nan y h; rw [e]; cases D.read x <;> rfl

theorem Res.nan {o : Option Nat} {r : Nat} (h : Res o r) (ho : o = none) : isNan r := by subst ho; exact h.1
theorem Res.eq {o : Option Nat} {r q : Nat} (h : Res o r) (ho : o = some q) : r = q := by subst ho; exact h

theorem FAdd.lt {x y r : Nat} (h : FAdd x y r) : r < 2 ^ 64 := by
  unfold FAdd at h
  cases e : D.add x y with
  | none => rw [e] at h; exact h.2
  | some q => rw [e] at h; have := Format.add_lt D e; cases h; exact this
theorem FSub.lt {x y r : Nat} (h : FSub x y r) : r < 2 ^ 64 := by
  unfold FSub at h
  cases e : D.sub x y with
  | none => rw [e] at h; exact h.2
  | some q => rw [e] at h; have := Format.sub_lt D e; cases h; exact this
theorem FMul.lt {x y r : Nat} (h : FMul x y r) : r < 2 ^ 64 := by
  unfold FMul at h
  cases e : D.mul x y with
  | none => rw [e] at h; exact h.2
  | some q => rw [e] at h; have := Format.mul_lt D e; cases h; exact this
theorem FDiv.lt {x y r : Nat} (h : FDiv x y r) : r < 2 ^ 64 := by
  unfold FDiv at h
  cases e : D.div x y with
  | none => rw [e] at h; exact h.2
  | some q => rw [e] at h; have := Format.div_lt D e; cases h; exact this

/-! ### what goes in the same comes out the same -/
theorem Same.refl (x : Nat) : Same x x := .inl rfl
theorem Same.symm {x y : Nat} (h : Same x y) : Same y x := by
  rcases h with h | h
  · exact .inl h.symm
  · exact .inr ⟨h.2, h.1⟩
theorem Same.trans {x y z : Nat} (h : Same x y) (g : Same y z) : Same x z := by
  rcases h with rfl | h
  · exact g
  · rcases g with rfl | g
    · exact .inr h
    · exact .inr ⟨h.1, g.2⟩

/-- two answers of one operation are the same. -/
theorem Res.same {o : Option Nat} {r r' : Nat} (h : Res o r) (g : Res o r') : Same r r' := by
  cases o with
  | none => exact .inr ⟨h.1, g.1⟩
  | some q => left; cases h; exact g.symm

theorem cong2 {f : Nat → Nat → Option Nat} (hn : ∀ x y, isNan x ∨ isNan y → f x y = none) {x y r x' y' r' : Nat}
    (h : Res (f x y) r) (g : Res (f x' y') r') (hx : Same x x') (hy : Same y y') : Same r r' := by
  rcases hx with rfl | hx
  · rcases hy with rfl | hy
    · exact h.same g
    · exact .inr ⟨h.nan (hn _ _ (.inr hy.1)), g.nan (hn _ _ (.inr hy.2))⟩
  · exact .inr ⟨h.nan (hn _ _ (.inl hx.1)), g.nan (hn _ _ (.inl hx.2))⟩

theorem FAdd.cong {x y r x' y' r' : Nat} (h : FAdd x y r) (g : FAdd x' y' r') (hx : Same x x') (hy : Same y y') : Same r r' := cong2 add_nan h g hx hy
theorem FSub.cong {x y r x' y' r' : Nat} (h : FSub x y r) (g : FSub x' y' r') (hx : Same x x') (hy : Same y y') : Same r r' := cong2 sub_nan h g hx hy
theorem FMul.cong {x y r x' y' r' : Nat} (h : FMul x y r) (g : FMul x' y' r') (hx : Same x x') (hy : Same y y') : Same r r' := cong2 mul_nan h g hx hy
theorem FDiv.cong {x y r x' y' r' : Nat} (h : FDiv x y r) (g : FDiv x' y' r') (hx : Same x x') (hy : Same y y') : Same r r' := cong2 div_nan h g hx hy
theorem FAdd.comm {x y r : Nat} (h : FAdd x y r) : FAdd y x r := by unfold FAdd at *; rwa [add_comm]
theorem FMul.comm {x y r : Nat} (h : FMul x y r) : FMul y x r := by unfold FMul at *; rwa [mul_comm]

theorem Same.neg {x y : Nat} (hx : x < 2 ^ 64) (hy : y < 2 ^ 64) (h : Same x y) : Same (neg x) (neg y) := by
  rcases h with rfl | h
  · exact .inl rfl
  · exact .inr ⟨(isNan_neg x hx).2 h.1, (isNan_neg y hy).2 h.2⟩

/-! ### the same, but for the signs of noughts -/
def Lk (x y : Nat) : Prop := Same x y ∨ (rg x = 0 ∧ rg y = 0)
theorem Same.lk {x y : Nat} (h : Same x y) : Lk x y := .inl h

theorem sum_opposite (a b : Datum) : (∃ s m p, a.sum b = some (.number s m p) ∧ ∃ s', a.opposite.sum b.opposite = some (.number s' m p) ∧ (m ≠ 0 → s' = !s)) ∨
    (∃ s, a.sum b = some (.infinity s) ∧ a.opposite.sum b.opposite = some (.infinity !s)) ∨ (a.sum b = none ∧ a.opposite.sum b.opposite = none) := by
  cases a with
  | nan s t => exact .inr (.inr ⟨rfl, rfl⟩)
  | infinity s =>
    cases b with
    | nan t u => exact .inr (.inr ⟨rfl, rfl⟩)
    | number t n j => exact .inr (.inl ⟨_, rfl, rfl⟩)
    | infinity t =>
      simp only [Datum.sum, Datum.opposite]
      by_cases h : s = t
      · subst h; exact .inr (.inl ⟨s, by simp, by simp⟩)
      · right; right
        have : ¬ (!s) = !t := by simpa using h
        exact ⟨if_neg h, if_neg this⟩
  | number s m i =>
    cases b with
    | nan t u => exact .inr (.inr ⟨rfl, rfl⟩)
    | infinity t => exact .inr (.inl ⟨_, rfl, rfl⟩)
    | number t n j =>
      simp only [Datum.sum, Datum.opposite]
      left
      refine ⟨_, _, _, rfl, ?_⟩
      have key : ∀ (s : Bool) (m u : Nat), signed (!s) m u = - signed s m u := by
        intro s m u; unfold signed; cases s <;> simp
      rw [key, key, ← Int.neg_add]
      generalize signed s m _ + signed t n _ = T
      refine ⟨_, by rw [Int.natAbs_neg], ?_⟩
      intro hT
      have h0 : T ≠ 0 := by intro h; subst h; exact hT rfl
      have h0' : - T ≠ 0 := by omega
      rw [if_neg h0, if_neg h0']
      by_cases c : T < 0
      · have : ¬ (-T < 0) := by omega
        rw [decide_eq_true c, decide_eq_false this]; rfl
      · have : -T < 0 := by omega
        rw [decide_eq_false c, decide_eq_true this]; rfl

theorem INF_word : D.infRung = INF := by decide

theorem rq_lt (n d : Nat) : rq n d < 2 ^ 63 := Nat.lt_of_le_of_lt (rq_le n d) INF_lt

theorem FAdd.neg_lk {x y r r' : Nat} (hx : x < 2 ^ 64) (hy : y < 2 ^ 64) (h : FAdd x y r) (g : FAdd (neg x) (neg y) r') : Lk (neg r) r' := by
  have hr := h.lt
  unfold FAdd Format.add at h g
  rw [read_neg x hx, read_neg y hy] at g
  rcases sum_opposite (D.read x) (D.read y) with ⟨s, m, p, e, s', e', hs⟩ | ⟨s, e, e'⟩ | ⟨e, e'⟩
  · rw [e] at h; rw [e'] at g
    simp only [Option.map_some, Format.write, Res, nearest_wd] at h g
    subst h; subst g
    by_cases hm : m = 0
    · right
      subst hm
      have z : rq (0 * 2 ^ (p + 1074).toNat) (2 ^ (-1074 - p).toNat) = 0 := by unfold rq; rw [Nat.zero_mul, rungQ_zero, Nat.zero_min]
      rw [rg_neg _ (wd_lt _ _ (rq_lt _ _)), rg_wd _ _ (rq_lt _ _), rg_wd _ _ (rq_lt _ _), z]
      exact ⟨rfl, rfl⟩
    · left; left
      rw [neg_wd _ _ (rq_lt _ _), hs hm]
  · rw [e] at h; rw [e'] at g
    simp only [Option.map_some, Format.write, Res, word_eq, INF_word] at h g
    subst h; subst g
    left; left
    rw [neg_wd _ _ INF_lt]
  · rw [e] at h; rw [e'] at g
    left; right
    exact ⟨(isNan_neg r hr).2 h.1, g.1⟩

/-- a product with one factor turned is the product turned. -/
theorem mul_neg_l (x y : Nat) (hx : x < 2 ^ 64) : D.mul (neg x) y = (D.mul x y).map neg := by
  unfold Format.mul
  rw [read_neg x hx]
  have key : ∀ (s : Bool) (m : Nat) (p : Int), D.nearest (!s) m p = neg (D.nearest s m p) := by
    intro s m p; rw [nearest_wd, nearest_wd, neg_wd _ _ (rq_lt _ _)]
  have key2 : ∀ s : Bool, D.word (!s) D.infRung = neg (D.word s D.infRung) := by
    intro s; rw [word_eq, word_eq, INF_word, neg_wd _ _ INF_lt]
  cases D.read x <;> cases D.read y <;> simp only [Datum.opposite, Datum.product, Option.map_none, Option.map_some, Format.write]
  · rw [← key]; simp
  · rename_i s m i t
    by_cases h : m = 0
    · simp [h]
    · simp only [h, if_false, Option.map_some, Format.write]; rw [← key2]; simp
  · rename_i s t n j
    by_cases h : n = 0
    · simp [h]
    · simp only [h, if_false, Option.map_some, Format.write]; rw [← key2]; simp
  · rw [← key2]; simp

theorem mul_neg_r (x y : Nat) (hy : y < 2 ^ 64) : D.mul x (neg y) = (D.mul x y).map neg := by
  rw [mul_comm, mul_neg_l y x hy, mul_comm]

theorem Res.map_neg {o : Option Nat} {r r' : Nat} (h : Res o r) (g : Res (o.map neg) r') : Same (Fl.neg r) r' ∨ (isNan r ∧ isNan r') := by
  cases o with
  | none => exact .inr ⟨h.1, g.1⟩
  | some q => left; left; cases h; exact g.symm

theorem FMul.neg_l {x y r r' : Nat} (hx : x < 2 ^ 64) (h : FMul x y r) (g : FMul (neg x) y r') : Same (neg r) r' := by
  have hr := h.lt
  unfold FMul at h g
  rw [mul_neg_l x y hx] at g
  rcases h.map_neg g with a | a
  · exact a
  · exact .inr ⟨(isNan_neg r hr).2 a.1, a.2⟩
theorem FMul.neg_r {x y r r' : Nat} (hy : y < 2 ^ 64) (h : FMul x y r) (g : FMul x (neg y) r') : Same (neg r) r' := FMul.neg_l hy h.comm g.comm

theorem FSub.add {x y r : Nat} (hy : y < 2 ^ 64) (h : FSub x y r) : FAdd x (neg y) r := by unfold FSub at h; unfold FAdd; rwa [← sub_eq x y hy]

theorem FSub.neg_lk {x y r r' : Nat} (hx : x < 2 ^ 64) (hy : y < 2 ^ 64) (h : FSub x y r) (g : FSub (neg x) (neg y) r') : Lk (neg r) r' :=
  FAdd.neg_lk hx (neg_lt y hy) (h.add hy) (g.add (neg_lt y hy))


/-! ### the order -/
theorem order_self (x : Nat) : D.order x x = some .eq ↔ ¬ isNan x := by
  rcases cases3 x with h | h | h
  · rw [order_fin x x h h]
    have e : compare (iv x) (iv x) = .eq := Int.compare_eq_eq.2 rfl
    have : ¬ isNan x := by unfold fin at h; unfold isNan; omega
    simp [this]
  · have : ¬ isNan x := by unfold isNan; omega
    unfold Format.order
    rw [read_inf x h]
    cases sg x <;> simp [Datum.order, this] <;> decide
  · obtain ⟨t, e⟩ := read_nan x h
    unfold Format.order
    rw [e]
    simp [Datum.order, h]

instance (x y : Nat) : Decidable (Same x y) := inferInstanceAs (Decidable (x = y ∨ (isNan x ∧ isNan y)))
def sameB (x y : Nat) : Bool := decide (Same x y)
theorem sameB_true {x y : Nat} (h : Same x y) : sameB x y = true := decide_eq_true h
/-- SameC's answer. -/
def sameCB (a b c d : Nat) : Bool := sameB a c && sameB b d
/-- 'x == 0' -/
def zeroB (x : Nat) : Bool := decide (rg x = 0)
def lkB (x y : Nat) : Bool := sameB x y || (zeroB x && zeroB y)
theorem lkB_true {x y : Nat} (h : Lk x y) : lkB x y = true := by
  unfold lkB zeroB
  rcases h with h | h
  · rw [sameB_true h]; rfl
  · simp [h.1, h.2]

theorem order_zero (x : Nat) : D.order x 0 = some .eq ↔ rg x = 0 := by
  have f0 : fin 0 := by decide
  have v0 : iv 0 = 0 := by decide
  rcases cases3 x with h | h | h
  · rw [order_fin x 0 h f0, v0]
    have key : iv x = 0 ↔ rg x = 0 := by
      unfold iv
      have : mv x = 0 ↔ rg x = 0 := by
        unfold mv
        constructor
        · intro e
          by_cases c : rg x = 0
          · exact c
          · have := valR_lt (r := 0) (s := rg x) (by omega)
            omega
        · intro e; rw [e]; rfl
      split <;> omega
    rw [← key, Option.some.injEq]
    exact Int.compare_eq_eq
  · unfold Format.order
    rw [read_inf x h]
    have e0 : D.read 0 = .number false 0 (-1074) := by decide
    rw [e0]
    have : rg x ≠ 0 := by rw [h]; decide
    cases sg x <;> simp [Datum.order, this]
  · obtain ⟨t, e⟩ := read_nan x h
    unfold Format.order
    rw [e]
    have : rg x ≠ 0 := by unfold isNan at h; omega
    simp [Datum.order, this]
theorem order_zeroB (x : Nat) : (Go.FloatKind.f64.format.order x 0 == some Ordering.eq) = zeroB x := by
  have e : Go.FloatKind.f64.format = D := rfl
  rw [e]
  unfold zeroB
  by_cases h : rg x = 0
  · rw [decide_eq_true h, (order_zero x).2 h]; rfl
  · rw [decide_eq_false h, beq_eq_false_iff_ne]; exact fun c => h ((order_zero x).1 c)

theorem sameCB_true {a b c d : Nat} (h : Same a c) (g : Same b d) : sameCB a b c d = true := by
  unfold sameCB; rw [sameB_true h, sameB_true g]; rfl
theorem AddR.comm {a b c d x y x' y' : Nat} (h : AddR a b c d x y) (g : AddR c d a b x' y') : sameCB x y x' y' = true :=
  sameCB_true (Res.same h.1 g.1.comm) (Res.same h.2 g.2.comm)
theorem MulR.comm {a b c d x y x' y' : Nat} (h : MulR a b c d x y) (g : MulR c d a b x' y') : sameCB x y x' y' = true := by
  obtain ⟨p, q, r, s, h1, h2, h3, h4, h5, h6⟩ := h
  obtain ⟨p', q', r', s', g1, g2, g3, g4, g5, g6⟩ := g
  refine sameCB_true (h3.cong g3 (Res.same h1 g1.comm) (Res.same h2 g2.comm)) ?_
  exact h6.cong g6.comm (Res.same h4 g5.comm) (Res.same h5 g4.comm)
theorem SubR.addNeg {a b c d x y x' y' : Nat} (hc : c < 2 ^ 64) (hd : d < 2 ^ 64) (h : SubR a b c d x y) (g : AddR a b (neg c) (neg d) x' y') : sameCB x y x' y' = true :=
  sameCB_true (Res.same (h.1.add hc) g.1) (Res.same (h.2.add hd) g.2)
theorem AddR.conj {a b c d x y x' y' : Nat} (hb : b < 2 ^ 64) (hd : d < 2 ^ 64) (h : AddR a b c d x y) (g : AddR a (neg b) c (neg d) x' y') : Lk x x' ∧ Lk (neg y) y' :=
  ⟨(Res.same h.1 g.1).lk, FAdd.neg_lk hb hd h.2 g.2⟩
theorem SubR.conj {a b c d x y x' y' : Nat} (hb : b < 2 ^ 64) (hd : d < 2 ^ 64) (h : SubR a b c d x y) (g : SubR a (neg b) c (neg d) x' y') : Lk x x' ∧ Lk (neg y) y' :=
  ⟨(Res.same h.1 g.1).lk, FSub.neg_lk hb hd h.2 g.2⟩
/-- a sum of the turned, where the parts are the same as the turned ones -/
theorem FAdd.neg_lk' {x y r u v r' : Nat} (h : FAdd x y r) (g : FAdd u v r') (hx : x < 2 ^ 64) (hy : y < 2 ^ 64) (hu : Same (neg x) u) (hv : Same (neg y) v) : Lk (neg r) r' := by
  obtain ⟨q, hq⟩ : ∃ q, FAdd (neg x) (neg y) q := by
    unfold FAdd Res
    cases D.add (neg x) (neg y) with
    | none => exact ⟨INF + 1, by decide, by decide⟩
    | some q => exact ⟨q, rfl⟩
  have a := FAdd.neg_lk hx hy h hq
  have b : Same q r' := hq.cong g hu hv
  rcases a with a | a
  · exact .inl (a.trans b)
  · rcases b with rfl | b
    · exact .inr a
    · exfalso
      have := b.1
      unfold isNan at this
      omega
theorem FSub.neg_lk' {x y r u v r' : Nat} (h : FSub x y r) (g : FSub u v r') (hx : x < 2 ^ 64) (hy : y < 2 ^ 64) (hvl : v < 2 ^ 64) (hu : Same (neg x) u) (hv : Same (neg y) v) : Lk (neg r) r' := by
  refine FAdd.neg_lk' (h.add hy) (g.add hvl) hx (neg_lt y hy) hu ?_
  exact hv.neg (neg_lt y hy) hvl
theorem MulR.conj {a b c d x y x' y' : Nat} (hb : b < 2 ^ 64) (hd : d < 2 ^ 64) (h : MulR a b c d x y) (g : MulR a (neg b) c (neg d) x' y') : Lk x x' ∧ Lk (neg y) y' := by
  obtain ⟨p, q, r, s, h1, h2, h3, h4, h5, h6⟩ := h
  obtain ⟨p', q', r', s', g1, g2, g3, g4, g5, g6⟩ := g
  constructor
  · refine (h3.cong g3 (Res.same h1 g1) ?_).lk
    -- (-b)(-d) is b d
    obtain ⟨t, ht⟩ : ∃ t, FMul (neg b) d t := by
      unfold FMul Res
      cases D.mul (neg b) d with
      | none => exact ⟨INF + 1, by decide, by decide⟩
      | some q => exact ⟨q, rfl⟩
    have e1 : Same (neg q) t := FMul.neg_l hb h2 ht
    have e2 : Same (neg t) q' := FMul.neg_r hd ht g2
    have e3 := e1.neg (neg_lt q h2.lt) ht.lt
    rw [neg_neg q h2.lt] at e3
    exact e3.trans e2
  · exact FAdd.neg_lk' h6 g6 h4.lt h5.lt (FMul.neg_r hd h4 g4) (FMul.neg_l hb h5 g5)
theorem MulR.negL {a b c d x y x' y' : Nat} (ha : a < 2 ^ 64) (hb : b < 2 ^ 64) (h : MulR a b c d x y) (g : MulR (neg a) (neg b) c d x' y') : Lk (neg x) x' ∧ Lk (neg y) y' := by
  obtain ⟨p, q, r, s, h1, h2, h3, h4, h5, h6⟩ := h
  obtain ⟨p', q', r', s', g1, g2, g3, g4, g5, g6⟩ := g
  exact ⟨FSub.neg_lk' h3 g3 h1.lt h2.lt g2.lt (FMul.neg_l ha h1 g1) (FMul.neg_l hb h2 g2), FAdd.neg_lk' h6 g6 h4.lt h5.lt (FMul.neg_l ha h4 g4) (FMul.neg_l hb h5 g5)⟩
theorem MulR.lt {a b c d x y : Nat} (h : MulR a b c d x y) : x < 2 ^ 64 ∧ y < 2 ^ 64 := by
  obtain ⟨p, q, r, s, _, _, h3, _, _, h6⟩ := h
  exact ⟨h3.lt, h6.lt⟩
theorem DivR.lt {a b c d x y : Nat} (h : DivR a b c d x y) : x < 2 ^ 64 ∧ y < 2 ^ 64 := by
  rcases h with ⟨_, _, _, _, _, _, _, _, _, _, _, _, _, h6, _, _, h9⟩ | ⟨_, _, _, _, _, _, _, _, _, _, _, _, _, h6, _, _, h9⟩
  · exact ⟨h6.lt, h9.lt⟩
  · exact ⟨h6.lt, h9.lt⟩
end Fl
namespace Fl
open Go

theorem bits_size (x : Nat) (h : x < 2 ^ 64) : bits .andNot .u64 (x : Int) 9223372036854775808 = (rg x : Int) := by
  have := u64_andNot_nat x 9223372036854775808 h (by decide)
  rw [show ((9223372036854775808 : Nat) : Int) = 9223372036854775808 from rfl] at this
  rw [this]
  congr 1
  exact Nat.and_two_pow_sub_one_eq_mod x 63

theorem xor_top (x : Nat) (h : x < 2 ^ 64) : x ^^^ 9223372036854775808 = neg x := by
  refine Nat.eq_of_testBit_eq fun i => ?_
  rw [Nat.testBit_xor]
  have e : Nat.testBit 9223372036854775808 i = decide (63 = i) := Nat.testBit_two_pow (n := 63) (m := i)
  rw [e]
  unfold neg
  by_cases c : x < 2 ^ 63
  · rw [if_pos c]
    by_cases hi : i = 63
    · subst hi
      have a : x.testBit 63 = false := Nat.testBit_lt_two_pow c
      have b : (x + 2 ^ 63).testBit 63 = true := by
        rw [Nat.add_comm, Nat.testBit_two_pow_add_eq, a]; rfl
      rw [a, b]; rfl
    · have hd : decide (63 = i) = false := by simp; omega
      rw [hd, Bool.xor_false]
      by_cases hl : i < 63
      · rw [Nat.add_comm, Nat.testBit_two_pow_add_gt hl]
      · have a : x.testBit i = false := Nat.testBit_lt_two_pow (Nat.lt_of_lt_of_le c (Nat.pow_le_pow_right (by omega) (by omega)))
        have b : (x + 2 ^ 63).testBit i = false := Nat.testBit_lt_two_pow (Nat.lt_of_lt_of_le (by omega : x + 2 ^ 63 < 2 ^ 64) (Nat.pow_le_pow_right (by omega) (by omega)))
        rw [a, b]
  · rw [if_neg c]
    obtain ⟨y, hy, hy2⟩ : ∃ y, x = 2 ^ 63 + y ∧ y < 2 ^ 63 := ⟨x - 2 ^ 63, by omega, by omega⟩
    have e2 : x - 2 ^ 63 = y := by omega
    rw [e2]
    by_cases hi : i = 63
    · subst hi
      have a : y.testBit 63 = false := Nat.testBit_lt_two_pow hy2
      rw [hy, Nat.testBit_two_pow_add_eq, a]; rfl
    · have hd : decide (63 = i) = false := by simp; omega
      rw [hd, Bool.xor_false, hy]
      by_cases hl : i < 63
      · rw [Nat.testBit_two_pow_add_gt hl]
      · have a : y.testBit i = false := Nat.testBit_lt_two_pow (Nat.lt_of_lt_of_le hy2 (Nat.pow_le_pow_right (by omega) (by omega)))
        have b : (2 ^ 63 + y).testBit i = false := Nat.testBit_lt_two_pow (Nat.lt_of_lt_of_le (by omega : 2 ^ 63 + y < 2 ^ 64) (Nat.pow_le_pow_right (by omega) (by omega)))
        rw [a, b]

theorem bits_neg (x : Nat) (h : x < 2 ^ 64) : bits .xor .u64 (x : Int) 9223372036854775808 = (neg x : Int) := by
  have := u64_xor_nat x 9223372036854775808 h (by decide)
  rw [show ((9223372036854775808 : Nat) : Int) = 9223372036854775808 from rfl] at this
  rw [this, xor_top x h]

theorem negFloat_eq (x : Nat) (h : x < 2 ^ 64) : Op.negFloat .f64 x = neg x := by
  unfold Op.negFloat
  exact xor_top x h

/-- the place in the row of words, of what is no NaN -/
def pl (x : Nat) : Int := if sg x then -1 - (rg x : Int) else (rg x : Int)
/-- the greater one of two, by that row -/
def NANQ : Nat := 9221120237041090560
def fmax (x y : Nat) : Nat := if isNan x ∨ isNan y then NANQ else if pl x ≤ pl y then y else x
def fmin (x y : Nat) : Nat := if isNan x ∨ isNan y then NANQ else if pl y ≤ pl x then y else x

theorem ret_bool {a b : Bool} (h : a = b) : Ending.returned (.bool a) = .returned (.bool b) := by rw [h]
theorem ret_int {k : IntKind} {a b : Int} (h : a = b) : Ending.returned (.int k a) = .returned (.int k b) := by rw [h]
theorem ret_float {a b : Nat} (h : a = b) : Ending.returned (.float .f64 a) = .returned (.float .f64 b) := by rw [h]

theorem nan_test (x : Nat) : decide (9218868437227405312 < (rg x : Int)) = decide (isNan x) := by
  have : (9218868437227405312 < (rg x : Int)) ↔ isNan x := by unfold isNan INF; omega
  exact decide_eq_decide.2 this
theorem inf_test (x : Nat) : ((rg x : Int) == 9218868437227405312) = decide (rg x = INF) := by
  have : ((rg x : Int) = 9218868437227405312) ↔ rg x = INF := by unfold INF; omega
  by_cases h : rg x = INF
  · rw [decide_eq_true h, this.2 h]; rfl
  · rw [decide_eq_false h, beq_eq_false_iff_ne]; exact fun e => h (this.1 e)
theorem and_top (x : Nat) (h : x < 2 ^ 64) : bits .and .u64 (x : Int) 9223372036854775808 = if sg x then 9223372036854775808 else 0 := by
  have := u64_and_nat x 9223372036854775808 h (by decide)
  rw [show ((9223372036854775808 : Nat) : Int) = 9223372036854775808 from rfl] at this
  have e : x &&& 9223372036854775808 = x / 2 ^ 63 % 2 * 2 ^ 63 := nat_bit 63 x
  rw [this, e]
  unfold sg
  by_cases c : x / 2 ^ 63 % 2 = 1
  · simp [c]
  · have c0 : x / 2 ^ 63 % 2 = 0 := by omega
    simp [c0]
theorem sign_test (x : Nat) (h : x < 2 ^ 64) : (bits .and .u64 (x : Int) 9223372036854775808 != 0) = sg x := by
  rw [and_top x h]; cases sg x <;> rfl
theorem sg_true {x : Nat} (h : x < 2 ^ 64) (hs : sg x = true) : x = 2 ^ 63 + rg x := by
  have := wd_sg_rg x h; rw [hs] at this; exact this.symm
theorem sg_false {x : Nat} (h : x < 2 ^ 64) (hs : sg x = false) : x = rg x := by
  have := wd_sg_rg x h; rw [hs] at this; exact this.symm
theorem pl_true {x : Nat} (hs : sg x = true) : pl x = -1 - (rg x : Int) := by unfold pl; rw [hs]; rfl
theorem pl_false {x : Nat} (hs : sg x = false) : pl x = (rg x : Int) := by unfold pl; rw [hs]; rfl
theorem pl_neg (x : Nat) : pl x < 0 ↔ sg x = true := by
  cases hs : sg x
  · rw [pl_false hs]; exact ⟨fun h => by omega, fun h => by cases h⟩
  · rw [pl_true hs]; exact ⟨fun _ => rfl, fun _ => by omega⟩
theorem pl_bounds (x : Nat) : -9223372036854775808 ≤ pl x ∧ pl x < 9223372036854775808 := by
  have := rg_lt x
  cases hs : sg x
  · rw [pl_false hs]; omega
  · rw [pl_true hs]; omega
theorem pl_inj {x y : Nat} (hx : x < 2 ^ 64) (hy : y < 2 ^ 64) (h : pl x = pl y) : x = y := by
  cases hs : sg x <;> cases ht : sg y
  · rw [pl_false hs, pl_false ht] at h; rw [sg_false hx hs, sg_false hy ht]; omega
  · rw [pl_false hs, pl_true ht] at h; omega
  · rw [pl_true hs, pl_false ht] at h; omega
  · rw [pl_true hs, pl_true ht] at h; rw [sg_true hx hs, sg_true hy ht]; omega

theorem w64 (n : Int) (h1 : -9223372036854775808 ≤ n) (h2 : n < 9223372036854775808) : RowKit.wrap64 n = n := by
  unfold RowKit.wrap64; omega
theorem u64w (n : Int) (h1 : 0 ≤ n) (h2 : n < 18446744073709551616) : IntKind.u64.wrap n = n := by
  simp [IntKind.wrap, IntKind.bits, IntKind.signed]; omega

/-- what 'place' reckons -/
theorem place_neg (x : Nat) (hs : sg x = true) : RowKit.wrap64 (-1 - RowKit.wrap64 (rg x : Int)) = pl x := by
  have := rg_lt x
  rw [w64 (rg x : Int) (by omega) (by omega), w64 _ (by omega) (by omega), pl_true hs]
theorem place_pos (x : Nat) (h : x < 2 ^ 64) (hs : sg x = false) : RowKit.wrap64 (x : Int) = pl x := by
  have := rg_lt x
  have e := sg_false h hs
  rw [w64 (x : Int) (by omega) (by omega), pl_false hs]; omega
/-- what 'at' reckons -/
theorem at_neg (x : Nat) (h : x < 2 ^ 64) (hs : sg x = true) : (bits .or .u64 (IntKind.u64.wrap (RowKit.wrap64 (-1 - pl x))) 9223372036854775808).toNat = x := by
  have hr := rg_lt x
  have e := sg_true h hs
  rw [pl_true hs]
  have e1 : -1 - (-1 - (rg x : Int)) = (rg x : Int) := by omega
  rw [e1, w64 _ (by omega) (by omega), u64w _ (by omega) (by omega)]
  have := u64_or_nat (rg x) 9223372036854775808 (by omega) (by decide)
  rw [show ((9223372036854775808 : Nat) : Int) = 9223372036854775808 from rfl] at this
  rw [this, Nat.or_comm, nat_join 63 _ _ (by decide) hr]
  omega
theorem at_pos (x : Nat) (h : x < 2 ^ 64) (hs : sg x = false) : (IntKind.u64.wrap (pl x)).toNat = x := by
  have hr := rg_lt x
  have e := sg_false h hs
  rw [pl_false hs, u64w _ (by omega) (by omega)]; omega
theorem fmax_r {x y : Nat} (nx : ¬ isNan x) (ny : ¬ isNan y) (h : pl x ≤ pl y) : fmax x y = y := by
  unfold fmax; rw [if_neg (by rintro (h | h) <;> contradiction), if_pos h]
theorem fmax_l {x y : Nat} (hx : x < 2 ^ 64) (hy : y < 2 ^ 64) (nx : ¬ isNan x) (ny : ¬ isNan y) (h : pl y ≤ pl x) : fmax x y = x := by
  unfold fmax; rw [if_neg (by rintro (h | h) <;> contradiction)]
  split
  · exact pl_inj hy hx (by omega)
  · rfl
theorem fmin_l {x y : Nat} (hx : x < 2 ^ 64) (hy : y < 2 ^ 64) (nx : ¬ isNan x) (ny : ¬ isNan y) (h : pl x ≤ pl y) : fmin x y = x := by
  unfold fmin; rw [if_neg (by rintro (h | h) <;> contradiction)]
  split
  · exact pl_inj hy hx (by omega)
  · rfl
theorem fmin_r {x y : Nat} (nx : ¬ isNan x) (ny : ¬ isNan y) (h : pl y ≤ pl x) : fmin x y = y := by
  unfold fmin; rw [if_neg (by rintro (h | h) <;> contradiction), if_pos h]
theorem fmax_nan {x y : Nat} (h : isNan x ∨ isNan y) : fmax x y = NANQ := by unfold fmax; rw [if_pos h]
theorem fmin_nan {x y : Nat} (h : isNan x ∨ isNan y) : fmin x y = NANQ := by unfold fmin; rw [if_pos h]

/-- the class of a word, as the document numbers them -/
def clsF (x : Nat) : Int := if isNan x then 1 else if rg x = INF then 2 else if rg x = 0 then 3 else if rg x < 2 ^ 52 then 4 else 5
theorem clsF_cases (x : Nat) : clsF x = if 9218868437227405312 < (rg x : Int) then 1 else if (rg x : Int) = 9218868437227405312 then 2 else if (rg x : Int) = 0 then 3 else if (rg x : Int) ≤ 4503599627370495 then 4 else 5 := by
  have a : (9218868437227405312 < (rg x : Int)) ↔ isNan x := by unfold isNan INF; omega
  have b : ((rg x : Int) = 9218868437227405312) ↔ rg x = INF := by unfold INF; omega
  have c : ((rg x : Int) = 0) ↔ rg x = 0 := by omega
  have d : ((rg x : Int) ≤ 4503599627370495) ↔ rg x < 2 ^ 52 := by omega
  unfold clsF
  simp only [a, b, c, d]
theorem sameB_eq (x y : Nat) : sameB x y = (decide (isNan x) && decide (isNan y) || ((x : Int) == (y : Int))) := by
  unfold sameB Same
  have c : ((x : Int) == (y : Int)) = decide (x = y) := by
    by_cases h : x = y
    · subst h; simp
    · rw [decide_eq_false h]; simp; omega
  rw [c]
  by_cases h : x = y <;> by_cases g : isNan x <;> by_cases k : isNan y <;> simp [h, g, k]
/-- 'x == y' of two words -/
def eqB (x y : Nat) : Bool := FloatKind.f64.format.order x y == some Ordering.eq
/-- the class of a complex number, as the document numbers them -/
def clsC (a b : Nat) : Int := if (clsF a == 2 || clsF b == 2) = true then 2 else if (clsF a == 1 || clsF b == 1) = true then 1 else if (clsF a == 3 && clsF b == 3) = true then 3 else 4
end Fl
namespace Fl
open Go

abbrev Cpx := Nat × Nat
/-- the value of a complex number -/
def cv (z : Cpx) : Value := .complex .f64 z.1 z.2
/-- the i-th -/
def nth (zs : List Cpx) (i : Nat) : Cpx := zs.getD i (0, 0)
/-- the cells from an address on hold the list -/
def Cells (w : World) (b off : Nat) (zs : List Cpx) : Prop := ∀ i, i < zs.length → w.cell? ⟨b, off + i, none⟩ = some (cv (nth zs i))
/-- a slice value that reads as the list -/
def Sl (w : World) (v : Value) (zs : List Cpx) : Prop :=
  (v = .slice none 0 0 ∧ zs = []) ∨ ∃ b off cap, v = .slice (some ⟨b, off, none⟩) zs.length cap ∧ zs.length ≤ cap ∧ Cells w b off zs

theorem Cells.drewN {w : World} {b off : Nat} {zs : List Cpx} (h : Cells w b off zs) (n : Nat) : Cells (w.drewN n) b off zs := h
theorem Sl.drewN {w : World} {v : Value} {zs : List Cpx} (h : Sl w v zs) (n : Nat) : Sl (w.drewN n) v zs := h
theorem Cells.take {w : World} {b off : Nat} {zs : List Cpx} (h : Cells w b off zs) (k : Nat) : Cells w b off (zs.take k) := fun i hi => by
  have hl : (zs.take k).length ≤ zs.length := List.length_take_le' _ _
  have hk : i < k := by have := List.length_take_le k zs; omega
  rw [h i (by omega)]
  congr 2
  simp [nth, List.getD_eq_getElem?_getD, hk]
theorem Cells.drop {w : World} {b off : Nat} {zs : List Cpx} (h : Cells w b off zs) (k : Nat) : Cells w b (off + k) (zs.drop k) := fun i hi => by
  rw [List.length_drop] at hi
  have := h (k + i) (by omega)
  rw [Nat.add_assoc, this]
  congr 2
  simp [nth, List.getD_eq_getElem?_getD]

inductive HalvesR : List Cpx → Nat → Nat → Prop
  | nil : HalvesR [] 0 0
  | one (z : Cpx) : HalvesR [z] z.1 z.2
  | more (zs : List Cpx) (a b c d x y : Nat) : 2 ≤ zs.length → HalvesR (zs.take (zs.length / 2)) a b → HalvesR (zs.drop (zs.length / 2)) c d → AddR a b c d x y → HalvesR zs x y

/-- added one by one behind what is there -/
inductive FoldR : Nat → Nat → List Cpx → Nat → Nat → Prop
  | nil (a b : Nat) : FoldR a b [] a b
  | cons (a b : Nat) (z : Cpx) (zs : List Cpx) (c d x y : Nat) : AddR a b z.1 z.2 c d → FoldR c d zs x y → FoldR a b (z :: zs) x y

theorem FoldR.snoc {a b : Nat} {zs : List Cpx} {c d : Nat} (h : FoldR a b zs c d) {z : Cpx} {x y : Nat} (g : AddR c d z.1 z.2 x y) : FoldR a b (zs ++ [z]) x y := by
  induction h with
  | nil a b => exact .cons _ _ _ _ _ _ _ _ g (.nil _ _)
  | cons a b z' zs' c' d' x' y' h1 _ ih => exact .cons _ _ _ _ _ _ _ _ h1 (ih g)

/-- the sum from the front of a list of one or more -/
def FrontR (zs : List Cpx) (x y : Nat) : Prop := match zs with
  | [] => x = 0 ∧ y = 0
  | z :: r => FoldR z.1 z.2 r x y
/-- what Sum answers in an order that is one -/
def SumR (zs : List Cpx) (order : Int) (x y : Nat) : Prop :=
  (order = 1 ∧ FrontR zs x y) ∨ (order = 2 ∧ FrontR zs.reverse x y) ∨ (order = 3 ∧ HalvesR zs x y)

/-- a complex number is answered, of which Q; the world but for draws as it was -/
def CRet (Q : Nat → Nat → Prop) (w : World) (e : Ending) (w' : World) : Prop := ∃ x y n, Q x y ∧ e = .returned (.complex .f64 x y) ∧ w' = w.drewN n
theorem CRet.mk {Q : Nat → Nat → Prop} {w : World} {x y : Nat} (n : Nat) (h : Q x y) : CRet Q w (.returned (.complex .f64 x y)) (w.drewN n) := ⟨x, y, n, h, rfl, rfl⟩
theorem CRet.mk0 {Q : Nat → Nat → Prop} {w : World} {x y : Nat} (h : Q x y) : CRet Q w (.returned (.complex .f64 x y)) w := ⟨x, y, 0, h, rfl, rfl⟩

/-- what a call of Sum answers; nothing that was there is written -/
def SumRet (zs : List Cpx) (order : Int) (w : World) (e : Ending) (w' : World) : Prop :=
  ∃ x y code, e = .returned (.tuple #[.complex .f64 x y, .int .i64 code]) ∧
    ((1 ≤ order ∧ order ≤ 3 ∧ code = 0 ∧ SumR zs order x y) ∨ (¬ (1 ≤ order ∧ order ≤ 3) ∧ code = 50 ∧ x = 0 ∧ y = 0)) ∧ RowKit.Below w.heap.size w w'
theorem SumRet.bad {zs : List Cpx} {order : Int} {w w' : World} (h : ¬ (1 ≤ order ∧ order ≤ 3)) (hb : RowKit.Below w.heap.size w w') :
    SumRet zs order w (.returned (.tuple #[.complex .f64 0 0, .int .i64 50])) w' := ⟨0, 0, 50, rfl, .inr ⟨h, rfl, rfl, rfl⟩, hb⟩
theorem SumRet.ok {zs : List Cpx} {order : Int} {w w' : World} {x y : Nat} (h1 : 1 ≤ order) (h3 : order ≤ 3) (h : SumR zs order x y) (hb : RowKit.Below w.heap.size w w') :
    SumRet zs order w (.returned (.tuple #[.complex .f64 x y, .int .i64 0])) w' := ⟨x, y, 0, rfl, .inl ⟨h1, h3, rfl, h⟩, hb⟩
/-- of fewer than two the halves' sum is every order's -/
theorem SumR.short {zs : List Cpx} {order : Int} {x y : Nat} (h1 : 1 ≤ order) (h3 : order ≤ 3) (hl : zs.length < 2 ∨ order = 3) (h : HalvesR zs x y) : SumR zs order x y := by
  by_cases h0 : order = 3
  · exact .inr (.inr ⟨h0, h⟩)
  · have hl : zs.length < 2 := by omega
    have key : FrontR zs x y ∧ FrontR zs.reverse x y := by
      cases h with
      | nil => exact ⟨⟨rfl, rfl⟩, ⟨rfl, rfl⟩⟩
      | one z => exact ⟨.nil _ _, .nil _ _⟩
      | more => omega
    by_cases h2 : order = 1
    · exact .inl ⟨h2, key.1⟩
    · exact .inr (.inl ⟨by omega, key.2⟩)

theorem Cells.below {w w' : World} {b off : Nat} {zs : List Cpx} (h : Cells w b off zs) (hb : RowKit.Below w.heap.size w w') : Cells w' b off zs := fun i hi => by
  have e := h i hi
  have hl : b < w.heap.size := World.block_lt_of_cell? w _ e
  rw [hb.cell hl]; exact e
theorem Sl.below {w w' : World} {v : Value} {zs : List Cpx} (h : Sl w v zs) (hb : RowKit.Below w.heap.size w w') : Sl w' v zs := by
  rcases h with h | ⟨b, off, cap, rfl, hcap, hc⟩
  · exact .inl h
  · exact .inr ⟨b, off, cap, rfl, hcap, hc.below hb⟩
theorem below_alloc (w : World) (o : Obj) : RowKit.Below w.heap.size w (w.alloc o) := (RowKit.Below.refl _ _).alloc (Nat.le_refl _) o
theorem Sl.alloc {w : World} {v : Value} {zs : List Cpx} (h : Sl w v zs) (o : Obj) : Sl (w.alloc o) v zs := h.below (below_alloc w o)

theorem FrontR.snoc {l : List Cpx} {x y : Nat} (h : FrontR l x y) (h0 : l ≠ []) {z : Cpx} {c d : Nat} (g : AddR x y z.1 z.2 c d) : FrontR (l ++ [z]) c d := by
  cases l with
  | nil => exact absurd rfl h0
  | cons a r => exact FoldR.snoc h g
theorem FrontR.step {l : List Cpx} {k x y : Nat} (h1 : 1 ≤ k) (hk : k < l.length) (h : FrontR (l.take k) x y) {c d : Nat} (g : AddR x y (nth l k).1 (nth l k).2 c d) : FrontR (l.take (k + 1)) c d := by
  rw [List.take_succ_eq_append_getElem hk]
  refine h.snoc ?_ ?_
  · intro e
    have := congrArg List.length e
    rw [List.length_take, List.length_nil] at this
    omega
  · have e : nth l k = l[k] := by simp [nth, List.getD_eq_getElem?_getD, hk]
    rw [← e]; exact g
/-- the list in the row in which an order takes it -/
def rowOf (order : Int) (zs : List Cpx) : List Cpx := if order = 2 then zs.reverse else zs
theorem rowOf_len (order : Int) (zs : List Cpx) : (rowOf order zs).length = zs.length := by unfold rowOf; split <;> simp
theorem SumR.front {order : Int} {zs : List Cpx} {x y : Nat} (ho : order = 1 ∨ order = 2) (h : FrontR (rowOf order zs) x y) : SumR zs order x y := by
  unfold rowOf at h
  rcases ho with rfl | rfl
  · exact .inl ⟨rfl, h⟩
  · exact .inr (.inl ⟨rfl, h⟩)

theorem cell_new (w : World) (v : Value) (t : TypeId) : (w.alloc (.cells #[v] t)).cell? ⟨w.heap.size, 0, none⟩ = some v := by
  unfold World.cell?
  have : (w.alloc (.cells #[v] t)).heap[w.heap.size]? = some (.cells #[v] t) := by
    show (w.heap.push _)[w.heap.size]? = _
    simp
  simp only [this]
  rfl
theorem cell_old {w : World} {a : Addr} {v : Value} (h : w.cell? a = some v) (o : Obj) : (w.alloc o).cell? a = some v := by
  have hl : a.block < w.heap.size := World.block_lt_of_cell? w _ h
  rw [(below_alloc w o).cell hl]; exact h

theorem FrontR.first {l : List Cpx} (h : 1 ≤ l.length) : FrontR (l.take 1) (nth l 0).1 (nth l 0).2 := by
  cases l with
  | nil => simp at h
  | cons a r => exact .nil _ _

/-- what a call owns from base on is no block below it -/
theorem own_ne {w : World} {base : Nat} {e : TypeId} {size : Nat} {v : Value} {n : Nat} {xs : List Value} (h : w.ownsRow base e size v n xs) {b : Nat} (hb : b < base) : v.ownBlock ≠ some b := by
  obtain ⟨_, ⟨rfl, _⟩ | ⟨g, cap, cur, rfl, hg, _⟩⟩ := h
  · simp [Value.ownBlock]
  · simp only [Value.ownBlock, ne_eq, Option.some.injEq]; omega
theorem own_ge {w : World} {base : Nat} {e : TypeId} {size : Nat} {v : Value} {n : Nat} {xs : List Value} (h : w.ownsRow base e size v n xs) : ∀ k, v.ownBlock = some k → base ≤ k := by
  obtain ⟨_, ⟨rfl, _⟩ | ⟨g, cap, cur, rfl, hg, _⟩⟩ := h
  · simp [Value.ownBlock]
  · simp only [Value.ownBlock, Option.some.injEq]; omega
/-- an owned row of complex numbers reads as the list -/
theorem Sl.of_own {w : World} {base : Nat} {e : TypeId} {v : Value} {zs : List Cpx} (h : w.ownsRow base e 1 v zs.length (zs.map cv)) : Sl w v zs := by
  obtain ⟨hl, ⟨rfl, h0⟩ | ⟨g, cap, cur, rfl, hg, hb, hn, _, hcs, ht⟩⟩ := h
  · exact .inl ⟨rfl, List.eq_nil_of_length_eq_zero h0⟩
  · refine .inr ⟨g, 0, cap, rfl, hn, fun i hi => ?_⟩
    have : w.cell? ⟨g, 0 + i, none⟩ = cur[i]? := by
      unfold World.cell?; simp [hb]
    rw [this, ← Array.getElem?_toList]
    rw [Nat.mul_one] at ht
    have e1 : cur.toList[i]? = (cur.toList.take zs.length)[i]? := by rw [List.getElem?_take, if_pos hi]
    rw [e1, ht]
    simp [nth, List.getElem?_map, List.getElem?_eq_getElem hi, List.getD_eq_getElem?_getD]
theorem map_take_succ (zs : List Cpx) (k : Nat) (h : k < zs.length) : (zs.take (k + 1)).map cv = (zs.take k).map cv ++ [cv (nth zs k)] := by
  rw [List.take_succ_eq_append_getElem h, List.map_append]
  have : nth zs k = zs[k] := by simp [nth, List.getD_eq_getElem?_getD, h]
  rw [this]; rfl
theorem own_nil (w : World) (base : Nat) (e : TypeId) (size : Nat) : w.ownsRow base e size (.slice none 0 0) 0 [] := ⟨by simp, .inl ⟨rfl, rfl⟩⟩
/-- an owned row that holds something: where it lies, and its cells -/
theorem own_pos {w : World} {base : Nat} {e : TypeId} {v : Value} {zs : List Cpx} (h : w.ownsRow base e 1 v zs.length (zs.map cv)) (h0 : 0 < zs.length) :
    ∃ g cap, v = .slice (some ⟨g, 0, none⟩) zs.length cap ∧ zs.length ≤ cap ∧ base ≤ g ∧ g < w.heap.size ∧ Cells w g 0 zs := by
  have hs := Sl.of_own h
  obtain ⟨hl, ⟨rfl, h0'⟩ | ⟨g, cap, cur, rfl, hg, hb, hn, _, hcs, ht⟩⟩ := h
  · omega
  · rcases hs with ⟨h, _⟩ | ⟨b, off, cap', he, hcap, hc⟩
    · cases h
    · cases he
      exact ⟨g, cap, rfl, hn, hg, World.block_lt_of_cell? w _ (hc 0 h0), hc⟩
theorem own_slice {w : World} {base : Nat} {e : TypeId} {v : Value} {zs : List Cpx} (h : w.ownsRow base e 1 v zs.length (zs.map cv)) : ∃ a cap, v = .slice a zs.length cap := by
  obtain ⟨hl, ⟨rfl, h0'⟩ | ⟨g, cap, cur, rfl, hg, hb, hn, _, hcs, ht⟩⟩ := h
  · rw [h0']; exact ⟨_, _, rfl⟩
  · exact ⟨_, _, rfl⟩
/-- what is read of pairs of words: the form that the walks take -/
theorem BitsOk_nth {bs : List Cpx} (h : ∀ z ∈ bs, z.1 < 2 ^ 64 ∧ z.2 < 2 ^ 64) (k : Nat) (hk : k < bs.length) : (nth bs k).1 < 2 ^ 64 ∧ (nth bs k).2 < 2 ^ 64 := by
  have e : nth bs k = bs[k] := by simp [nth, List.getD_eq_getElem?_getD, hk]
  rw [e]; exact h _ (List.getElem_mem _)
end Fl
namespace Fl
open Go Ieee

/-- The order of two that are numbers is that of their values (an infinity counts as the value behind the greatest). -/
theorem order_num {x y : Nat} (nx : ¬ isNan x) (ny : ¬ isNan y) : D.order x y = some (compare (iv x) (iv y)) := by
  have hv : ∀ z, iv z = if sg z then -(valR (rg z) : Int) else (valR (rg z) : Int) := fun _ => rfl
  rcases cases3 x with hx | hx | hx
  · rcases cases3 y with hy | hy | hy
    · exact order_fin x y hx hy
    · obtain ⟨m, i, e, _⟩ := read_fin x hx
      have lt : valR (rg x) < valR INF := valR_lt hx
      unfold Format.order
      rw [e, read_inf y hy, hv x, hv y, hy]
      generalize valR INF = V at lt ⊢
      cases hs : sg x <;> cases ht : sg y <;> simp only [Datum.order] <;> congr 1 <;> symm <;> simp <;> first | (rw [Int.compare_eq_lt]; omega) | (rw [Int.compare_eq_gt]; omega)
    · exact absurd hy ny
  · rcases cases3 y with hy | hy | hy
    · obtain ⟨m, i, e, _⟩ := read_fin y hy
      have lt : valR (rg y) < valR INF := valR_lt hy
      unfold Format.order
      rw [e, read_inf x hx, hv x, hv y, hx]
      generalize valR INF = V at lt ⊢
      cases hs : sg x <;> cases ht : sg y <;> simp only [Datum.order] <;> congr 1 <;> symm <;> simp <;> first | (rw [Int.compare_eq_lt]; omega) | (rw [Int.compare_eq_gt]; omega)
    · have lt : valR 0 < valR INF := valR_lt (by decide)
      unfold Format.order
      rw [read_inf x hx, read_inf y hy, hv x, hv y, hx, hy]
      generalize valR INF = V at lt ⊢
      cases hs : sg x <;> cases ht : sg y <;> simp only [Datum.order] <;> congr 1 <;> symm <;> simp <;> first | (rw [Int.compare_eq_lt]; omega) | (rw [Int.compare_eq_gt]; omega) | (rw [Int.compare_eq_eq]) | (refine Eq.trans ?_ (show Ordering.gt = _ from rfl); rw [Int.compare_eq_gt]; omega) | (refine Eq.trans ?_ (show Ordering.lt = _ from rfl); rw [Int.compare_eq_lt]; omega)
    · exact absurd hy ny
  · exact absurd hx nx

theorem order_none {x y : Nat} (h : isNan x ∨ isNan y) : D.order x y = none := by
  unfold Format.order
  rcases h with h | h
  · obtain ⟨t, e⟩ := read_nan x h; rw [e]; rfl
  · obtain ⟨t, e⟩ := read_nan y h; rw [e]; cases D.read x <;> rfl

theorem iv_lt {x y : Nat} : iv x < iv y → pl x < pl y := by
  have lt : ∀ {r s : Nat}, valR r < valR s ↔ r < s := valR_lt_iff
  unfold iv pl mv
  intro h
  cases hs : sg x <;> cases ht : sg y <;> simp only [hs, ht] at h ⊢ <;> simp only [if_true, Bool.false_eq_true, if_false] at h ⊢
  · have := (lt (r := rg x) (s := rg y)).1 (by omega); omega
  · omega
  · omega
  · have := (lt (r := rg y) (s := rg x)).1 (by omega); omega

theorem iv_eq {x y : Nat} (h : iv x = iv y) : pl x = pl y ∨ (rg x = 0 ∧ rg y = 0) := by
  have lt : ∀ {r s : Nat}, valR r = valR s → r = s := fun h => valR_inj h
  have z : ∀ {r : Nat}, valR r = 0 → r = 0 := fun h => valR_inj (h.trans valR_zero.symm)
  unfold iv mv at h
  unfold pl
  cases hs : sg x <;> cases ht : sg y <;> simp only [hs, ht] at h ⊢ <;> simp only [if_true, Bool.false_eq_true, if_false] at h ⊢
  · exact .inl (by rw [lt (r := rg x) (s := rg y) (by omega)])
  · exact .inr ⟨z (by omega), z (by omega)⟩
  · exact .inr ⟨z (by omega), z (by omega)⟩
  · exact .inl (by rw [lt (r := rg x) (s := rg y) (by omega)])

def plT (x : Nat) : Int := if isNan x then 9223372036854775807 else pl x
theorem plT_nan {x : Nat} (h : isNan x) : plT x = 9223372036854775807 := by unfold plT; rw [if_pos h]
theorem plT_num {x : Nat} (h : ¬ isNan x) : plT x = pl x := by unfold plT; rw [if_neg h]
theorem pl_num {x : Nat} (h : ¬ isNan x) : -9218868437227405313 ≤ pl x ∧ pl x ≤ 9218868437227405312 := by
  have hr : rg x ≤ 9218868437227405312 := by unfold isNan INF at h; omega
  unfold pl; split <;> omega
theorem plT_bounds (x : Nat) : -9223372036854775808 ≤ plT x ∧ plT x ≤ 9223372036854775807 := by
  by_cases h : isNan x
  · rw [plT_nan h]; omega
  · rw [plT_num h]; have := pl_num h; omega
theorem plT_eq {x y : Nat} (hx : x < 2 ^ 64) (hy : y < 2 ^ 64) : plT x = plT y ↔ Same x y := by
  by_cases h : isNan x
  · by_cases g : isNan y
    · rw [plT_nan h, plT_nan g]; exact ⟨fun _ => .inr ⟨h, g⟩, fun _ => rfl⟩
    · rw [plT_nan h, plT_num g]
      have := pl_num g
      exact ⟨fun e => by omega, fun e => by rcases e with rfl | e; exact absurd h g; exact absurd e.2 g⟩
  · by_cases g : isNan y
    · rw [plT_num h, plT_nan g]
      have := pl_num h
      exact ⟨fun e => by omega, fun e => by rcases e with rfl | e; exact absurd g h; exact absurd e.1 h⟩
    · rw [plT_num h, plT_num g]
      exact ⟨fun e => .inl (pl_inj hx hy e), fun e => by rcases e with rfl | e; rfl; exact absurd e.1 h⟩
def ordI (x y : Nat) : Int := if plT x < plT y then -1 else if plT y < plT x then 1 else 0

/-- the word at a place -/
def ofPl (p : Int) : Nat := if p < 0 then 2 ^ 63 + (-1 - p).toNat else p.toNat
theorem ofPl_lt {p : Int} (h1 : -9223372036854775808 ≤ p) (h2 : p < 9223372036854775808) : ofPl p < 2 ^ 64 := by unfold ofPl; split <;> omega
theorem pl_ofPl {p : Int} (h1 : -9223372036854775808 ≤ p) (h2 : p < 9223372036854775808) : pl (ofPl p) = p := by
  unfold ofPl pl sg rg
  split
  · rw [show ((2 ^ 63 + (-1 - p).toNat) / 2 ^ 63 % 2 == 1) = true by rw [beq_iff_eq]; omega]
    simp only [if_true]; omega
  · rw [show (p.toNat / 2 ^ 63 % 2 == 1) = false by rw [beq_eq_false_iff_ne]; omega]
    simp only [Bool.false_eq_true, if_false]; omega
theorem ofPl_pl {x : Nat} (h : x < 2 ^ 64) : ofPl (pl x) = x :=
  pl_inj (ofPl_lt (pl_bounds x).1 (pl_bounds x).2) h (pl_ofPl (pl_bounds x).1 (pl_bounds x).2)
theorem num_of_pl {x : Nat} (h1 : -9218868437227405313 ≤ pl x) (h2 : pl x ≤ 9218868437227405312) : ¬ isNan x := by
  unfold isNan INF; unfold pl at h1 h2; split at h1 <;> simp_all <;> omega
/-- the next one -/
def nxt (x : Nat) : Nat := if isNan x ∨ pl x = 9218868437227405312 then x else ofPl (pl x + 1)
def prv (x : Nat) : Nat := if isNan x ∨ pl x = -9218868437227405313 then x else ofPl (pl x - 1)
theorem nxt_nan {x : Nat} (h : isNan x) : nxt x = x := by unfold nxt; rw [if_pos (.inl h)]
theorem prv_nan {x : Nat} (h : isNan x) : prv x = x := by unfold prv; rw [if_pos (.inl h)]
theorem nxt_end {x : Nat} (h : pl x = 9218868437227405312) : nxt x = x := by unfold nxt; rw [if_pos (.inr h)]
theorem prv_end {x : Nat} (h : pl x = -9218868437227405313) : prv x = x := by unfold prv; rw [if_pos (.inr h)]
theorem nxt_num {x : Nat} (h : ¬ isNan x) (h2 : pl x ≠ 9218868437227405312) : nxt x < 2 ^ 64 ∧ pl (nxt x) = pl x + 1 ∧ ¬ isNan (nxt x) := by
  have b := pl_num h
  unfold nxt
  rw [if_neg (by rintro (h' | h'); exact h h'; exact h2 h')]
  have e := pl_ofPl (p := pl x + 1) (by omega) (by omega)
  exact ⟨ofPl_lt (by omega) (by omega), e, num_of_pl (by omega) (by omega)⟩
theorem prv_num {x : Nat} (h : ¬ isNan x) (h2 : pl x ≠ -9218868437227405313) : prv x < 2 ^ 64 ∧ pl (prv x) = pl x - 1 ∧ ¬ isNan (prv x) := by
  have b := pl_num h
  unfold prv
  rw [if_neg (by rintro (h' | h'); exact h h'; exact h2 h')]
  have e := pl_ofPl (p := pl x - 1) (by omega) (by omega)
  exact ⟨ofPl_lt (by omega) (by omega), e, num_of_pl (by omega) (by omega)⟩
theorem nxt_lt {x : Nat} (h : x < 2 ^ 64) : nxt x < 2 ^ 64 := by
  unfold nxt; split
  · exact h
  · rename_i c
    have := pl_num (x := x) (fun e => c (.inl e))
    exact ofPl_lt (by omega) (by omega)
theorem prv_lt {x : Nat} (h : x < 2 ^ 64) : prv x < 2 ^ 64 := by
  unfold prv; split
  · exact h
  · rename_i c
    have := pl_num (x := x) (fun e => c (.inl e))
    exact ofPl_lt (by omega) (by omega)
/-- the distance to the next one away from zero -/
def ulpW (x : Nat) : Nat := if ¬ fin x then NANQ else if rg x / 2 ^ 52 ≤ 52 then 2 ^ (rg x / 2 ^ 52 - 1) else (rg x / 2 ^ 52 - 52) * 2 ^ 52
theorem order_pl {x y : Nat} (nx : ¬ isNan x) (ny : ¬ isNan y) (h0 : ¬ (rg x = 0 ∧ rg y = 0)) :
    (D.order x y = some .gt ↔ pl y < pl x) ∧ (D.order x y = some .lt ↔ pl x < pl y) ∧ (D.order x y = some .eq ↔ pl x = pl y) := by
  rw [order_num nx ny]
  have tri : iv x < iv y ∨ iv x = iv y ∨ iv y < iv x := by omega
  rcases tri with h | h | h
  · have p := iv_lt h
    rw [Int.compare_eq_lt.2 h]
    simp only [Option.some.injEq, reduceCtorEq, false_iff, true_iff]
    omega
  · have p : pl x = pl y := (iv_eq h).resolve_right h0
    rw [Int.compare_eq_eq.2 h]
    simp only [Option.some.injEq, reduceCtorEq, false_iff, true_iff]
    omega
  · have p := iv_lt h
    rw [Int.compare_eq_gt.2 h]
    simp only [Option.some.injEq, reduceCtorEq, false_iff, true_iff]
    omega
theorem beq_dec {o : Option Ordering} {c : Ordering} {p : Prop} [Decidable p] (h : o = some c ↔ p) : (o == some c) = decide p := by
  by_cases g : p
  · rw [decide_eq_true g, h.2 g]; cases c <;> rfl
  · rw [decide_eq_false g, beq_eq_false_iff_ne]; exact fun e => g (h.1 e)
/-- 'x > MaxFloat64' -/
theorem gt_max {x : Nat} (hx : x < 2 ^ 64) : (Go.FloatKind.f64.format.order x 9218868437227405311 == some Ordering.gt) = decide (x = INF) := by
  refine beq_dec ?_
  show D.order x 9218868437227405311 = some .gt ↔ x = INF
  have p2 : pl 9218868437227405311 = 9218868437227405311 := by decide
  have pI : pl INF = 9218868437227405312 := by decide
  by_cases nx : isNan x
  · rw [order_none (.inl nx)]
    exact ⟨fun e => (by cases e), fun e => by subst e; exact absurd nx (by decide)⟩
  · rw [(order_pl nx (by decide) (fun h => absurd h.2 (by decide))).1, p2]
    have := pl_num nx
    exact ⟨fun h => pl_inj hx (by decide) (by rw [pI]; omega), fun h => by subst h; rw [pI]; decide⟩
theorem lt_small {x : Nat} (nx : ¬ isNan x) (hs : sg x = false) : (Go.FloatKind.f64.format.order x 4503599627370496 == some Ordering.lt) = decide (rg x < 4503599627370496) := by
  refine beq_dec ?_
  show D.order x 4503599627370496 = some .lt ↔ _
  have p2 : pl 4503599627370496 = 4503599627370496 := by decide
  rw [(order_pl nx (by decide) (fun h => absurd h.2 (by decide))).2.1, p2, pl_false hs]
  omega
theorem mul_52 : ∀ k : Fin 52, D.mul (2 ^ k.val) 4841369599423283200 = some ((k.val + 1) * 2 ^ 52) := by decide +kernel
theorem ordI_cases (x y : Nat) : (ordI x y = -1 ∧ plT x < plT y) ∨ (ordI x y = 0 ∧ plT x = plT y) ∨ (ordI x y = 1 ∧ plT y < plT x) := by
  unfold ordI; split
  · exact .inl ⟨rfl, by assumption⟩
  · split
    · exact .inr (.inr ⟨rfl, by assumption⟩)
    · exact .inr (.inl ⟨rfl, by omega⟩)
theorem ordI_lt {x y : Nat} (h : plT x < plT y) : ordI x y = -1 := by unfold ordI; rw [if_pos h]
theorem ordI_gt {x y : Nat} (h : plT y < plT x) : ordI x y = 1 := by unfold ordI; rw [if_neg (by omega), if_pos h]
theorem ordI_eq {x y : Nat} (h : plT x = plT y) : ordI x y = 0 := by unfold ordI; rw [if_neg (by omega), if_neg (by omega)]
/-- where '<' tells, the row tells the same -/
theorem order_row (x y : Nat) : (D.order x y = some .lt → plT x < plT y) ∧ (D.order x y = some .gt → plT y < plT x) ∧ (D.order x y = some .eq → plT x = plT y ∨ rg x = 0) := by
  by_cases h : isNan x ∨ isNan y
  · rw [order_none h]; exact ⟨fun e => (by cases e), fun e => (by cases e), fun e => (by cases e)⟩
  · have nx : ¬ isNan x := fun e => h (.inl e)
    have ny : ¬ isNan y := fun e => h (.inr e)
    rw [order_num nx ny, plT_num nx, plT_num ny]
    simp only [Option.some.injEq, Int.compare_eq_lt, Int.compare_eq_gt, Int.compare_eq_eq]
    exact ⟨iv_lt, iv_lt, fun e => (iv_eq e).imp id (·.1)⟩
theorem and_exp : ∀ k : Fin 2048, (k.val * 2 ^ 52) &&& 9227875636482146303 = 0 := by decide +kernel
end Fl
namespace Fl
open Ieee

/-- x is the whole number m. -/
def IsI (x : Nat) (m : Int) : Prop := fin x ∧ iv x = m * (UN : Int) ∧ x < 2 ^ 64

theorem exists_rung (k : Nat) (hk : k ≤ 2 ^ 53) : ∃ r, r < INF ∧ valR r = k * UN := by
  have hU := UE_eq
  by_cases h0 : k = 0
  · subst h0; exact ⟨0, by decide, by simp [valR_zero]⟩
  · by_cases h53 : k = 2 ^ 53
    · refine ⟨UE * 2 ^ 52 + 2 ^ 53, by unfold INF; omega, ?_⟩
      rw [valR_mk _ _ (by omega) (.inr (by omega)), h53, UN_def]
    · have hl := log2_lt_pow (n := k) (k := 52) (by omega)
      have a := pow_log2_le h0
      have b := lt_log2_pow k
      generalize hlg : k.log2 = l at *
      refine ⟨(UE - 52 + l) * 2 ^ 52 + k * 2 ^ (52 - l), ?_, ?_⟩
      · have : k * 2 ^ (52 - l) < 2 ^ (l + 1) * 2 ^ (52 - l) := (Nat.mul_lt_mul_right (Nat.two_pow_pos _)).2 b
        rw [← Nat.pow_add] at this
        have e : l + 1 + (52 - l) = 53 := by omega
        rw [e] at this
        unfold INF; omega
      · have h1 : k * 2 ^ (52 - l) < 2 ^ 53 := by
          have : k * 2 ^ (52 - l) < 2 ^ (l + 1) * 2 ^ (52 - l) := (Nat.mul_lt_mul_right (Nat.two_pow_pos _)).2 b
          rw [← Nat.pow_add] at this
          have e : l + 1 + (52 - l) = 53 := by omega
          rwa [e] at this
        have h2 : 2 ^ 52 ≤ k * 2 ^ (52 - l) := by
          have : 2 ^ l * 2 ^ (52 - l) ≤ k * 2 ^ (52 - l) := Nat.mul_le_mul_right _ a
          rw [← Nat.pow_add] at this
          have e : l + (52 - l) = 52 := by omega
          rwa [e] at this
        rw [valR_mk _ _ (by omega) (.inr h2), Nat.mul_assoc, ← Nat.pow_add, UN_def]
        have e : 52 - l + (UE - 52 + l) = UE := by omega
        rw [e]

theorem rq_exact {r d : Nat} (hr : r < INF) (hd : 0 < d) : rq (valR r * d) d = r := by
  unfold rq
  rw [rungQ_valR r d hd, Nat.min_eq_left (by omega)]

theorem INF_63 : INF < 2 ^ 63 := by decide

/-- a word set together of a sign and a rung below infinity's -/
theorem fin_wd {s : Bool} {r : Nat} (h : r < INF) : fin (wd s r) := by
  unfold fin; rw [rg_wd s r (by have := INF_63; omega)]; exact h
theorem mv_wd {s : Bool} {r : Nat} (h : r < INF) : mv (wd s r) = valR r := by
  unfold mv; rw [rg_wd s r (by have := INF_63; omega)]
theorem iv_wd {s : Bool} {r : Nat} (h : r < INF) : iv (wd s r) = if s then -(valR r : Int) else (valR r : Int) := by
  unfold iv; rw [sg_wd s r (by have := INF_63; omega), mv_wd h]

theorem IsI.of_wd {s : Bool} {k : Nat} (hk : k ≤ 2 ^ 53) {m : Int} (hm : m = if s then -(k : Int) else (k : Int)) (n d : Nat) (hd : 0 < d) (hn : n = k * UN * d) : IsI (wd s (rq n d)) m := by
  obtain ⟨r, hr, hv⟩ := exists_rung k hk
  rw [hn, ← hv, rq_exact hr hd]
  refine ⟨fin_wd hr, ?_, wd_lt _ _ (by have := INF_63; omega)⟩
  rw [iv_wd hr, hv, hm]
  cases s
  · simp
  · simp [Int.neg_mul]

theorem iv_natAbs (x : Nat) : (iv x).natAbs = mv x := by unfold iv; split <;> omega

theorem IsI.mv {x : Nat} {m : Int} (h : IsI x m) : mv x = m.natAbs * UN := by
  have := congrArg Int.natAbs h.2.1
  rw [iv_natAbs, Int.natAbs_mul, Int.natAbs_natCast] at this
  exact this
theorem IsI.sg {x : Nat} {m : Int} (h : IsI x m) (h0 : m ≠ 0) : sg x = decide (m < 0) := by
  have e := h.2.1
  have hU : (0 : Int) < UN := by have := UN_pos; omega
  unfold iv at e
  cases hs : Fl.sg x
  · rw [hs] at e
    simp only [Bool.false_eq_true, if_false] at e
    have : 0 ≤ m := by
      by_cases c : 0 ≤ m
      · exact c
      · have := Int.mul_neg_of_neg_of_pos (a := m) (b := UN) (by omega) hU
        omega
    rw [decide_eq_false (by omega)]
  · rw [hs] at e
    simp only [if_true] at e
    have : m < 0 := by
      by_cases c : m < 0
      · exact c
      · have := Int.mul_pos (a := m) (b := UN) (by omega) hU
        omega
    rw [decide_eq_true this]

theorem IsI.add {x y r : Nat} {m n : Int} (hx : IsI x m) (hy : IsI y n) (h : FAdd x y r) (hb : (m + n).natAbs ≤ 2 ^ 53) : IsI r (m + n) := by
  have e := h.eq (add_fin x y hx.1 hy.1)
  have ev : iv x + iv y = (m + n) * (UN : Int) := by rw [hx.2.1, hy.2.1, Int.add_mul]
  have hU : (0 : Int) < UN := by have := UN_pos; omega
  rw [e, ev]
  refine IsI.of_wd hb ?_ _ 1 (by omega) (by rw [Int.natAbs_mul, Int.natAbs_natCast, Nat.mul_one])
  by_cases c : m + n = 0
  · rw [c]; simp
  · have c1 : (m + n) * (UN : Int) ≠ 0 := by
      intro h; rcases Int.mul_eq_zero.1 h with h | h <;> omega
    rw [if_neg c1]
    by_cases d : m + n < 0
    · have : (m + n) * (UN : Int) < 0 := Int.mul_neg_of_neg_of_pos d hU
      rw [decide_eq_true this]; simp; omega
    · have : ¬ (m + n) * (UN : Int) < 0 := by
        have := Int.mul_pos (a := m + n) (b := UN) (by omega) hU
        omega
      rw [decide_eq_false this]; simp; omega

theorem iv_neg {x : Nat} (h : x < 2 ^ 64) : iv (neg x) = - iv x := by
  unfold iv mv
  rw [sg_neg x h, rg_neg x h]
  cases sg x <;> simp
theorem IsI.neg {x : Nat} {m : Int} (hx : IsI x m) : IsI (neg x) (-m) :=
  ⟨(fin_neg x hx.2.2).2 hx.1, by rw [iv_neg hx.2.2, hx.2.1, Int.neg_mul], neg_lt x hx.2.2⟩
theorem IsI.sub {x y r : Nat} {m n : Int} (hx : IsI x m) (hy : IsI y n) (h : FSub x y r) (hb : (m - n).natAbs ≤ 2 ^ 53) : IsI r (m - n) :=
  IsI.add hx hy.neg (h.add hy.2.2) hb

theorem IsI.mul {x y r : Nat} {m n : Int} (hx : IsI x m) (hy : IsI y n) (h : FMul x y r) (hb : (m * n).natAbs ≤ 2 ^ 53) : IsI r (m * n) := by
  have e := h.eq (mul_fin x y hx.1 hy.1)
  rw [e, hx.mv, hy.mv]
  refine IsI.of_wd hb ?_ _ UN UN_pos (by rw [Int.natAbs_mul]; generalize UN = U; ac_rfl)
  by_cases c : m = 0
  · subst c; simp
  · by_cases d : n = 0
    · subst d; simp
    · rw [hx.sg c, hy.sg d]
      by_cases a : m < 0 <;> by_cases b : n < 0
      · have : 0 < m * n := Int.mul_pos_of_neg_of_neg a b
        simp [a, b]; omega
      · have : m * n < 0 := Int.mul_neg_of_neg_of_pos a (by omega)
        simp [a, b]; omega
      · have : m * n < 0 := Int.mul_neg_of_pos_of_neg (by omega) b
        simp [a, b]; omega
      · have : 0 < m * n := Int.mul_pos (by omega) (by omega)
        simp [a, b]; omega

/-- the float of a whole number -/
theorem IsI.ofInt (m : Int) (hb : m.natAbs ≤ 2 ^ 53) : IsI (Go.floatOfInt .f64 m) m := by
  have e : Go.floatOfInt .f64 m = D.nearest (decide (m < 0)) m.natAbs 0 := rfl
  rw [e, nearest_wd]
  have hU := UE_eq
  refine IsI.of_wd hb ?_ _ _ (Nat.two_pow_pos _) ?_
  · by_cases c : m < 0 <;> simp [c] <;> omega
  · have e1 : (-1074 - (0 : Int)).toNat = 0 := by decide
    have e2 : ((0 : Int) + 1074).toNat = UE := by decide
    rw [e1, e2, Nat.pow_zero, Nat.mul_one, UN_def]

theorem iv_zero : iv 0 = 0 := by decide
theorem IsI.zero : IsI 0 0 := ⟨by decide, by rw [iv_zero, Int.zero_mul], by decide⟩

theorem IsI.order {x y : Nat} {m n : Int} (hx : IsI x m) (hy : IsI y n) : D.order x y = some (compare m n) := by
  rw [order_fin x y hx.1 hy.1, hx.2.1, hy.2.1, compare_mul_pos]
  have := UN_pos; omega
theorem IsI.eqB {x y : Nat} {m : Int} (hx : IsI x m) (hy : IsI y m) : Go.FloatKind.f64.format.order x y = some Ordering.eq := by
  have e : Go.FloatKind.f64.format = D := rfl
  rw [e, hx.order hy, Int.compare_eq_eq.2 rfl]

theorem cut_zero (neg : Bool) (n drop : Nat) : Toward.zero.cut neg n drop = n / 2 ^ drop := by
  unfold Toward.cut
  simp only [Nat.one_shiftLeft, Bool.toNat_false, Nat.add_zero]
  by_cases h : drop ≤ n.log2 + 2
  · rw [Nat.min_eq_left h]
  · rw [Nat.min_eq_right (by omega)]
    have h1 := lt_log2_pow n
    have h2 : 2 ^ (n.log2 + 1) ≤ 2 ^ (n.log2 + 2) := Nat.pow_le_pow_right (by omega) (by omega)
    have h3 : 2 ^ (n.log2 + 2) ≤ 2 ^ drop := Nat.pow_le_pow_right (by omega) (by omega)
    rw [Nat.div_eq_of_lt (by omega), Nat.div_eq_of_lt (by omega)]

/-- int64 of a whole number is it -/
theorem IsI.toInt {x : Nat} {m : Int} (h : IsI x m) (hb : m.natAbs < 2 ^ 63) : Go.floatToIntVal .f64 x .i64 = some m := by
  obtain ⟨k, i, er, hi, hk, _⟩ := read_fin x h.1
  have hv := h.mv
  have hU := UE_eq
  have e0 : Go.FloatKind.f64.decode x = D.read x := rfl
  have key : Toward.zero.cut (Fl.sg x) (k <<< i.toNat) (-i).toNat = m.natAbs := by
    rw [cut_zero, Nat.shiftLeft_eq]
    rw [hv] at hk
    by_cases c : 0 ≤ i
    · have e1 : (-i).toNat = 0 := by omega
      rw [e1, Nat.pow_zero, Nat.div_one]
      have e2 : (i + 1074).toNat = i.toNat + UE := by omega
      rw [e2, Nat.pow_add, ← UN_def, ← Nat.mul_assoc] at hk
      exact Nat.mul_right_cancel UN_pos hk
    · have e1 : i.toNat = 0 := by omega
      rw [e1, Nat.pow_zero, Nat.mul_one]
      have e2 : 2 ^ (i + 1074).toNat * 2 ^ (-i).toNat = UN := by
        rw [← Nat.pow_add, UN_def]; congr 1; omega
      have hp := Nat.two_pow_pos (i + 1074).toNat
      have : k = m.natAbs * 2 ^ (-i).toNat := by
        rw [← e2] at hk
        have : k * 2 ^ (i + 1074).toNat = (m.natAbs * 2 ^ (-i).toNat) * 2 ^ (i + 1074).toNat := by rw [hk]; ac_rfl
        exact Nat.mul_right_cancel hp this
      rw [this, Nat.mul_div_cancel _ (Nat.two_pow_pos _)]
  have hs : signed (Fl.sg x) m.natAbs 0 = m := by
    rw [signed_eq]
    by_cases c : m = 0
    · subst c; simp
    · rw [h.sg c]
      by_cases a : m < 0 <;> simp [a] <;> omega
  unfold Go.floatToIntVal
  rw [e0, er]
  simp only [Datum.toInt, Datum.integral, key, hs]
  have hmin : Go.IntKind.i64.min = -9223372036854775808 := by decide
  have hmax : Go.IntKind.i64.max = 9223372036854775807 := by decide
  rw [if_pos ⟨by rw [hmin]; omega, by rw [hmax]; omega⟩]
end Fl
namespace Wd
open Go
theorem pow_split (s : Nat) (hs : s ≤ 32) : (4294967296 : Nat) = 2 ^ (32 - s) * 2 ^ s := by rw [← Nat.pow_add, Nat.sub_add_cancel hs]
theorem up_word {x c s : Nat} (hc : c < 2 ^ s) (hs : s < 32) : (x * 2 ^ s % 4294967296 ||| c) = (x * 2 ^ s + c) % 4294967296 := by
  have hp := pow_split s (by omega)
  have e1 : x * 2 ^ s % 4294967296 = x % 2 ^ (32 - s) * 2 ^ s := by
    conv => lhs; rw [hp]
    exact Nat.mul_mod_mul_right _ _ _
  rw [e1, or_lt hc]
  have hd := Nat.div_add_mod x (2 ^ (32 - s))
  have hm := Nat.mod_lt x (Nat.two_pow_pos (32 - s))
  have e2 : x * 2 ^ s + c = x % 2 ^ (32 - s) * 2 ^ s + c + 4294967296 * (x / 2 ^ (32 - s)) := by
    conv => lhs; rw [← hd, Nat.add_mul]
    have : 2 ^ (32 - s) * (x / 2 ^ (32 - s)) * 2 ^ s = 4294967296 * (x / 2 ^ (32 - s)) := by rw [Nat.mul_right_comm, ← hp]
    omega
  rw [e2, Nat.add_mul_mod_self_left]
  refine (Nat.mod_eq_of_lt ?_).symm
  have : (x % 2 ^ (32 - s) + 1) * 2 ^ s ≤ 2 ^ (32 - s) * 2 ^ s := Nat.mul_le_mul_right _ (by omega)
  rw [← hp, Nat.succ_mul] at this
  omega
theorem up_carry {x c s : Nat} (hc : c < 2 ^ s) (hs : s ≤ 32) : (x * 2 ^ s + c) / 4294967296 = x / 2 ^ (32 - s) := by
  rw [pow_split s hs, Nat.mul_comm (2 ^ (32 - s)), ← Nat.div_div_eq_div_mul, Nat.mul_comm x, Nat.mul_add_div (Nat.two_pow_pos s), Nat.div_eq_of_lt hc, Nat.add_zero]
theorem up_carry_lt {x s : Nat} (hx : x < 4294967296) (hs : s ≤ 32) : x / 2 ^ (32 - s) < 2 ^ s := by
  rw [Nat.div_lt_iff_lt_mul (Nat.two_pow_pos _), Nat.mul_comm, ← pow_split s hs]; exact hx
theorem u32_or_nat (x y : Nat) (hx : x < 4294967296) (hy : y < 4294967296) : bits .or .u32 (x : Int) (y : Int) = ((x ||| y : Nat) : Int) := by
  have h : (BitVec.ofInt 32 (x : Int) ||| BitVec.ofInt 32 (y : Int)).toNat = x ||| y := by
    rw [BitVec.toNat_or, BitVec.ofInt_natCast, BitVec.ofInt_natCast, BitVec.toNat_ofNat, BitVec.toNat_ofNat, Nat.mod_eq_of_lt hx, Nat.mod_eq_of_lt hy]
  show IntKind.u32.wrap ((BitVec.ofInt 32 (x : Int) ||| BitVec.ofInt 32 (y : Int)).toNat : Int) = _
  rw [h]
  have hb : x ||| y < 2 ^ 32 := Nat.or_lt_two_pow hx hy
  rw [IntKind.wrap_u32]
  omega
theorem u32_and_nat (x y : Nat) (hx : x < 4294967296) (hy : y < 4294967296) : bits .and .u32 (x : Int) (y : Int) = ((x &&& y : Nat) : Int) := by
  have h : (BitVec.ofInt 32 (x : Int) &&& BitVec.ofInt 32 (y : Int)).toNat = x &&& y := by
    rw [BitVec.toNat_and, BitVec.ofInt_natCast, BitVec.ofInt_natCast, BitVec.toNat_ofNat, BitVec.toNat_ofNat, Nat.mod_eq_of_lt hx, Nat.mod_eq_of_lt hy]
  show IntKind.u32.wrap ((BitVec.ofInt 32 (x : Int) &&& BitVec.ofInt 32 (y : Int)).toNat : Int) = _
  rw [h]
  have hb : x &&& y ≤ x := Nat.and_le_left
  rw [IntKind.wrap_u32]
  omega
/-- the walk's word of up -/
theorem up_bits {x c s : Nat} (hc : c < 2 ^ s) (hs : s < 32) : bits .or .u32 ((x : Int) * 2 ^ s % 4294967296) (c : Int) = (((x * 2 ^ s + c) % 4294967296 : Nat) : Int) := by
  have hc2 : c < 4294967296 := Nat.lt_trans hc (by
    have : 2 ^ s ≤ 2 ^ 31 := Nat.pow_le_pow_right (by decide) (by omega)
    omega)
  rw [← up_word hc hs, ← u32_or_nat _ _ (Nat.mod_lt _ (by decide)) hc2, Int.natCast_emod, Int.natCast_mul, Int.natCast_pow]
  rfl
end Wd
namespace Wd
theorem down_word0 (l : List Nat) (ok : Ok l) (s i : Nat) (hs : s < 32) (h : s = 0 ∨ l.length ≤ i + 1) : l.getD i 0 / 2 ^ s = val l / 2 ^ s / 4294967296 ^ i % 4294967296 := by
  rw [← down_word l ok s i hs]
  have : l.getD (i + 1) 0 * 2 ^ (32 - s) % 4294967296 = 0 := by
    rcases h with rfl | h
    · rw [show 2 ^ (32 - 0) = 4294967296 from rfl]; exact Nat.mul_mod_left _ _
    · rw [getD_beyond l (i + 1) h, Nat.zero_mul]
  rw [this, Nat.or_zero]
end Wd
namespace Wd
/-- how many bits a number has -/
def blen (n : Nat) : Nat := if n = 0 then 0 else n.log2 + 1
theorem blen_zero : blen 0 = 0 := rfl
theorem blen_lt (n : Nat) : n < 2 ^ blen n := by
  unfold blen
  by_cases h : n = 0
  · rw [if_pos h, h]; decide
  · rw [if_neg h]; exact Nat.lt_log2_self
theorem blen_le {n : Nat} (h : n ≠ 0) : 2 ^ (blen n - 1) ≤ n := by
  unfold blen
  rw [if_neg h, Nat.add_sub_cancel]; exact Nat.log2_self_le h
theorem blen_unique {n t : Nat} (h1 : t = 0 ∨ 2 ^ (t - 1) ≤ n) (h2 : n < 2 ^ t) : blen n = t := by
  by_cases h : n = 0
  · subst h
    rcases h1 with rfl | h1
    · rfl
    · have := Nat.two_pow_pos (t - 1); omega
  · have h3 := blen_lt n
    have h4 := blen_le h
    have h5 : 1 ≤ blen n := by unfold blen; rw [if_neg h]; omega
    rcases h1 with rfl | h1
    · simp at h2; omega
    · have a : t - 1 < blen n := (Nat.pow_lt_pow_iff_right (by decide : 1 < 2)).1 (Nat.lt_of_le_of_lt h1 h3)
      have b : blen n - 1 < t := (Nat.pow_lt_pow_iff_right (by decide : 1 < 2)).1 (Nat.lt_of_le_of_lt h4 h2)
      have c : 1 ≤ t := by
        by_cases e : t = 0
        · subst e; simp at h2; omega
        · omega
      omega
theorem blen_words {a : List Nat} {x : Nat} (oa : Ok a) (hx : x ≠ 0) : blen (val (a ++ [x])) = 32 * a.length + blen x := by
  have h1 := blen_lt x
  have h2 := blen_le hx
  have h3 : 1 ≤ blen x := by unfold blen; rw [if_neg hx]; omega
  have ha := val_lt oa
  rw [val_snoc]
  rw [pw] at *
  refine blen_unique (.inr ?_) ?_
  · have : 2 ^ (32 * a.length) * 2 ^ (blen x - 1) ≤ 2 ^ (32 * a.length) * x := Nat.mul_le_mul_left _ h2
    rw [← Nat.pow_add] at this
    have e : 32 * a.length + blen x - 1 = 32 * a.length + (blen x - 1) := by omega
    rw [e]; omega
  · have : 2 ^ (32 * a.length) * (x + 1) ≤ 2 ^ (32 * a.length) * 2 ^ blen x := Nat.mul_le_mul_left _ h1
    rw [← Nat.pow_add, Nat.mul_succ] at this
    omega
/-- the loop that counts: x shifted j times -/
theorem blen_step {x j : Nat} (h : x / 2 ^ j ≠ 0) : 2 ^ (j + 1 - 1) ≤ x := by
  rw [Nat.add_sub_cancel]
  by_cases c : 2 ^ j ≤ x
  · exact c
  · exact absurd (Nat.div_eq_of_lt (by omega)) h
theorem blen_end {x j : Nat} (h1 : j = 0 ∨ 2 ^ (j - 1) ≤ x) (h : x / 2 ^ j = 0) : blen x = j := by
  refine blen_unique h1 ?_
  by_cases c : x < 2 ^ j
  · exact c
  · have := (Nat.le_div_iff_mul_le (Nat.two_pow_pos j)).2 (show 1 * 2 ^ j ≤ x by omega)
    omega
theorem half_again (x j : Nat) : x / 2 ^ j / 2 = x / 2 ^ (j + 1) := by rw [Nat.div_div_eq_div_mul, Nat.pow_succ]
theorem blen_le_32 {x : Nat} (h : x < 4294967296) : blen x ≤ 32 := by
  by_cases h0 : x = 0
  · subst h0; decide
  · have := blen_le h0
    have : blen x - 1 < 32 := (Nat.pow_lt_pow_iff_right (by decide : 1 < 2)).1 (Nat.lt_of_le_of_lt this h)
    omega
end Wd
namespace Wd
/-- t is how many noughts stand at the end of n (of 0: 0) -/
def TzR (n t : Nat) : Prop := (n = 0 ∧ t = 0) ∨ (n % 2 ^ t = 0 ∧ n / 2 ^ t % 2 = 1)
theorem tz_words {l : List Nat} {k j x : Nat} (h0 : val (l.take k) = 0) (hk : k < l.length) (hx : l.getD k 0 = x) (hj : j < 32) (h1 : x % 2 ^ j = 0) (h2 : x / 2 ^ j % 2 = 1) : TzR (val l) (32 * k + j) := by
  right
  have e := val_split l k (by omega)
  rw [h0, Nat.zero_add, drop_cons' l k hk, hx, val_cons, pw] at e
  rw [e, Nat.pow_add, Nat.mul_mod_mul_left, ← Nat.div_div_eq_div_mul, Nat.mul_div_cancel_left _ (Nat.two_pow_pos _)]
  generalize val (l.drop (k + 1)) = D
  have hp : (4294967296 : Nat) = 2 ^ j * (2 * 2 ^ (31 - j)) := by
    rw [Nat.mul_left_comm, ← Nat.pow_add]
    have : j + (31 - j) = 31 := by omega
    rw [this]
  constructor
  · rw [hp, Nat.mul_assoc, Nat.add_mul_mod_self_left, h1, Nat.mul_zero]
  · rw [hp, Nat.mul_assoc, Nat.add_mul_div_left _ _ (Nat.two_pow_pos _), Nat.mul_assoc]
    omega
theorem tz_zero : TzR 0 0 := .inl ⟨rfl, rfl⟩
/-- the loop that halves -/
def HalfV (x j : Nat) (Y : Int) : Prop := Y = ((x / 2 ^ j : Nat) : Int) ∧ x % 2 ^ j = 0 ∧ j < 32
theorem HalfV.start (x : Nat) : HalfV x 0 x := ⟨by rw [Nat.pow_zero, Nat.div_one], by rw [Nat.pow_zero]; exact Nat.mod_one _, by omega⟩
theorem HalfV.pos {x j : Nat} {Y : Int} (h : HalfV x j Y) : 0 ≤ Y := by rw [h.1]; exact Int.natCast_nonneg _
theorem HalfV.lt {x j : Nat} {Y : Int} (h : HalfV x j Y) (hx : x < 4294967296) : Y < 4294967296 := by
  obtain ⟨rfl, _, _⟩ := h
  have := Nat.div_le_self x (2 ^ j)
  generalize x / 2 ^ j = y at *
  omega
theorem HalfV.step {x j : Nat} {Y : Int} (h : HalfV x j Y) (hx : x < 4294967296) (h0 : x ≠ 0) (hY : Y % 2 = 0) : HalfV x (j + 1) (Y / 2) := by
  obtain ⟨rfl, h2, h3⟩ := h
  have h4 : x / 2 ^ j % 2 = 0 := by
    generalize x / 2 ^ j = y at *
    omega
  have h5 : x % 2 ^ (j + 1) = 0 := by
    rw [Nat.pow_succ, Nat.mod_mul, h2, h4]; simp
  refine ⟨?_, h5, ?_⟩
  · rw [← half_again, Int.natCast_ediv]; rfl
  · have hd := Nat.div_add_mod x (2 ^ (j + 1))
    rw [h5, Nat.add_zero] at hd
    have : 2 ^ (j + 1) ≤ x := by
      by_cases c : x / 2 ^ (j + 1) = 0
      · rw [c, Nat.mul_zero] at hd; omega
      · have := Nat.mul_le_mul_left (2 ^ (j + 1)) (Nat.one_le_iff_ne_zero.2 c)
        omega
    exact (Nat.pow_lt_pow_iff_right (by decide : 1 < 2)).1 (Nat.lt_of_le_of_lt this hx)
theorem HalfV.done {x j : Nat} {Y : Int} (h : HalfV x j Y) (hY : ¬ Y % 2 = 0) : x / 2 ^ j % 2 = 1 := by
  obtain ⟨rfl, _, _⟩ := h
  generalize x / 2 ^ j = y at *
  omega
theorem HalfV.and {x j : Nat} {Y : Int} (h : HalfV x j Y) (hx : x < 4294967296) : Go.bits .and .u32 Y 1 = Y % 2 := by
  have hl := h.lt hx
  obtain ⟨rfl, _, _⟩ := h
  have := u32_and_nat (x / 2 ^ j) 1 (by generalize x / 2 ^ j = y at *; omega) (by decide)
  rw [show ((1 : Nat) : Int) = 1 from rfl] at this
  rw [this, Nat.and_one_is_mod]; rfl
end Wd
