/- Bits of a binary64's word: what the walk's operations on uint64 come to. -/
import Derived.Test.YtmfmgofafamemaaFlLaws
namespace Fl
open Go

theorem bits_size (x : Nat) (h : x < 2 ^ 64) : bits .andNot .u64 (x : Int) 9223372036854775808 = (rg x : Int) := by
  have := u64_andNot_nat x 9223372036854775808 h (by decide)
  rw [show ((9223372036854775808 : Nat) : Int) = 9223372036854775808 from rfl] at this
  rw [this]
  congr 1
  exact Nat.and_two_pow_sub_one_eq_mod x 63

theorem xor_top (x : Nat) (h : x < 2 ^ 64) : x ^^^ 9223372036854775808 = neg x := by
  refine Nat.eq_of_testBit_eq fun i => ?_
  rw [Nat.testBit_xor]
  have e : Nat.testBit 9223372036854775808 i = decide (63 = i) := Nat.testBit_two_pow (n := 63) (m := i)
  rw [e]
  unfold neg
  by_cases c : x < 2 ^ 63
  · rw [if_pos c]
    by_cases hi : i = 63
    · subst hi
      have a : x.testBit 63 = false := Nat.testBit_lt_two_pow c
      have b : (x + 2 ^ 63).testBit 63 = true := by
        rw [Nat.add_comm, Nat.testBit_two_pow_add_eq, a]; rfl
      rw [a, b]; rfl
    · have hd : decide (63 = i) = false := by simp; omega
      rw [hd, Bool.xor_false]
      by_cases hl : i < 63
      · rw [Nat.add_comm, Nat.testBit_two_pow_add_gt hl]
      · have a : x.testBit i = false := Nat.testBit_lt_two_pow (Nat.lt_of_lt_of_le c (Nat.pow_le_pow_right (by omega) (by omega)))
        have b : (x + 2 ^ 63).testBit i = false := Nat.testBit_lt_two_pow (Nat.lt_of_lt_of_le (by omega : x + 2 ^ 63 < 2 ^ 64) (Nat.pow_le_pow_right (by omega) (by omega)))
        rw [a, b]
  · rw [if_neg c]
    obtain ⟨y, hy, hy2⟩ : ∃ y, x = 2 ^ 63 + y ∧ y < 2 ^ 63 := ⟨x - 2 ^ 63, by omega, by omega⟩
    have e2 : x - 2 ^ 63 = y := by omega
    rw [e2]
    by_cases hi : i = 63
    · subst hi
      have a : y.testBit 63 = false := Nat.testBit_lt_two_pow hy2
      rw [hy, Nat.testBit_two_pow_add_eq, a]; rfl
    · have hd : decide (63 = i) = false := by simp; omega
      rw [hd, Bool.xor_false, hy]
      by_cases hl : i < 63
      · rw [Nat.testBit_two_pow_add_gt hl]
      · have a : y.testBit i = false := Nat.testBit_lt_two_pow (Nat.lt_of_lt_of_le hy2 (Nat.pow_le_pow_right (by omega) (by omega)))
        have b : (2 ^ 63 + y).testBit i = false := Nat.testBit_lt_two_pow (Nat.lt_of_lt_of_le (by omega : 2 ^ 63 + y < 2 ^ 64) (Nat.pow_le_pow_right (by omega) (by omega)))
        rw [a, b]

theorem bits_neg (x : Nat) (h : x < 2 ^ 64) : bits .xor .u64 (x : Int) 9223372036854775808 = (neg x : Int) := by
  have := u64_xor_nat x 9223372036854775808 h (by decide)
  rw [show ((9223372036854775808 : Nat) : Int) = 9223372036854775808 from rfl] at this
  rw [this, xor_top x h]

theorem negFloat_eq (x : Nat) (h : x < 2 ^ 64) : Op.negFloat .f64 x = neg x := by
  unfold Op.negFloat
  exact xor_top x h

/-- the place in the row of words, of what is no NaN -/
def pl (x : Nat) : Int := if sg x then -1 - (rg x : Int) else (rg x : Int)
/-- the greater one of two, by that row -/
def NANQ : Nat := 9221120237041090560
def fmax (x y : Nat) : Nat := if isNan x ∨ isNan y then NANQ else if pl x ≤ pl y then y else x
def fmin (x y : Nat) : Nat := if isNan x ∨ isNan y then NANQ else if pl y ≤ pl x then y else x

theorem ret_bool {a b : Bool} (h : a = b) : Ending.returned (.bool a) = .returned (.bool b) := by rw [h]
theorem ret_int {k : IntKind} {a b : Int} (h : a = b) : Ending.returned (.int k a) = .returned (.int k b) := by rw [h]
theorem ret_float {a b : Nat} (h : a = b) : Ending.returned (.float .f64 a) = .returned (.float .f64 b) := by rw [h]

theorem nan_test (x : Nat) : decide (9218868437227405312 < (rg x : Int)) = decide (isNan x) := by
  have : (9218868437227405312 < (rg x : Int)) ↔ isNan x := by unfold isNan INF; omega
  exact decide_eq_decide.2 this
theorem inf_test (x : Nat) : ((rg x : Int) == 9218868437227405312) = decide (rg x = INF) := by
  have : ((rg x : Int) = 9218868437227405312) ↔ rg x = INF := by unfold INF; omega
  by_cases h : rg x = INF
  · rw [decide_eq_true h, this.2 h]; rfl
  · rw [decide_eq_false h, beq_eq_false_iff_ne]; exact fun e => h (this.1 e)
theorem and_top (x : Nat) (h : x < 2 ^ 64) : bits .and .u64 (x : Int) 9223372036854775808 = if sg x then 9223372036854775808 else 0 := by
  have := u64_and_nat x 9223372036854775808 h (by decide)
  rw [show ((9223372036854775808 : Nat) : Int) = 9223372036854775808 from rfl] at this
  have e : x &&& 9223372036854775808 = x / 2 ^ 63 % 2 * 2 ^ 63 := nat_bit 63 x
  rw [this, e]
  unfold sg
  by_cases c : x / 2 ^ 63 % 2 = 1
  · simp [c]
  · have c0 : x / 2 ^ 63 % 2 = 0 := by omega
    simp [c0]
theorem sign_test (x : Nat) (h : x < 2 ^ 64) : (bits .and .u64 (x : Int) 9223372036854775808 != 0) = sg x := by
  rw [and_top x h]; cases sg x <;> rfl
theorem sg_true {x : Nat} (h : x < 2 ^ 64) (hs : sg x = true) : x = 2 ^ 63 + rg x := by
  have := wd_sg_rg x h; rw [hs] at this; exact this.symm
theorem sg_false {x : Nat} (h : x < 2 ^ 64) (hs : sg x = false) : x = rg x := by
  have := wd_sg_rg x h; rw [hs] at this; exact this.symm
theorem pl_true {x : Nat} (hs : sg x = true) : pl x = -1 - (rg x : Int) := by unfold pl; rw [hs]; rfl
theorem pl_false {x : Nat} (hs : sg x = false) : pl x = (rg x : Int) := by unfold pl; rw [hs]; rfl
theorem pl_neg (x : Nat) : pl x < 0 ↔ sg x = true := by
  cases hs : sg x
  · rw [pl_false hs]; exact ⟨fun h => by omega, fun h => by cases h⟩
  · rw [pl_true hs]; exact ⟨fun _ => rfl, fun _ => by omega⟩
theorem pl_bounds (x : Nat) : -9223372036854775808 ≤ pl x ∧ pl x < 9223372036854775808 := by
  have := rg_lt x
  cases hs : sg x
  · rw [pl_false hs]; omega
  · rw [pl_true hs]; omega
theorem pl_inj {x y : Nat} (hx : x < 2 ^ 64) (hy : y < 2 ^ 64) (h : pl x = pl y) : x = y := by
  cases hs : sg x <;> cases ht : sg y
  · rw [pl_false hs, pl_false ht] at h; rw [sg_false hx hs, sg_false hy ht]; omega
  · rw [pl_false hs, pl_true ht] at h; omega
  · rw [pl_true hs, pl_false ht] at h; omega
  · rw [pl_true hs, pl_true ht] at h; rw [sg_true hx hs, sg_true hy ht]; omega

theorem w64 (n : Int) (h1 : -9223372036854775808 ≤ n) (h2 : n < 9223372036854775808) : RowKit.wrap64 n = n := by
  unfold RowKit.wrap64; omega
theorem u64w (n : Int) (h1 : 0 ≤ n) (h2 : n < 18446744073709551616) : IntKind.u64.wrap n = n := by
  simp [IntKind.wrap, IntKind.bits, IntKind.signed]; omega

/-- what 'place' reckons -/
theorem place_neg (x : Nat) (hs : sg x = true) : RowKit.wrap64 (-1 - RowKit.wrap64 (rg x : Int)) = pl x := by
  have := rg_lt x
  rw [w64 (rg x : Int) (by omega) (by omega), w64 _ (by omega) (by omega), pl_true hs]
theorem place_pos (x : Nat) (h : x < 2 ^ 64) (hs : sg x = false) : RowKit.wrap64 (x : Int) = pl x := by
  have := rg_lt x
  have e := sg_false h hs
  rw [w64 (x : Int) (by omega) (by omega), pl_false hs]; omega
/-- what 'at' reckons -/
theorem at_neg (x : Nat) (h : x < 2 ^ 64) (hs : sg x = true) : (bits .or .u64 (IntKind.u64.wrap (RowKit.wrap64 (-1 - pl x))) 9223372036854775808).toNat = x := by
  have hr := rg_lt x
  have e := sg_true h hs
  rw [pl_true hs]
  have e1 : -1 - (-1 - (rg x : Int)) = (rg x : Int) := by omega
  rw [e1, w64 _ (by omega) (by omega), u64w _ (by omega) (by omega)]
  have := u64_or_nat (rg x) 9223372036854775808 (by omega) (by decide)
  rw [show ((9223372036854775808 : Nat) : Int) = 9223372036854775808 from rfl] at this
  rw [this, Nat.or_comm, nat_join 63 _ _ (by decide) hr]
  omega
theorem at_pos (x : Nat) (h : x < 2 ^ 64) (hs : sg x = false) : (IntKind.u64.wrap (pl x)).toNat = x := by
  have hr := rg_lt x
  have e := sg_false h hs
  rw [pl_false hs, u64w _ (by omega) (by omega)]; omega
theorem fmax_r {x y : Nat} (nx : ¬ isNan x) (ny : ¬ isNan y) (h : pl x ≤ pl y) : fmax x y = y := by
  unfold fmax; rw [if_neg (by rintro (h | h) <;> contradiction), if_pos h]
theorem fmax_l {x y : Nat} (hx : x < 2 ^ 64) (hy : y < 2 ^ 64) (nx : ¬ isNan x) (ny : ¬ isNan y) (h : pl y ≤ pl x) : fmax x y = x := by
  unfold fmax; rw [if_neg (by rintro (h | h) <;> contradiction)]
  split
  · exact pl_inj hy hx (by omega)
  · rfl
theorem fmin_l {x y : Nat} (hx : x < 2 ^ 64) (hy : y < 2 ^ 64) (nx : ¬ isNan x) (ny : ¬ isNan y) (h : pl x ≤ pl y) : fmin x y = x := by
  unfold fmin; rw [if_neg (by rintro (h | h) <;> contradiction)]
  split
  · exact pl_inj hy hx (by omega)
  · rfl
theorem fmin_r {x y : Nat} (nx : ¬ isNan x) (ny : ¬ isNan y) (h : pl y ≤ pl x) : fmin x y = y := by
  unfold fmin; rw [if_neg (by rintro (h | h) <;> contradiction), if_pos h]
theorem fmax_nan {x y : Nat} (h : isNan x ∨ isNan y) : fmax x y = NANQ := by unfold fmax; rw [if_pos h]
theorem fmin_nan {x y : Nat} (h : isNan x ∨ isNan y) : fmin x y = NANQ := by unfold fmin; rw [if_pos h]

/-- the class of a word, as the document numbers them -/
def clsF (x : Nat) : Int := if isNan x then 1 else if rg x = INF then 2 else if rg x = 0 then 3 else if rg x < 2 ^ 52 then 4 else 5
theorem clsF_cases (x : Nat) : clsF x = if 9218868437227405312 < (rg x : Int) then 1 else if (rg x : Int) = 9218868437227405312 then 2 else if (rg x : Int) = 0 then 3 else if (rg x : Int) ≤ 4503599627370495 then 4 else 5 := by
  have a : (9218868437227405312 < (rg x : Int)) ↔ isNan x := by unfold isNan INF; omega
  have b : ((rg x : Int) = 9218868437227405312) ↔ rg x = INF := by unfold INF; omega
  have c : ((rg x : Int) = 0) ↔ rg x = 0 := by omega
  have d : ((rg x : Int) ≤ 4503599627370495) ↔ rg x < 2 ^ 52 := by omega
  unfold clsF
  simp only [a, b, c, d]
theorem sameB_eq (x y : Nat) : sameB x y = (decide (isNan x) && decide (isNan y) || ((x : Int) == (y : Int))) := by
  unfold sameB Same
  have c : ((x : Int) == (y : Int)) = decide (x = y) := by
    by_cases h : x = y
    · subst h; simp
    · rw [decide_eq_false h]; simp; omega
  rw [c]
  by_cases h : x = y <;> by_cases g : isNan x <;> by_cases k : isNan y <;> simp [h, g, k]
/-- 'x == y' of two words -/
def eqB (x y : Nat) : Bool := FloatKind.f64.format.order x y == some Ordering.eq
/-- the class of a complex number, as the document numbers them -/
def clsC (a b : Nat) : Int := if (clsF a == 2 || clsF b == 2) = true then 2 else if (clsF a == 1 || clsF b == 1) = true then 1 else if (clsF a == 3 && clsF b == 3) = true then 3 else 4
end Fl
