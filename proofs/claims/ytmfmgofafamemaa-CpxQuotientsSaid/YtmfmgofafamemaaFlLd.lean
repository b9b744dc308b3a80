/- Scaling a float by a power of two: the exponent's field moves. -/
import Derived.Test.YtmfmgofafamemaaFlPl
import Derived.Test.YtmfmgofafamemaaFlInt
namespace Fl
open Go Ieee
theorem and_mask (x : Nat) (h : x < 2 ^ 64) : x &&& 9227875636482146303 = x / 2 ^ 63 * 2 ^ 63 + x % 2 ^ 52 := by
  have e : (9227875636482146303 : Nat) = 2 ^ 63 ||| (2 ^ 52 - 1) := by decide
  have a := nat_bit 63 x
  have b := Nat.and_two_pow_sub_one_eq_mod x 52
  have c := nat_join 63 (x / 2 ^ 63 % 2 * 2 ^ 63) (x % 2 ^ 52) (by omega) (by omega)
  rw [e, Nat.and_or_distrib_left, a, b, c]
  omega
theorem i64_and2047 (n : Int) : bits .and .i64 n 2047 = n % 2048 := by
  have h127 : (BitVec.ofInt 64 2047).toNat = 2 ^ 11 - 1 := by decide
  have key : (BitVec.ofInt 64 n &&& BitVec.ofInt 64 2047).toNat = (n % ((2 ^ 64 : Nat) : Int)).toNat % 2 ^ 11 := by
    rw [BitVec.toNat_and, BitVec.toNat_ofInt, h127, Nat.and_two_pow_sub_one_eq_mod]
  show IntKind.i64.wrap ((BitVec.ofInt 64 n &&& BitVec.ofInt 64 2047).toNat : Nat) = n % 2048
  rw [key, IntKind.wrap_i64]
  omega
theorem or_exp (s f e : Nat) (hf : f < 2 ^ 52) (he : e < 2048) : (s * 2 ^ 63 + f) ||| (e * 2 ^ 52) = s * 2 ^ 63 + (e * 2 ^ 52 + f) := by
  have a : s * 2 ^ 63 + f = s * 2 ^ 63 ||| f := (nat_join 63 _ _ (by omega) (by omega)).symm
  rw [a, Nat.or_assoc, Nat.or_comm f, nat_join 52 (e * 2 ^ 52) f (by omega) hf, nat_join 63 _ _ (by omega) (by omega)]
theorem one_mv : mv 4607182418800017408 = UN := by
  have h := IsI.ofInt 1 (by decide)
  rw [show Go.floatOfInt .f64 1 = 4607182418800017408 by decide +kernel] at h
  have e := h.mv
  rw [show (1 : Int).natAbs = 1 from rfl, Nat.one_mul] at e
  exact e
theorem mul_one' {y : Nat} (hy : y < 2 ^ 64) (hf : fin y) : D.mul 4607182418800017408 y = some y := by
  rw [mul_fin _ _ (by decide) hf, one_mv, Nat.mul_comm]
  have e := rq_exact (r := rg y) (d := UN) hf UN_pos
  rw [show mv y = valR (rg y) from rfl, e, show sg 4607182418800017408 = false by decide, Bool.false_xor, wd_sg_rg y hy]
/-- x times two to the k -/
def ldx (x : Nat) (k : Int) : Nat := wd (sg x) ((rg x : Int) + k * 4503599627370496).toNat
theorem ldx_word {x : Nat} {k : Int} (hx : x < 2 ^ 64) (h1 : 1 ≤ (rg x / 2 ^ 52 : Nat) + k) (h2 : (rg x / 2 ^ 52 : Nat) + k ≤ 2046) :
    ldx x k = x / 2 ^ 63 * 2 ^ 63 + (((rg x / 2 ^ 52 : Nat) + k).toNat * 2 ^ 52 + x % 2 ^ 52) := by
  unfold ldx wd sg rg
  unfold rg at h1 h2
  by_cases c : x / 2 ^ 63 % 2 = 1
  · rw [show (x / 2 ^ 63 % 2 == 1) = true by rw [c]; rfl]; simp only [if_true]; omega
  · rw [show (x / 2 ^ 63 % 2 == 1) = false by rw [beq_eq_false_iff_ne]; exact c]; simp only [Bool.false_eq_true, if_false]; omega
theorem ldx_facts {x : Nat} {k : Int} (h1 : 1 ≤ (rg x / 2 ^ 52 : Nat) + k) (h2 : (rg x / 2 ^ 52 : Nat) + k ≤ 2046) :
    sg (ldx x k) = sg x ∧ (rg (ldx x k) : Int) = rg x + k * 4503599627370496 ∧ fin (ldx x k) ∧ ldx x k < 2 ^ 64 := by
  have b : ((rg x : Int) + k * 4503599627370496).toNat < INF := by unfold INF; omega
  have b2 : ((rg x : Int) + k * 4503599627370496).toNat < 2 ^ 63 := by unfold INF at b; omega
  unfold ldx
  refine ⟨sg_wd _ _ b2, ?_, fin_wd b, wd_lt _ _ b2⟩
  rw [rg_wd _ _ b2]; omega
theorem ldx_neg {x : Nat} (k : Int) (hx : x < 2 ^ 64) (h1 : 1 ≤ (rg x / 2 ^ 52 : Nat) + k) (h2 : (rg x / 2 ^ 52 : Nat) + k ≤ 2046) : ldx (neg x) k = neg (ldx x k) := by
  have b2 : ((rg x : Int) + k * 4503599627370496).toNat < 2 ^ 63 := by omega
  unfold ldx
  rw [sg_neg x hx, rg_neg x hx, neg_wd _ _ b2]
theorem ldx_zero {x : Nat} (hx : x < 2 ^ 64) : ldx x 0 = x := by
  unfold ldx
  rw [show ((rg x : Int) + 0 * 4503599627370496).toNat = rg x by omega, wd_sg_rg x hx]
theorem ldx_back {x : Nat} {k : Int} (hx : x < 2 ^ 64) (h1 : 1 ≤ (rg x / 2 ^ 52 : Nat) + k) (h2 : (rg x / 2 ^ 52 : Nat) + k ≤ 2046) : ldx (ldx x k) (-k) = x := by
  obtain ⟨a, b, _, _⟩ := ldx_facts h1 h2
  have e : ldx (ldx x k) (-k) = wd (sg (ldx x k)) ((rg (ldx x k) : Int) + (-k) * 4503599627370496).toNat := rfl
  rw [e, a, b, show ((rg x : Int) + k * 4503599627370496 + -k * 4503599627370496).toNat = rg x by omega, wd_sg_rg x hx]
theorem ldx_bits {x E : Nat} {k : Int} (hx : x < 18446744073709551616) (hE : rg x / 2 ^ 52 = E) (h1 : 1 ≤ (E : Int) + k) (h2 : (E : Int) + k ≤ 2046) :
    ∃ A B : Nat, bits .andNot .u64 (x : Int) 9218868437227405312 = A ∧ ((E : Int) + k) * 4503599627370496 = B ∧ (bits .or .u64 (A : Int) (B : Int)).toNat = ldx x k := by
  obtain ⟨e, he⟩ : ∃ e : Nat, (E : Int) + k = e := ⟨((E : Int) + k).toNat, by omega⟩
  have hx' : x < 2 ^ 64 := hx
  have wr := ldx_word (x := x) (k := k) hx' (by rw [hE]; exact h1) (by rw [hE]; exact h2)
  rw [hE, he, Int.toNat_natCast] at wr
  refine ⟨x / 2 ^ 63 * 2 ^ 63 + x % 2 ^ 52, e * 2 ^ 52, ?_, ?_, ?_⟩
  · have := u64_andNot_nat x 9218868437227405312 hx (by decide)
    rw [show ((9218868437227405312 : Nat) : Int) = 9218868437227405312 from rfl] at this
    rw [this, show 18446744073709551615 - 9218868437227405312 = 9227875636482146303 from rfl, and_mask x hx']
  · rw [he]; omega
  · have b1 : x / 2 ^ 63 * 2 ^ 63 + x % 2 ^ 52 < 18446744073709551616 := by omega
    have be : e ≤ 2046 := by omega
    have b2 : e * 2 ^ 52 < 18446744073709551616 := Nat.lt_of_le_of_lt (Nat.mul_le_mul_right _ be) (by decide)
    have o := or_exp (x / 2 ^ 63) (x % 2 ^ 52) e (by omega) (by omega)
    have := u64_or_nat _ _ b1 b2
    rw [this, Int.toNat_natCast, wr, o]
end Fl
