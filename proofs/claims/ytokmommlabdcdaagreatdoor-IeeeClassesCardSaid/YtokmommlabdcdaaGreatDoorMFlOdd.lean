/- A finite float as an odd number times a power of two: its two readings agree. No program in sight. -/
import Derived.Test.YtokmommlabdcdaaGreatDoorMFlRel
import Derived.Test.YtokmommlabdcdaaGreatDoorMWdStr
set_option linter.unusedVariables false
set_option linter.unusedSimpArgs false
set_option linter.unusedVariables false
set_option linter.unusedSimpArgs false
namespace Fl
open Wd
theorem odd_unique {a b c d : Nat} (hc : c % 2 = 1) (hd : d % 2 = 1) (h : 2 ^ a * c = 2 ^ b * d) : a = b ∧ c = d := by
  rcases Nat.lt_trichotomy a b with g | g | g
  · exfalso
    obtain ⟨t, rfl⟩ : ∃ t, b = a + (t + 1) := ⟨b - a - 1, by omega⟩
    rw [Nat.pow_add, Nat.mul_assoc] at h
    have := Nat.eq_of_mul_eq_mul_left (Nat.two_pow_pos a) h
    rw [Nat.pow_succ] at this
    rw [this, Nat.mul_assoc, Nat.mul_left_comm] at hc
    omega
  · subst g
    exact ⟨rfl, Nat.eq_of_mul_eq_mul_left (Nat.two_pow_pos a) h⟩
  · exfalso
    obtain ⟨t, rfl⟩ : ∃ t, a = b + (t + 1) := ⟨a - b - 1, by omega⟩
    rw [Nat.pow_add, Nat.mul_assoc] at h
    have := Nat.eq_of_mul_eq_mul_left (Nat.two_pow_pos b) h
    rw [Nat.pow_succ] at this
    rw [← this, Nat.mul_assoc, Nat.mul_left_comm] at hd
    omega
/-- x is d times two to the e, d odd -/
def OddV (x : Nat) (d : Int) (e : Int) : Prop := d.natAbs % 2 = 1 ∧ (d < 0 ↔ sg x = true) ∧ ∃ t : Nat, mant x = 2 ^ t * d.natAbs ∧ e = (t : Int) + (plc x : Int) - 1075
theorem OddV.unique {x : Nat} {d d' e e' : Int} (h : OddV x d e) (g : OddV x d' e') : d = d' ∧ e = e' := by
  obtain ⟨h1, h2, t, h3, h4⟩ := h
  obtain ⟨g1, g2, u, g3, g4⟩ := g
  obtain ⟨a, b⟩ := odd_unique h1 g1 (h3.symm.trans g3)
  refine ⟨?_, by rw [h4, g4, a]⟩
  by_cases c : sg x = true
  · have := h2.2 c; have := g2.2 c; omega
  · have : ¬ d < 0 := fun q => c (h2.1 q)
    have : ¬ d' < 0 := fun q => c (g2.1 q)
    omega
/-- out of the fraction -/
theorem OddV.of_frac {x i k : Nat} {c : Int} (hc : c.natAbs % 2 = 1) (hn : (fv x).num = c * ((2 ^ k : Nat) : Int)) (hd : (fv x).den = 2 ^ i) : OddV x c ((k : Int) - i) := by
  have hp := plc_pos x
  have hP : (0 : Int) < ((2 ^ k : Nat) : Int) := by have := Nat.two_pow_pos k; omega
  have cr : (fv x).num * (UN : Int) = iv x * ((fv x).den : Int) := cross_of UN_ne rfl
  rw [hn, hd, iv_parts] at cr
  have ab := congrArg Int.natAbs cr
  rw [Int.natAbs_mul, Int.natAbs_mul, Int.natAbs_mul, Int.natAbs_mul, Int.natAbs_natCast, Int.natAbs_natCast, Int.natAbs_natCast, Int.natAbs_natCast] at ab
  have hs : (smant x).natAbs = mant x := by unfold smant; split <;> simp
  rw [hs] at ab
  have m0 : mant x ≠ 0 := by
    intro e
    rw [e, Nat.zero_mul, Nat.zero_mul] at ab
    have h1 := Nat.two_pow_pos k
    have h2 := UN_pos
    rcases Nat.mul_eq_zero.1 ab with e | e
    · rcases Nat.mul_eq_zero.1 e with e | e
      · rw [e] at hc; simp at hc
      · omega
    · omega
  obtain ⟨t, d, e1, o1⟩ := twos_of m0
  have key : 2 ^ (k + 1074) * c.natAbs = 2 ^ (t + (plc x - 1) + i) * d := by
    rw [Nat.pow_add, Nat.pow_add, Nat.pow_add, UN_eq 1074 rfl]
    rw [e1] at ab
    have l : 2 ^ k * UN * c.natAbs = c.natAbs * 2 ^ k * UN := by rw [Nat.mul_comm, ← Nat.mul_assoc]
    rw [l, ab]
    generalize 2 ^ t = A
    generalize 2 ^ (plc x - 1) = B
    generalize 2 ^ i = C
    rw [Nat.mul_right_comm A B C, Nat.mul_right_comm (A * C) B d, Nat.mul_right_comm A C d, Nat.mul_right_comm (A * d) C B]
  obtain ⟨q1, q2⟩ := odd_unique hc o1 key
  refine ⟨hc, ?_, t, by rw [e1, q2], by omega⟩
  -- the sign
  have hB : (0 : Int) < ((2 ^ (plc x - 1) : Nat) : Int) := by have := Nat.two_pow_pos (plc x - 1); omega
  have hC : (0 : Int) < ((2 ^ i : Nat) : Int) := by have := Nat.two_pow_pos i; omega
  have hU : (0 : Int) < (UN : Int) := by have := UN_pos; omega
  have s1 : c < 0 ↔ c * ((2 ^ k : Nat) : Int) * (UN : Int) < 0 := by
    constructor
    · intro h; exact Int.mul_neg_of_neg_of_pos (Int.mul_neg_of_neg_of_pos h hP) hU
    · intro h
      rcases Int.lt_or_le c 0 with g | g
      · exact g
      · have := Int.mul_nonneg (Int.mul_nonneg g (Int.le_of_lt hP)) (Int.le_of_lt hU); omega
  have s2 : smant x < 0 ↔ smant x * ((2 ^ (plc x - 1) : Nat) : Int) * ((2 ^ i : Nat) : Int) < 0 := by
    constructor
    · intro h; exact Int.mul_neg_of_neg_of_pos (Int.mul_neg_of_neg_of_pos h hB) hC
    · intro h
      rcases Int.lt_or_le (smant x) 0 with g | g
      · exact g
      · have := Int.mul_nonneg (Int.mul_nonneg g (Int.le_of_lt hB)) (Int.le_of_lt hC); omega
  rw [s1, cr, ← s2]
  unfold smant
  cases sg x
  · first | (simp; done) | (simp; omega)
  · first | (simp; done) | (simp; omega)
end Fl
