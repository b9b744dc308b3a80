/- Decimal digits, the last one first, in pieces of nine; a list turned round by exchanges. No program in sight. -/
import Derived.Lib.ItoaNum
set_option linter.unusedVariables false
set_option linter.unusedSimpArgs false
set_option linter.unusedVariables false
set_option linter.unusedSimpArgs false
namespace Dec
open Go.Lib
/-- the decimal digits, the last one first; none of 0 -/
def rdig (n : Nat) : List UInt8 := if h : n = 0 then [] else UInt8.ofNat (48 + n % 10) :: rdig (n / 10)
termination_by n
decreasing_by omega
theorem rdig_zero : rdig 0 = [] := by rw [rdig, dif_pos rfl]
theorem rdig_pos {n : Nat} (h : n ≠ 0) : rdig n = UInt8.ofNat (48 + n % 10) :: rdig (n / 10) := by rw [rdig, dif_neg h]
theorem rdig_rev {n : Nat} (h : n ≠ 0) : (rdig n).reverse = decDigits n := by
  induction n using Nat.strongRecOn with
  | _ n ih =>
    rw [rdig_pos h, List.reverse_cons, decDigits]
    by_cases c : n < 10
    · rw [dif_pos c, show n / 10 = 0 by omega, rdig_zero, Nat.mod_eq_of_lt c]; rfl
    · rw [dif_neg c, ih (n / 10) (by omega) (by omega)]
/-- of N the digits O are out; what is left is A over 10^i, of which r is the part below 10^9 -/
structure DigV (N A i : Nat) (r : Int) (O : List UInt8) : Prop where
  hi : i ≤ 9
  rest : r = ((A / 10 ^ i % 10 ^ (9 - i) : Nat) : Int)
  out : rdig N = O ++ rdig (A / 10 ^ i)
theorem DigV.start {N A : Nat} {O : List UInt8} (h : rdig N = O ++ rdig A) : DigV N A 0 ((A % 1000000000 : Nat) : Int) O :=
  ⟨by omega, by simp, by simpa using h⟩
theorem DigV.bounds {N A i : Nat} {r : Int} {O : List UInt8} (h : DigV N A i r O) : 0 ≤ r ∧ r < 1000000000 := by
  obtain ⟨h1, h2, _⟩ := h
  have : A / 10 ^ i % 10 ^ (9 - i) < 10 ^ (9 - i) := Nat.mod_lt _ (Nat.pow_pos (by decide))
  have : (10 : Nat) ^ (9 - i) ≤ 10 ^ 9 := Nat.pow_le_pow_right (by decide) (by omega)
  have e : (10 : Nat) ^ 9 = 1000000000 := by decide
  omega
theorem DigV.step {N A i : Nat} {r : Int} {O : List UInt8} (h : DigV N A i r O) (hi : i < 9) (hc : A / 1000000000 ≠ 0 ∨ 0 < r) :
    DigV N A (i + 1) (r / 10) (O ++ [UInt8.ofNat (48 + (r % 10).toNat)]) := by
  obtain ⟨h1, h2, h3⟩ := h
  obtain ⟨d, hd⟩ : ∃ d, 9 - i = d + 1 := ⟨8 - i, by omega⟩
  have e9 : (1000000000 : Nat) = 10 ^ i * 10 ^ (9 - i) := by rw [← Nat.pow_add, show i + (9 - i) = 9 by omega]
  have e1 : A / 10 ^ (i + 1) = A / 10 ^ i / 10 := by rw [Nat.pow_succ, Nat.div_div_eq_div_mul]
  have n0 : A / 10 ^ i ≠ 0 := by
    intro e
    rcases hc with hc | hc
    · rw [e9, ← Nat.div_div_eq_div_mul, e] at hc
      simp at hc
    · rw [e] at h2; simp at h2; omega
  generalize A / 10 ^ i = B at *
  have ep : (10 : Nat) ^ (9 - i) = 10 ^ d * 10 := by rw [hd, Nat.pow_succ]
  have m1 : B % 10 ^ (9 - i) % 10 = B % 10 := by rw [ep]; exact Nat.mod_mul_left_mod _ _ _
  have m2 : B % 10 ^ (9 - i) / 10 = B / 10 % 10 ^ d := by rw [ep, Nat.mul_comm]; exact Nat.mod_mul_right_div_self _ _ _
  refine ⟨by omega, ?_, ?_⟩
  · rw [h2, e1, show 9 - (i + 1) = d by omega, ← m2]; omega
  · have : (r % 10).toNat = B % 10 := by rw [h2]; omega
    rw [h3, e1, rdig_pos n0, this]; simp
theorem DigV.done {N A i : Nat} {r : Int} {O : List UInt8} (h : DigV N A i r O) (hc : ¬ i < 9 ∨ (A / 1000000000 = 0 ∧ ¬ 0 < r)) : rdig N = O ++ rdig (A / 1000000000) := by
  obtain ⟨h1, h2, h3⟩ := h
  have e9 : (1000000000 : Nat) = 10 ^ i * 10 ^ (9 - i) := by rw [← Nat.pow_add, show i + (9 - i) = 9 by omega]
  by_cases c : i < 9
  · rcases hc with hc | ⟨hq, hr⟩
    · exact absurd c hc
    · rw [h3, hq]
      rw [e9, ← Nat.div_div_eq_div_mul] at hq
      have hp : 0 < (10 : Nat) ^ (9 - i) := Nat.pow_pos (by decide)
      have := Nat.div_add_mod (A / 10 ^ i) (10 ^ (9 - i))
      rw [hq, Nat.mul_zero, Nat.zero_add] at this
      have z : A / 10 ^ i = 0 := by omega
      rw [z]
  · have : i = 9 := by omega
    subst this
    exact h3
theorem rdig_len (n k : Nat) (h : n < 10 ^ k) : (rdig n).length ≤ k := by
  induction k generalizing n with
  | zero => simp at h; subst h; rw [rdig_zero]; exact Nat.le_refl _
  | succ k ih =>
    by_cases c : n = 0
    · subst c; rw [rdig_zero]; simp
    · rw [rdig_pos c, List.length_cons]
      have := ih (n / 10) (by rw [Nat.pow_succ] at h; omega)
      omega
/-- a list of which i at each end are exchanged -/
def revL (O : List UInt8) (i : Nat) : List UInt8 := (List.range O.length).map fun j => if j < i ∨ O.length - 1 - j < i then O.getD (O.length - 1 - j) 0 else O.getD j 0
theorem revL_len (O : List UInt8) (i : Nat) : (revL O i).length = O.length := by simp [revL]
theorem revL_zero (O : List UInt8) : revL O 0 = O := by
  apply List.ext_getElem
  · simp [revL]
  · intro j h1 h2; simp [revL, List.getD_eq_getElem?_getD, h2]
theorem revL_at {O : List UInt8} {i j : Nat} (h1 : ¬ j < i) (h2 : ¬ O.length - 1 - j < i) (hj : j < O.length) : (revL O i)[j]? = O[j]? := by
  simp [revL, hj, h1, h2, List.getD_eq_getElem?_getD]
theorem revL_step {O : List UInt8} {i : Nat} (h : i < O.length - 1 - i) : ((revL O i).set i (O.getD (O.length - 1 - i) 0)).set (O.length - 1 - i) (O.getD i 0) = revL O (i + 1) := by
  apply List.ext_getElem
  · simp [revL]
  · intro j h1 h2
    have hj : j < O.length := by simpa [revL] using h2
    rw [List.getElem_set, List.getElem_set]
    simp only [revL, List.getElem_map, List.getElem_range]
    by_cases c1 : O.length - 1 - i = j
    · rw [if_pos c1, if_pos (by omega)]; congr 1; omega
    · rw [if_neg c1]
      by_cases c2 : i = j
      · subst c2; rw [if_pos rfl, if_pos (by omega)]
      · rw [if_neg c2]
        by_cases c3 : j < i ∨ O.length - 1 - j < i
        · rw [if_pos c3, if_pos (by omega)]
        · rw [if_neg c3, if_neg (by omega)]
theorem revL_done {O : List UInt8} {i : Nat} (h : ¬ i < O.length - 1 - i) : revL O i = O.reverse := by
  apply List.ext_getElem
  · simp [revL]
  · intro j h1 h2
    have hj : j < O.length := by simpa [revL] using h1
    simp only [revL, List.getElem_map, List.getElem_range, List.getElem_reverse]
    by_cases c : j < i ∨ O.length - 1 - j < i
    · rw [if_pos c, List.getD_eq_getElem?_getD, List.getElem?_eq_getElem (by omega)]; rfl
    · rw [if_neg c, List.getD_eq_getElem?_getD, List.getElem?_eq_getElem hj]
      have : O.length - 1 - j = j := by omega
      simp only [this]; rfl
theorem rdig_mono {a b : Nat} (h : a ≤ b) : (rdig a).length ≤ (rdig b).length := by
  induction b using Nat.strongRecOn generalizing a with
  | _ b ih =>
    by_cases c : a = 0
    · subst c; rw [rdig_zero]; simp
    · rw [rdig_pos c, rdig_pos (show b ≠ 0 by omega), List.length_cons, List.length_cons]
      have := ih (b / 10) (by omega) (show a / 10 ≤ b / 10 by omega)
      omega
theorem rdig_shorter {n : Nat} (h : n ≠ 0) : (rdig (n / 1000000000)).length < (rdig n).length := by
  rw [rdig_pos h, List.length_cons]
  have := rdig_mono (show n / 1000000000 ≤ n / 10 by omega)
  omega
end Dec
