/- The error of one rounding, as an inequality between rational numbers. No program in sight. -/
import Derived.Test.YtmfmgofafamemaaFlOps
import Derived.Test.YtmfmgofafamemaaFlRel
import Derived.Test.YtmfmgofafamemaaFlLaws
namespace Fl
open Go

/-- x lies between -m and m. -/
def Bd (x m : Rat) : Prop := -m ≤ x ∧ x ≤ m

theorem Bd.mono {x m n : Rat} (h : Bd x m) (hm : m ≤ n) : Bd x n := ⟨by grind [Bd], by grind [Bd]⟩
theorem Bd.add {x y m n : Rat} (h : Bd x m) (g : Bd y n) : Bd (x + y) (m + n) := ⟨by grind [Bd], by grind [Bd]⟩
theorem Bd.sub {x y m n : Rat} (h : Bd x m) (g : Bd y n) : Bd (x - y) (m + n) := ⟨by grind [Bd], by grind [Bd]⟩
theorem Bd.neg {x m : Rat} (h : Bd x m) : Bd (-x) m := ⟨by grind [Bd], by grind [Bd]⟩
theorem Bd.nonneg {x m : Rat} (h : Bd x m) : 0 ≤ m := by grind [Bd]
theorem Bd.mul {x y m n : Rat} (h : Bd x m) (g : Bd y n) : Bd (x * y) (m * n) := by
  have h0 := h.nonneg
  have g0 := g.nonneg
  have a := Rat.mul_nonneg (a := m - x) (b := n - y) (by grind [Bd]) (by grind [Bd])
  have b := Rat.mul_nonneg (a := m + x) (b := n + y) (by grind [Bd]) (by grind [Bd])
  have c := Rat.mul_nonneg (a := m - x) (b := n + y) (by grind [Bd]) (by grind [Bd])
  have d := Rat.mul_nonneg (a := m + x) (b := n - y) (by grind [Bd]) (by grind [Bd])
  exact ⟨by grind, by grind⟩
/-- the factor y is at least n in size; then x is small where x * y is. -/
theorem Bd.cancel {x y m n : Rat} (h : Bd (x * y) m) (hn : 0 < n) (hy : n ≤ y) : Bd (x * n) m := by
  have h0 := h.nonneg
  rcases Rat.le_total (a := 0) (b := x) with hx | hx
  · have a := Rat.mul_nonneg hx (b := y - n) (by grind)
    have b := Rat.mul_nonneg hx (b := n) (by grind)
    exact ⟨by grind, by grind [Bd]⟩
  · have a := Rat.mul_nonneg (a := -x) (by grind) (b := y - n) (by grind)
    have b := Rat.mul_nonneg (a := -x) (by grind) (b := n) (by grind)
    exact ⟨by grind [Bd], by grind⟩

/-- half a unit of the last place, as a share. -/
def uu : Rat := 1 / 9007199254740992
theorem uu_eq : uu * 9007199254740992 = 1 := by unfold uu; grind
theorem uu_pos : 0 < uu := by have := uu_eq; grind
theorem uu_le : uu ≤ 1 / 1000000 := by have := uu_eq; grind

theorem rungQ_err (n d : Nat) (hd : 0 < d) :
    (2 ^ 53 * (valR (rungQ n d) * d) ≤ 2 ^ 53 * n + n ∧ 2 ^ 53 * n ≤ 2 ^ 53 * (valR (rungQ n d) * d) + n) ∨
    (2 * (valR (rungQ n d) * d) ≤ 2 * n + d ∧ 2 * n ≤ 2 * (valR (rungQ n d) * d) + d) := by
  have h := rungQ_near n d hd
  generalize hL : (n / d).log2 - 52 = L at h
  generalize valR (rungQ n d) * d = R at h ⊢
  by_cases h0 : L = 0
  · subst h0; right; simpa using h
  · left
    have hne : n / d ≠ 0 := by intro e; rw [e] at hL; simp at hL; omega
    have b := (log2_div_bounds hd hne).1
    have e : (n / d).log2 = L + 52 := by omega
    rw [e, Nat.pow_add] at b
    have e2 : 2 ^ L * 2 ^ 52 * d = d * 2 ^ L * 2 ^ 52 := by rw [Nat.mul_comm, Nat.mul_assoc]
    rw [e2] at b
    generalize d * 2 ^ L = K at *
    omega

/-- n parts of size k are rounded to R * d parts. -/
theorem rungQ_bd (n d : Nat) (hd : 0 < d) (k m : Rat) (hk : 0 ≤ k) (hn : (n : Rat) * k ≤ m) (hm : (d : Rat) * k ≤ m * (1 / 4503599627370496)) :
    Bd ((valR (rungQ n d) : Rat) * d * k - n * k) (uu * m) := by
  have hu := uu_eq
  have h := rungQ_err n d hd
  generalize valR (rungQ n d) = R at h ⊢
  have hu' : uu * m * 9007199254740992 = m := by grind
  rcases h with ⟨h1, h2⟩ | ⟨h1, h2⟩
  · have a1 := (Rat.natCast_le_natCast (a := _) (b := _)).2 h1
    have a2 := (Rat.natCast_le_natCast (a := _) (b := _)).2 h2
    simp only [Rat.natCast_add, Rat.natCast_mul] at a1 a2
    have b1 := Rat.mul_le_mul_of_nonneg_right a1 hk
    have b2 := Rat.mul_le_mul_of_nonneg_right a2 hk
    generalize uu * m = um at *
    have e : (((2 ^ 53 : Nat)) : Rat) = 9007199254740992 := by rfl
    rw [e] at b1 b2
    exact ⟨by grind, by grind⟩
  · have a1 := (Rat.natCast_le_natCast (a := _) (b := _)).2 h1
    have a2 := (Rat.natCast_le_natCast (a := _) (b := _)).2 h2
    simp only [Rat.natCast_add, Rat.natCast_mul] at a1 a2
    have b1 := Rat.mul_le_mul_of_nonneg_right a1 hk
    have b2 := Rat.mul_le_mul_of_nonneg_right a2 hk
    generalize uu * m = um at *
    have e : (((2 : Nat)) : Rat) = 2 := by rfl
    rw [e] at b1 b2
    exact ⟨by grind, by grind⟩
end Fl
