/- A quotient times its divisor: what the single errors come to. Rational numbers only. -/
import Derived.Test.YtmfmgofafamemaaFlErr
namespace Fl

/-- S is the size, k is S times u. -/
theorem quo_core {u k S rho a b r m t m1 n1 U m2 n2 V e1 e2 e3 e4 e5 e6 e7 e8 e9 : Rat}
    (hu0 : 0 ≤ u) (hu : u ≤ 1 / 1000000) (hk : k = S * u) (hS : 0 ≤ S)
    (hrho : Bd rho 1) (ha : Bd a S) (hb : Bd b S)
    (h1 : Bd e1 u) (h2 : Bd e2 (2 * u)) (h3 : Bd e3 (3 * u))
    (h4 : Bd e4 (2 * k)) (h5 : Bd e5 (3 * k)) (h6 : Bd e6 (3 * k)) (h7 : Bd e7 (2 * k)) (h8 : Bd e8 (3 * k)) (h9 : Bd e9 (3 * k))
    (er : r = rho + e1) (em : m = rho * r + e2) (et : t = 1 + m + e3)
    (em1 : m1 = b * r + e4) (en1 : n1 = a + m1 + e5) (eU : U * t = n1 + e6)
    (em2 : m2 = a * r + e7) (en2 : n2 = b - m2 + e8) (eV : V * t = n2 + e9) :
    Bd (U - rho * V - a) (25 * k) ∧ Bd (V + rho * U - b) (25 * k) ∧ Bd U (3 * S) ∧ Bd V (3 * S) ∧ (99 / 100 ≤ t) := by
  have hk0 : 0 ≤ k := by rw [hk]; exact Rat.mul_nonneg hS hu0
  have hkS : k ≤ S * (1 / 1000000) := by rw [hk]; exact Rat.mul_le_mul_of_nonneg_left hu hS
  -- the divisor
  have c1 := hrho.mul h1
  have et' : t = 1 + rho * rho + (rho * e1 + e2 + e3) := by grind
  have bt : Bd (rho * e1 + e2 + e3) (6 * u) := ((c1.add h2).add h3).mono (by grind)
  generalize rho * e1 + e2 + e3 = d at et' bt
  have sq : 0 ≤ rho * rho := by
    rcases Rat.le_total (a := 0) (b := rho) with h | h
    · exact Rat.mul_nonneg h h
    · have := Rat.mul_nonneg (a := -rho) (b := -rho) (by grind) (by grind)
      grind
  have t99 : 99 / 100 ≤ t := by grind [Bd]
  -- the two numerators
  have c2 := hb.mul h1
  have c3 := ha.mul h1
  have g1 : U * t = a + b * rho + (b * e1 + e4 + e5 + e6) := by grind
  have b1 : Bd (b * e1 + e4 + e5 + e6) (9 * k) := (((c2.add h4).add h5).add h6).mono (by grind)
  have g2 : V * t = b - a * rho + (- (a * e1) - e7 + e8 + e9) := by grind
  have b2 : Bd (- (a * e1) - e7 + e8 + e9) (9 * k) := (((c3.neg.sub h7).add h8).add h9).mono (by grind)
  generalize b * e1 + e4 + e5 + e6 = d1 at g1 b1
  generalize - (a * e1) - e7 + e8 + e9 = d2 at g2 b2
  have f1 : (U - rho * V - a) * t = d1 - rho * d2 - a * d := by grind
  have f2 : (V + rho * U - b) * t = d2 + rho * d1 - b * d := by grind
  have q1 : Bd ((U - rho * V - a) * t) (24 * k) := by
    rw [f1]; exact ((b1.sub (hrho.mul b2)).sub (ha.mul bt)).mono (by grind)
  have q2 : Bd ((V + rho * U - b) * t) (24 * k) := by
    rw [f2]; exact ((b2.add (hrho.mul b1)).sub (hb.mul bt)).mono (by grind)
  have q3 : Bd (U * t) (2 * S + 9 * k) := by
    rw [g1]; exact ((ha.add (hb.mul hrho)).add b1).mono (by grind)
  have q4 : Bd (V * t) (2 * S + 9 * k) := by
    rw [g2]; exact ((hb.sub (ha.mul hrho)).add b2).mono (by grind)
  have r1 := q1.cancel (n := 99 / 100) (by grind) t99
  have r2 := q2.cancel (n := 99 / 100) (by grind) t99
  have r3 := q3.cancel (n := 99 / 100) (by grind) t99
  have r4 := q4.cancel (n := 99 / 100) (by grind) t99
  clear f1 f2 q1 q2 q3 q4 g1 g2 er em et em1 en1 eU em2 en2 eV et'
  generalize U - rho * V - a = z1 at *
  generalize V + rho * U - b = z2 at *
  refine ⟨⟨by grind [Bd], by grind [Bd]⟩, ⟨by grind [Bd], by grind [Bd]⟩, ⟨by grind [Bd], by grind [Bd]⟩, ⟨by grind [Bd], by grind [Bd]⟩, t99⟩
end Fl
