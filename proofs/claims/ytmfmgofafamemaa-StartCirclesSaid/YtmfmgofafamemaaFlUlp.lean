/- Distances to the next float away from zero. -/
import Derived.Test.YtmfmgofafamemaaFlHalf
namespace Fl
open Go Ieee
theorem rg_rg (x : Nat) : rg (rg x) = rg x := Nat.mod_eq_of_lt (rg_lt x)
theorem sg_rg (x : Nat) : sg (rg x) = false := by unfold sg; rw [Nat.div_eq_of_lt (rg_lt x)]; rfl
theorem ulpW_neg {x : Nat} (hx : x < 2 ^ 64) : ulpW (neg x) = ulpW x := by
  by_cases h : fin x
  · unfold ulpW; rw [if_neg (not_not_intro h), if_neg (not_not_intro ((fin_neg x hx).2 h)), rg_neg x hx]
  · unfold ulpW; rw [if_pos h, if_pos (fun e => h ((fin_neg x hx).1 e))]
theorem ulpW_sg {x : Nat} (hf : fin x) : sg (ulpW x) = false ∧ rg (ulpW x) = ulpW x ∧ fin (ulpW x) ∧ ulpW x < 2 ^ 64 := by
  obtain ⟨_, h, _⟩ := ulpW_rg hf
  have b := INF_lt
  have e : rg (ulpW x) = ulpW x := Nat.mod_eq_of_lt (by omega)
  exact ⟨by unfold sg; rw [Nat.div_eq_of_lt (by omega)]; rfl, e, by unfold fin; rw [e]; exact h, by omega⟩
/-- the next one less the number itself -/
theorem next_diff {x : Nat} (hs : sg x = false) (hx : x < 2 ^ 64) (hf : rg x + 1 < INF) : D.sub (nxt x) x = some (ulpW x) := by
  have fx : fin x := by unfold fin; omega
  have nx : ¬ isNan x := by unfold isNan; omega
  have ex : x = rg x := sg_false hx hs
  have hp : pl x ≠ 9218868437227405312 := by rw [pl_false hs]; unfold INF at hf; omega
  obtain ⟨n1, n2, n3⟩ := nxt_num nx hp
  have ns := of_pl_nonneg (x := nxt x) (by rw [n2, pl_false hs]; omega)
  have nr : rg (nxt x) = rg x + 1 := by rw [n2, pl_false hs] at ns; omega
  have fn : fin (nxt x) := by unfold fin; rw [nr]; exact hf
  obtain ⟨u1, u2, u3⟩ := ulpW_rg fx
  have e1 : iv (nxt x) + iv (neg x) = (valR (ulpW x) : Int) := by
    rw [iv_neg hx]
    unfold iv mv
    rw [ns.1, hs, nr, valR_succ, u1]
    simp only [Bool.false_eq_true, if_false]
    generalize valR (rg x) = A
    generalize 2 ^ (rg x / 2 ^ 52 - 1) = B
    omega
  have p : 0 < valR (ulpW x) := by have := valR_lt (r := 0) (s := ulpW x) u3; rw [valR_zero] at this; exact this
  rw [sub_eq _ _ hx, add_fin _ _ fn ((fin_neg x hx).2 fx), e1, Int.natAbs_natCast]
  have e2 := rq_exact (r := ulpW x) (d := 1) u2 (by decide)
  rw [Nat.mul_one] at e2
  rw [e2, if_neg (by omega), decide_eq_false (by omega)]
  rfl
/-- Ulp grows with the size -/
theorem ulp_mono {x y : Nat} (fx : fin x) (fy : fin y) (h : rg x ≤ rg y) :
    (Go.FloatKind.f64.format.order (ulpW y) (ulpW x) == some Ordering.gt) = true ∨ ((Go.FloatKind.f64.format.order (ulpW y) (ulpW x) == some Ordering.gt) = false ∧ (Go.FloatKind.f64.format.order (ulpW y) (ulpW x) == some Ordering.eq) = true) := by
  obtain ⟨u1, u2, u3⟩ := ulpW_rg fx
  obtain ⟨v1, v2, v3⟩ := ulpW_rg fy
  obtain ⟨s1, r1, g1, _⟩ := ulpW_sg fx
  obtain ⟨s2, r2, g2, _⟩ := ulpW_sg fy
  have le : ulpW x ≤ ulpW y := by
    have : valR (ulpW x) ≤ valR (ulpW y) := by rw [u1, v1]; exact Nat.pow_le_pow_right (by decide) (by omega)
    exact valR_le_iff.1 this
  have na : ¬ isNan (ulpW x) := by unfold isNan; rw [r1]; omega
  have nb : ¬ isNan (ulpW y) := by unfold isNan; rw [r2]; omega
  have o := order_pl nb na (fun e => by rw [r1] at e; omega)
  rw [pl_false s1, pl_false s2, r1, r2] at o
  have c : (Go.FloatKind.f64.format.order (ulpW y) (ulpW x) == some Ordering.gt) = decide ((ulpW x : Int) < (ulpW y : Int)) := beq_dec o.1
  have d : (Go.FloatKind.f64.format.order (ulpW y) (ulpW x) == some Ordering.eq) = decide ((ulpW y : Int) = (ulpW x : Int)) := beq_dec o.2.2
  rw [c, d]
  by_cases l : ulpW x < ulpW y
  · exact .inl (decide_eq_true (by omega))
  · exact .inr ⟨decide_eq_false (by omega), decide_eq_true (by omega)⟩
theorem lt_max {x : Nat} (nx : ¬ isNan x) (hs : sg x = false) : (Go.FloatKind.f64.format.order x 9218868437227405311 == some Ordering.lt) = decide (rg x < 9218868437227405311) := by
  refine beq_dec ?_
  show D.order x 9218868437227405311 = some .lt ↔ _
  have p2 : pl 9218868437227405311 = 9218868437227405311 := by decide
  rw [(order_pl nx (by decide) (fun h => absurd h.2 (by decide))).2.1, p2, pl_false hs]
  omega
theorem lt_of_order {x y : Nat} (nx : ¬ isNan x) (ny : ¬ isNan y) (hs : sg x = false) (ht : sg y = false) (h : ¬ (Go.FloatKind.f64.format.order y x == some Ordering.lt) = true) : rg x ≤ rg y := by
  by_cases z : rg y = 0 ∧ rg x = 0
  · omega
  · have o := (order_pl ny nx z).2.1
    rw [pl_false hs, pl_false ht] at o
    by_cases l : rg y < rg x
    · exact absurd (by rw [beq_iff_eq]; exact o.2 (by omega)) h
    · omega
end Fl
