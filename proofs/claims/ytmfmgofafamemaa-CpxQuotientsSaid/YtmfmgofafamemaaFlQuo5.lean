/- A number by itself, and the tests of CpxQuotients. No program in sight. -/
import Derived.Test.YtmfmgofafamemaaFlQuo4
import Derived.Test.YtmfmgofafamemaaFlBits
namespace Fl
open Go

/-- the front of the scaled division by c + di, where c is the larger. -/
theorem quo_head {c d r m t : Nat} (fc : fin c) (fd : fin d) (hc : 1 / 16 ≤ av c) (hc2 : av c ≤ 16) (hd : av d ≤ av c)
    (o1 : FDiv d c r) (o2 : FMul d r m) (o3 : FAdd c m t) :
    fin r ∧ fin m ∧ fin t ∧ Bd (qv r * qv c - qv d) (uu * av c) ∧ Bd (qv r) (1 + uu) ∧ 99 / 100 * av c ≤ av t ∧ av t ≤ 4 * av c := by
  have u0 := uu_pos
  have u1 := uu_le
  have g0 : 0 < av c := by grind
  have hcpm := qv_pm c
  -- r
  obtain ⟨fr, e1⟩ := o1.err fd fc (m := av c) (qv_bd hd) (small_le (by grind)) (le_big (by grind)) (small_le (by grind)) (le_big (by grind))
  have hD : Bd (qv d) (av c) := qv_bd hd
  have hC : Bd (qv c) (av c) := qv_bd Rat.le_refl
  generalize hDD : qv d = D at *
  have hC0 : qv c ≠ 0 := by
    intro e; rw [e] at hcpm; grind
  generalize hCC : qv c = C at *
  generalize hgg : av c = g at *
  have ci : ∃ i : Rat, C * i = 1 := ⟨C⁻¹, Rat.mul_inv_cancel C hC0⟩
  obtain ⟨i, hi⟩ := ci
  have hrho : Bd (D * i) 1 := by
    refine Bd.of_mul hcpm g0 ?_
    have : D * i * C = D := by grind
    rw [this, Rat.one_mul]; exact hD
  have b1 : Bd (qv r - D * i) uu := by
    refine Bd.of_mul hcpm g0 ?_
    have : (qv r - D * i) * C = qv r * C - D := by grind
    rw [this]; exact e1
  generalize hRR : qv r = R at *
  have hR : Bd R (1 + uu) := by
    have := hrho.add b1
    have e : D * i + (R - D * i) = R := by grind
    rwa [e] at this
  -- m
  have bDR : Bd (D * R) (g * (1 + uu)) := hD.mul hR
  obtain ⟨fm, e2⟩ := o2.err fd fr (m := 2 * g) (by rw [hDD, hRR]; refine bDR.mono ?_; have := Rat.mul_le_mul_of_nonneg_left u1 (Rat.le_of_lt g0); grind) (small_le (by grind)) (le_big (by grind))
  rw [hDD, hRR] at e2
  generalize hMM : qv m = M at *
  have b2 : Bd (M * i - D * i * R) (2 * uu) := by
    refine Bd.of_mul hcpm g0 ?_
    have : (M * i - D * i * R) * C = M - D * R := by grind
    rw [this]; exact e2.mono (by grind)
  have ug : uu * g ≤ 1 / 1000000 * g := Rat.mul_le_mul_of_nonneg_right u1 (Rat.le_of_lt g0)
  have bM : Bd M (2 * g) := by
    have := bDR.add e2
    have e : D * R + (M - D * R) = M := by grind
    rw [e] at this; exact this.mono (by grind)
  -- t
  obtain ⟨ft, e3⟩ := o3.err fc fm (m := 3 * g) (by rw [hCC, hMM]; exact (hC.add bM).mono (by grind)) (small_le (by grind)) (le_big (by grind))
  rw [hCC, hMM] at e3
  generalize hTT : qv t = T at *
  have b3 : Bd (T * i - 1 - M * i) (3 * uu) := by
    refine Bd.of_mul hcpm g0 ?_
    have : (T * i - 1 - M * i) * C = T - (C + M) := by grind
    rw [this]; exact e3.mono (by grind)
  have bT : Bd T (4 * g) := by
    have := (hC.add bM).add e3
    have e : C + M + (T - (C + M)) = T := by grind
    rw [e] at this; exact this.mono (by grind)
  -- t is not small
  have sq : 0 ≤ (D * i) * (D * i) := by
    rcases Rat.le_total (a := 0) (b := D * i) with h | h
    · exact Rat.mul_nonneg h h
    · have := Rat.mul_nonneg (a := -(D * i)) (b := -(D * i)) (by grind) (by grind)
      grind
  have bt : Bd (D * i * (R - D * i)) (1 * uu) := hrho.mul b1
  have t99 : 99 / 100 ≤ T * i := by
    generalize D * i = rho at *
    have e : T * i = 1 + rho * rho + (rho * (R - rho) + (M * i - rho * R) + (T * i - 1 - M * i)) := by grind
    have := (bt.add b2).add b3
    rw [e]
    generalize rho * (R - rho) + (M * i - rho * R) + (T * i - 1 - M * i) = q at *
    grind [Bd]
  have at1 : av t ≤ 4 * g := by have : Bd (qv t) (4 * g) := by rw [hTT]; exact bT
                                exact av_le this
  have at2 : 99 / 100 * g ≤ av t := by
    have pm := qv_pm t
    rw [hTT] at pm
    have gi : g * i = 1 ∨ g * i = -1 := by rcases hcpm with h | h <;> rw [h] at hi <;> grind
    show 99 / 100 * g ≤ av t
    have n0 := av_nonneg t
    have tc : T * i * C = T := by grind
    generalize T * i = tau at *
    have k1 := Rat.mul_nonneg (a := tau - 99 / 100) (b := g) (by grind) (by grind)
    rcases hcpm with h | h <;> rw [h] at tc <;> rcases pm with p | p <;> grind
  exact ⟨fr, fm, ft, e1, hR, at2, at1⟩

theorem one_core {c d r m t m1 n1 x m2 n2 y : Nat} (f : Bool) (fc : fin c) (fd : fin d) (hd64 : d < 2 ^ 64) (hc : 1 / 16 ≤ av c) (hc2 : av c ≤ 16) (hd : av d ≤ av c)
    (o1 : FDiv d c r) (o2 : FMul d r m) (o3 : FAdd c m t) (o4 : FMul d r m1) (o5 : FAdd c m1 n1) (o6 : FDiv n1 t x)
    (o7 : FMul c r m2) (o8 : if f then FSub m2 d n2 else FSub d m2 n2) (o9 : FDiv n2 t y) :
    fin x ∧ fin y ∧ Bd (qv x - 1) uu ∧ Bd (qv y) (4 * uu) := by
  obtain ⟨fr, fm, ft, e1, hR, at2, at1⟩ := quo_head fc fd hc hc2 hd o1 o2 o3
  have u0 := uu_pos
  have u1 := uu_le
  have hu := uu_eq
  have em : m1 = m := (o4.eq (mul_fin d r fd fr)).trans (o2.eq (mul_fin d r fd fr)).symm
  subst em
  have et : n1 = t := (o5.eq (add_fin c m1 fc fm)).trans (o3.eq (add_fin c m1 fc fm)).symm
  subst et
  have tpos : 0 < av n1 := by grind
  obtain ⟨fx, e6⟩ := o6.err ft ft (m := av n1) (qv_bd Rat.le_refl) (small_le (by grind)) (le_big (by grind)) (small_le (by grind)) (le_big (by grind))
  have b6 : Bd (qv x - 1) uu := by
    refine Bd.of_mul (qv_pm n1) tpos ?_
    have e : (qv x - 1) * qv n1 = qv x * qv n1 - qv n1 := by grind
    rw [e]; exact e6
  generalize hg : av c = g at *
  have ug : uu * g ≤ 1 / 1000000 * g := Rat.mul_le_mul_of_nonneg_right u1 (by grind)
  have ug0 : uu * (1 / 16) ≤ uu * g := Rat.mul_le_mul_of_nonneg_left hc (Rat.le_of_lt u0)
  have sm : small ≤ uu * (1 / 16) := by
    have : uu = 1 / 9007199254740992 := rfl
    rw [this]; unfold small; grind
  have hC : Bd (qv c) g := qv_bd (by rw [hg]; exact Rat.le_refl)
  have hD : Bd (qv d) g := qv_bd hd
  have bCR : Bd (qv c * qv r) (2 * g) := by
    have := hC.mul hR
    refine this.mono ?_; grind
  obtain ⟨fm2, e7⟩ := o7.err fc fr (m := 2 * g) bCR (small_le (by grind)) (le_big (by grind))
  have e7' : Bd (qv d - qv m2) (3 * (uu * g)) := by
    have := (e7.add e1).neg
    have e : -(qv m2 - qv c * qv r + (qv r * qv c - qv d)) = qv d - qv m2 := by grind
    rw [e] at this; exact this.mono (by grind)
  have e8 : fin n2 ∧ Bd (qv n2) (31 / 10 * (uu * g)) := by
    have uk : uu * (3 * (uu * g)) ≤ 1 / 1000000 * (3 * (uu * g)) := Rat.mul_le_mul_of_nonneg_right u1 (by grind)
    cases f
    · rw [if_neg (by decide)] at o8
      obtain ⟨fn, e⟩ := o8.err o7.lt fd fm2 e7' (by grind) (le_big (by grind))
      have := e.add e7'
      have e2 : qv n2 - (qv d - qv m2) + (qv d - qv m2) = qv n2 := by grind
      rw [e2] at this; exact ⟨fn, this.mono (by grind)⟩
    · rw [if_pos rfl] at o8
      have e7n := e7'.neg
      have e3 : -(qv d - qv m2) = qv m2 - qv d := by grind
      rw [e3] at e7n
      obtain ⟨fn, e⟩ := o8.err hd64 fm2 fd e7n (by grind) (le_big (by grind))
      have := e.add e7n
      have e2 : qv n2 - (qv m2 - qv d) + (qv m2 - qv d) = qv n2 := by grind
      rw [e2] at this; exact ⟨fn, this.mono (by grind)⟩
  obtain ⟨fn2, bn2⟩ := e8
  obtain ⟨fy, e9⟩ := o9.err fn2 ft bn2 (by grind) (le_big (by grind)) (small_le (by grind)) (le_big (by grind))
  have uk : uu * (31 / 10 * (uu * g)) ≤ 1 / 1000000 * (31 / 10 * (uu * g)) := Rat.mul_le_mul_of_nonneg_right u1 (by grind)
  have by9 : Bd (qv y * qv n1) (32 / 10 * (uu * g)) := by
    have := e9.add bn2
    have e : qv y * qv n1 - qv n2 + qv n2 = qv y * qv n1 := by grind
    rw [e] at this; exact this.mono (by grind)
  have ut : uu * (99 / 100 * g) ≤ uu * av n1 := Rat.mul_le_mul_of_nonneg_left at2 (Rat.le_of_lt u0)
  refine ⟨fx, fy, b6, Bd.of_mul (qv_pm n1) tpos (by9.mono ?_)⟩
  grind

theorem one_back {c d x y : Nat} (pc : Plain c) (pd : Plain d) (h : DivR c d c d x y) : fin x ∧ fin y ∧ Bd (qv x - 1) uu ∧ Bd (qv y) (4 * uu) := by
  obtain ⟨c1, c2, c3, c4⟩ := pc
  obtain ⟨d1, d2, d3, d4⟩ := pd
  rcases h with ⟨g, r, m, t, m1, n1, m2, n2, o1, o2, o3, o4, o5, o6, o7, o8, o9⟩ | ⟨g, r, m, t, m1, n1, m2, n2, o1, o2, o3, o4, o5, o6, o7, o8, o9⟩
  · rw [geB_rg c d c2 d2] at g
    exact one_core false c2 d2 d1 c3 c4 (of_decide_eq_true g) o1 o2 o3 o4 o5 o6 o7 (by rw [if_neg (by decide)]; exact o8) o9
  · rw [geB_rg c d c2 d2] at g
    have g0 : ¬ av d ≤ av c := of_decide_eq_false g
    have g' : av c ≤ av d := by grind
    exact one_core true d2 c2 c1 d3 d4 g' o1 o2 o3.comm o4 o5.comm o6 o7 (by rw [if_pos rfl]; exact o8) o9
end Fl
