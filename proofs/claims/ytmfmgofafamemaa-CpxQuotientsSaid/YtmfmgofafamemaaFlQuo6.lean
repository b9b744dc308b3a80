/- The tests of CpxQuotients, as orders of words. No program in sight. -/
import Derived.Test.YtmfmgofafamemaaFlQuo5
namespace Fl
open Go

theorem fin_rg {x : Nat} (h : fin x) : fin (rg x) := by unfold fin; rw [rg_rg]; exact h
theorem av_rg (x : Nat) : av (rg x) = av x := by unfold av mv; rw [rg_rg]
theorem qv_rg (x : Nat) : qv (rg x) = av x := by rw [qv_av, sg_rg, av_rg]; rfl

theorem qv_iv {x y : Nat} (h : qv x ≤ qv y) : iv x ≤ iv y := by
  unfold qv at h
  exact Rat.intCast_le_intCast.1 (Rat.le_of_mul_le_mul_right h eta_pos)

/-- x is at most y, as the program asks. -/
theorem leq_test {x y : Nat} (fx : fin x) (fy : fin y) (h : qv x ≤ qv y) :
    (FloatKind.f64.format.order x y == some Ordering.lt || FloatKind.f64.format.order x y == some Ordering.eq) = true := by
  have e : FloatKind.f64.format.order x y = some (compare (iv x) (iv y)) := order_fin x y fx fy
  have h := qv_iv h
  rw [e]
  rcases Int.lt_or_eq_of_le h with c | c
  · rw [Int.compare_eq_lt.2 c]; rfl
  · rw [Int.compare_eq_eq.2 c]; rfl

def C46 : Nat := 4400016835940974592
def C50 : Nat := 4382002437431492608

theorem C46_val : fin C46 ∧ qv C46 = 128 * uu := by
  refine ⟨by decide, ?_⟩
  have e := eta_UN
  have hm : mv C46 * tp 46 = UN := by
    have : mv C46 = valR (977 * 2 ^ 52) := by unfold mv C46; congr 1
    rw [this, valR_bin _ (by decide), UN_tp, UE_eq, ← tp_add]
  have s : sg C46 = false := by decide
  have q : qv C46 = (mv C46 : Rat) * eta := by rw [qv_av, s]; rfl
  have hm' : (mv C46 : Rat) * 70368744177664 = (UN : Rat) := by
    have h := congrArg (fun n : Nat => (n : Rat)) hm
    simp only [Rat.natCast_mul] at h
    have : ((tp 46 : Nat) : Rat) = 70368744177664 := by rfl
    rw [this] at h; exact h
  rw [q]
  have hu := uu_eq
  generalize (mv C46 : Rat) = Y at *
  generalize (UN : Rat) = Z at *
  have : Y * eta * 70368744177664 = 1 := by rw [← e, ← hm']; grind
  grind
theorem C50_val : fin C50 ∧ qv C50 = 8 * uu := by
  refine ⟨by decide, ?_⟩
  have e := eta_UN
  have hm : mv C50 * tp 50 = UN := by
    have : mv C50 = valR (973 * 2 ^ 52) := by unfold mv C50; congr 1
    rw [this, valR_bin _ (by decide), UN_tp, UE_eq, ← tp_add]
  have s : sg C50 = false := by decide
  have q : qv C50 = (mv C50 : Rat) * eta := by rw [qv_av, s]; rfl
  have hm' : (mv C50 : Rat) * 1125899906842624 = (UN : Rat) := by
    have h := congrArg (fun n : Nat => (n : Rat)) hm
    simp only [Rat.natCast_mul] at h
    have : ((tp 50 : Nat) : Rat) = 1125899906842624 := by rfl
    rw [this] at h; exact h
  rw [q]
  have hu := uu_eq
  generalize (mv C50 : Rat) = Y at *
  generalize (UN : Rat) = Z at *
  have : Y * eta * 1125899906842624 = 1 := by rw [← e, ← hm']; grind
  grind
theorem one_val : fin 4607182418800017408 ∧ qv 4607182418800017408 = 1 := by
  refine ⟨by decide, ?_⟩
  have s : sg 4607182418800017408 = false := by decide
  rw [qv_av, s]; unfold av sgn
  rw [one_mv, if_neg (by decide), Rat.mul_comm]; exact eta_UN

theorem small_uu : small ≤ uu * (1 / 16) := by
  have : uu = 1 / 9007199254740992 := rfl
  rw [this]; unfold small; grind

/-- the size of a number: the larger part. -/
theorem size_val {a b : Nat} (pa : Plain a) (pb : Plain b) : ∃ s, fmax (rg a) (rg b) = s ∧ fin s ∧ qv s = av s ∧ av a ≤ av s ∧ av b ≤ av s ∧ 1 / 16 ≤ av s ∧ av s ≤ 16 := by
  obtain ⟨a1, a2, a3, a4⟩ := pa
  obtain ⟨b1, b2, b3, b4⟩ := pb
  have fa := fin_rg a2
  have fb := fin_rg b2
  have na : ¬ isNan (rg a) := by unfold isNan; unfold fin at fa; omega
  have nb : ¬ isNan (rg b) := by unfold isNan; unfold fin at fb; omega
  have hp := eta_pos
  have mono : ∀ u v : Nat, rg u ≤ rg v → av u ≤ av v := by
    intro u v h
    unfold av mv
    exact Rat.mul_le_mul_of_nonneg_right (Rat.natCast_le_natCast.2 (valR_le h)) (Rat.le_of_lt hp)
  have la : rg a < 2 ^ 63 := rg_lt a
  have lb : rg b < 2 ^ 63 := rg_lt b
  rcases Nat.le_total (rg a) (rg b) with h | h
  · refine ⟨rg b, ?_, fb, by rw [qv_rg, av_rg], ?_, ?_, ?_, ?_⟩
    · refine fmax_r na nb ?_
      unfold pl; rw [sg_rg, sg_rg, rg_rg, rg_rg, if_neg (by decide), if_neg (by decide)]; omega
    · rw [av_rg]; exact mono a b h
    · rw [av_rg]; exact Rat.le_refl
    · rw [av_rg]; exact b3
    · rw [av_rg]; exact b4
  · refine ⟨rg a, ?_, fa, by rw [qv_rg, av_rg], ?_, ?_, ?_, ?_⟩
    · refine fmax_l (by omega) (by omega) na nb ?_
      unfold pl; rw [sg_rg, sg_rg, rg_rg, rg_rg, if_neg (by decide), if_neg (by decide)]; omega
    · rw [av_rg]; exact Rat.le_refl
    · rw [av_rg]; exact mono b a h
    · rw [av_rg]; exact a3
    · rw [av_rg]; exact a4

theorem near_test {a X e s most : Nat} (ha : a < 2 ^ 64) (fa : fin a) (fX : fin X) (fs : fin s) (hs : qv s = av s) (s1 : 1 / 16 ≤ av s) (s2 : av s ≤ 16)
    (h : Bd (qv X - qv a) (33 * (av s * uu))) (he : FSub X a e) (hm : FMul s C46 most) :
    (FloatKind.f64.format.order (rg e) most == some Ordering.lt || FloatKind.f64.format.order (rg e) most == some Ordering.eq) = true := by
  obtain ⟨f46, v46⟩ := C46_val
  have u0 := uu_pos
  have u1 := uu_le
  have sm := small_uu
  generalize hS : av s = S at *
  have k1 : 1 / 16 * uu ≤ S * uu := Rat.mul_le_mul_of_nonneg_right s1 (Rat.le_of_lt u0)
  have k2 : S * uu ≤ S * (1 / 1000000) := Rat.mul_le_mul_of_nonneg_left u1 (by grind)
  obtain ⟨fe, e1⟩ := he.err ha fX fa h (by grind) (le_big (by grind))
  have p : qv s * qv C46 = 128 * (S * uu) := by rw [hs, v46]; grind
  obtain ⟨fm, e2⟩ := hm.err fs f46 (m := 128 * (S * uu)) (by rw [p]; exact ⟨by grind, by grind⟩) (by grind) (le_big (by grind))
  rw [p] at e2
  generalize S * uu = k at *
  have q1 : uu * (33 * k) ≤ 1 / 1000000 * (33 * k) := Rat.mul_le_mul_of_nonneg_right u1 (by grind)
  have q2 : uu * (128 * k) ≤ 1 / 1000000 * (128 * k) := Rat.mul_le_mul_of_nonneg_right u1 (by grind)
  have b : Bd (qv e) (34 * k) := by
    have := e1.add h
    have e : qv e - (qv X - qv a) + (qv X - qv a) = qv e := by grind
    rw [e] at this; exact this.mono (by grind)
  refine leq_test (fin_rg fe) fm ?_
  rw [qv_rg]
  have := av_le b
  have g : 127 * k ≤ qv most := by
    generalize uu * (128 * k) = z at *
    generalize qv most = mm at *
    grind [Bd]
  grind

theorem one_test {x e : Nat} (fx : fin x) (h : Bd (qv x - 1) uu) (he : FSub x 4607182418800017408 e) :
    (FloatKind.f64.format.order (rg e) C50 == some Ordering.lt || FloatKind.f64.format.order (rg e) C50 == some Ordering.eq) = true := by
  obtain ⟨f50, v50⟩ := C50_val
  obtain ⟨f1, v1⟩ := one_val
  have u0 := uu_pos
  have u1 := uu_le
  have sm := small_uu
  obtain ⟨fe, e1⟩ := he.err (by decide) fx f1 (m := uu) (by rw [v1]; exact h) (by grind) (le_big (by grind))
  rw [v1] at e1
  have q : uu * uu ≤ 1 / 1000000 * uu := Rat.mul_le_mul_of_nonneg_right u1 (by grind)
  have b : Bd (qv e) (2 * uu) := by
    have := e1.add h
    have e : qv e - (qv x - 1) + (qv x - 1) = qv e := by grind
    rw [e] at this; exact this.mono (by grind)
  refine leq_test (fin_rg fe) f50 ?_
  rw [qv_rg, v50]
  have := av_le b
  grind
theorem zero_test {y : Nat} (fy : fin y) (h : Bd (qv y) (4 * uu)) :
    (FloatKind.f64.format.order (rg y) C50 == some Ordering.lt || FloatKind.f64.format.order (rg y) C50 == some Ordering.eq) = true := by
  obtain ⟨f50, v50⟩ := C50_val
  have u0 := uu_pos
  refine leq_test (fin_rg fy) f50 ?_
  rw [qv_rg, v50]
  have := av_le h
  grind
end Fl
