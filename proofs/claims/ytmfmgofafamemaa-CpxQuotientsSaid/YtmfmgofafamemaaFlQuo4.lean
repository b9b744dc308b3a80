/- The parts of CpxQuotients are plain, and its tests are passed. No program in sight. -/
import Derived.Test.YtmfmgofafamemaaFlQuo3
import Derived.Test.YtmfmgofafamemaaFlInt
import Derived.Test.YtmfmgofafamemaaFlHalf
import Derived.Test.YtmfmgofafamemaaFlLd
namespace Fl
open Go

theorem valR_bin (k : Nat) (h : 1 ≤ k) : valR (k * 2 ^ 52) = tp (52 + (k - 1)) := valR_binade h

theorem valR_one : valR (1023 * 2 ^ 52) = UN := by rw [valR_bin _ (by decide), UN_tp, UE_eq]
theorem valR_two : valR (1024 * 2 ^ 52) = UN * 2 := by
  rw [valR_bin _ (by decide), UN_tp, UE_eq]
  have : (52 + (1024 - 1)) = 1074 + 1 := by decide
  rw [this, tp_add, show tp 1 = 2 by decide]

/-- 1 + f / 2^52 lies between 1 and 2. -/
theorem one_more {xf q v : Nat} {f : Int} (hf : IsI xf f) (h0 : 0 ≤ f) (h1 : f ≤ 4503599627370496) (hs : sg xf = false)
    (hq : FDiv xf 4841369599423283200 q) (hv : FAdd 4607182418800017408 q v) : 1023 * 2 ^ 52 ≤ v ∧ v ≤ 1024 * 2 ^ 52 := by
  have fC : fin 4841369599423283200 := by decide
  have hC : mv 4841369599423283200 = tp 52 * UN := by
    have : mv 4841369599423283200 = valR (1075 * 2 ^ 52) := by unfold mv; congr 1
    rw [this, valR_bin _ (by decide), UN_tp, UE_eq, ← tp_add]
  have p := tp_pos 52
  have u := UN_pos
  have e1 := hq.eq (div_fin xf _ hf.1 fC (by rw [hC]; exact Nat.ne_of_gt (Nat.mul_pos p u)))
  have hm := hf.mv
  have le1 : rungQ (mv xf * UN) (mv 4841369599423283200) ≤ 1023 * 2 ^ 52 := by
    refine rungQ_le (by rw [hC]; exact Nat.mul_pos p u) ?_
    rw [valR_one, hC, hm, Nat.mul_comm UN]
    refine Nat.mul_le_mul_right _ (Nat.mul_le_mul_right _ ?_)
    have : tp 52 = 4503599627370496 := by decide
    omega
  have hlt : rungQ (mv xf * UN) (mv 4841369599423283200) < INF := Nat.lt_of_le_of_lt le1 (by decide)
  have er : rq (mv xf * UN) (mv 4841369599423283200) = rungQ (mv xf * UN) (mv 4841369599423283200) := Nat.min_eq_left (Nat.le_of_lt hlt)
  have hsg : (sg xf ^^ sg 4841369599423283200) = false := by rw [hs]; decide
  rw [er, hsg] at e1
  generalize rungQ (mv xf * UN) (mv 4841369599423283200) = r at *
  obtain ⟨fq, sq, mq⟩ : fin q ∧ sg q = false ∧ mv q = valR r := by
    rw [e1]
    have h63 : r < 2 ^ 63 := Nat.lt_trans hlt INF_lt
    exact ⟨by unfold fin; rw [rg_wd _ _ h63]; exact hlt, sg_wd _ _ h63, by unfold mv; rw [rg_wd _ _ h63]⟩
  have f1 : fin 4607182418800017408 := by decide
  have e2 := hv.eq (add_fin _ q f1 fq)
  have i1 : iv 4607182418800017408 = (UN : Int) := by
    unfold iv; rw [show sg 4607182418800017408 = false by decide, one_mv]; rfl
  have iq : iv q = (mv q : Int) := by unfold iv; rw [sq]; rfl
  rw [i1, iq] at e2
  have hle : mv q ≤ UN := by rw [mq, ← valR_one]; exact valR_le le1
  have en : ((UN : Int) + (mv q : Int)).natAbs = UN + mv q := by omega
  rw [en, if_neg (by omega), decide_eq_false (by omega)] at e2
  have lo : 1023 * 2 ^ 52 ≤ rungQ (UN + mv q) 1 := le_rungQ (by decide) (by rw [valR_one]; omega)
  have hi : rungQ (UN + mv q) 1 ≤ 1024 * 2 ^ 52 := rungQ_le (by decide) (by rw [valR_two]; omega)
  have e3 : rq (UN + mv q) 1 = rungQ (UN + mv q) 1 := Nat.min_eq_left (Nat.le_trans hi (by decide))
  have e4 : wd false (rungQ (UN + mv q) 1) = rungQ (UN + mv q) 1 := rfl
  rw [e3, e4] at e2
  rw [e2]; exact ⟨lo, hi⟩

theorem plain_of {x : Nat} (h : x < 2 ^ 64) (h1 : 1019 * 2 ^ 52 ≤ rg x) (h2 : rg x ≤ 1027 * 2 ^ 52) : Plain x := by
  have hp := eta_pos
  have e := eta_UN
  have l1 := valR_le h1
  have l2 := valR_le h2
  have t1 : valR (1019 * 2 ^ 52) * 16 = UN := by
    rw [valR_bin _ (by decide), UN_tp, UE_eq]
    have : 1074 = (52 + (1019 - 1)) + 4 := by decide
    rw [this, tp_add (52 + (1019 - 1)) 4, show tp 4 = 16 by decide]
  have t2 : valR (1027 * 2 ^ 52) = UN * 16 := by
    rw [valR_bin _ (by decide), UN_tp, UE_eq]
    have : (52 + (1027 - 1)) = 1074 + 4 := by decide
    rw [this, tp_add, show tp 4 = 16 by decide]
  have m1 : UN ≤ mv x * 16 := by unfold mv; omega
  have m2 : mv x ≤ UN * 16 := by unfold mv; omega
  have k1 := Rat.mul_le_mul_of_nonneg_right (Rat.natCast_le_natCast.2 m1) (Rat.le_of_lt hp)
  have k2 := Rat.mul_le_mul_of_nonneg_right (Rat.natCast_le_natCast.2 m2) (Rat.le_of_lt hp)
  rw [Rat.natCast_mul] at k1 k2
  have c16 : ((16 : Nat) : Rat) = 16 := rfl
  rw [c16] at k1 k2
  refine ⟨h, Nat.lt_of_le_of_lt h2 (by decide), ?_, ?_⟩
  · unfold av; generalize (UN : Rat) = Z at *; generalize (mv x : Rat) = Y at *; grind
  · unfold av; generalize (UN : Rat) = Z at *; generalize (mv x : Rat) = Y at *; grind

theorem Plain.neg {x : Nat} (h : Plain x) : Plain (Fl.neg x) := by
  obtain ⟨a, b, c, d⟩ := h
  have e : av (Fl.neg x) = av x := by unfold av; rw [mv_neg x a]
  exact ⟨neg_lt x a, (fin_neg x a).2 b, by rw [e]; exact c, by rw [e]; exact d⟩

theorem ldx_plain {v : Nat} {k : Int} (h1 : 1023 * 2 ^ 52 ≤ v) (h2 : v ≤ 1024 * 2 ^ 52) (k1 : -4 ≤ k) (k2 : k ≤ 3) : Plain (ldx v k) := by
  have e : rg v = v := by unfold rg; omega
  have s : sg v = false := by unfold sg; have : v / 2 ^ 63 = 0 := by omega
                              rw [this]; rfl
  have x : ldx v k = ((v : Int) + k * 4503599627370496).toNat := by unfold ldx; rw [e, s]; rfl
  refine plain_of (by rw [x]; omega) ?_ ?_
  · rw [x]; unfold rg; omega
  · rw [x]; unfold rg; omega
end Fl
