/- The word 1 + f / 2^52 as the walk reckons it. No program in sight. -/
import Derived.Test.YtmfmgofafamemaaFlQuo6
import Derived.Test.YtmfmgofafamemaaFlWalk
namespace Fl
open Go

theorem sg_ofInt (f : Nat) (hf : f < 4503599627370496) : sg (floatOfInt .f64 (f : Int)) = false := by
  by_cases h : f = 0
  · subst h; decide
  · have := (IsI.ofInt (f : Int) (by omega)).sg (by omega)
    rw [this, decide_eq_false (by omega)]

theorem part_runs (f : Nat) (hf : f < 4503599627370496) : ∃ q v,
    (∀ (P : Program) (w : World) (t : TypeId), (binOp .quo t (.float .f64 (floatOfInt .f64 (f : Int))) (.float .f64 4841369599423283200)).run P w = .ok (.float .f64 q) w) ∧
    (∀ (P : Program) (w : World) (t : TypeId), (binOp .add t (.float .f64 4607182418800017408) (.float .f64 q)).run P w = .ok (.float .f64 v) w) ∧
    1023 * 2 ^ 52 ≤ v ∧ v ≤ 1024 * 2 ^ 52 := by
  have hI := IsI.ofInt (f : Int) (by omega)
  have hs := sg_ofInt f hf
  generalize floatOfInt .f64 (f : Int) = xf at *
  have fC : fin 4841369599423283200 := by decide
  have hC : mv 4841369599423283200 ≠ 0 := by
    have : mv 4841369599423283200 = valR (1075 * 2 ^ 52) := by unfold mv; congr 1
    rw [this, valR_bin _ (by decide)]
    exact Nat.ne_of_gt (tp_pos _)
  have e1 := div_fin xf _ hI.1 fC hC
  obtain ⟨q, e1⟩ : ∃ q, D.div xf 4841369599423283200 = some q := ⟨_, e1⟩
  have hq : FDiv xf 4841369599423283200 q := by unfold FDiv; rw [e1]; rfl
  have fq : fin q := by
    have e2 := hq.eq (div_fin xf _ hI.1 fC hC)
    have p := tp_pos 52
    have u := UN_pos
    have hC' : mv 4841369599423283200 = tp 52 * UN := by
      have : mv 4841369599423283200 = valR (1075 * 2 ^ 52) := by unfold mv; congr 1
      rw [this, valR_bin _ (by decide), UN_tp, UE_eq, ← tp_add]
    have le1 : rungQ (mv xf * UN) (mv 4841369599423283200) ≤ 1023 * 2 ^ 52 := by
      refine rungQ_le (by rw [hC']; exact Nat.mul_pos p u) ?_
      rw [valR_one, hC', hI.mv, Nat.mul_comm UN]
      refine Nat.mul_le_mul_right _ (Nat.mul_le_mul_right _ ?_)
      have : tp 52 = 4503599627370496 := by decide
      omega
    have hlt : rungQ (mv xf * UN) (mv 4841369599423283200) < INF := Nat.lt_of_le_of_lt le1 (by decide)
    rw [e2]
    unfold fin; rw [rg_wd _ _ (rq_lt _ _)]
    exact Nat.lt_of_le_of_lt (Nat.min_le_left ..) hlt
  have f1 : fin 4607182418800017408 := by decide
  obtain ⟨v, e2⟩ : ∃ v, D.add 4607182418800017408 q = some v := ⟨_, add_fin _ q f1 fq⟩
  have hv : FAdd 4607182418800017408 q v := by unfold FAdd; rw [e2]; rfl
  obtain ⟨l, h⟩ := one_more hI (by omega) (by omega) hs hq hv
  exact ⟨q, v, fun P w t => run_float_arith w .quo t .f64 xf _ q e1, fun P w t => run_float_arith w .add t .f64 _ q v e2, l, h⟩
end Fl
