/- Words that are whole numbers: sums, differences and products of them that stay below 2^53 are exact. -/
import Derived.Test.YtmfmgofafamemaaFlBits
namespace Fl
open Ieee

/-- x is the whole number m. -/
def IsI (x : Nat) (m : Int) : Prop := fin x ∧ iv x = m * (UN : Int) ∧ x < 2 ^ 64

theorem exists_rung (k : Nat) (hk : k ≤ 2 ^ 53) : ∃ r, r < INF ∧ valR r = k * UN := by
  have hU := UE_eq
  by_cases h0 : k = 0
  · subst h0; exact ⟨0, by decide, by simp [valR_zero]⟩
  · by_cases h53 : k = 2 ^ 53
    · refine ⟨UE * 2 ^ 52 + 2 ^ 53, by unfold INF; omega, ?_⟩
      rw [valR_mk _ _ (by omega) (.inr (by omega)), h53, UN_def]
    · have hl := log2_lt_pow (n := k) (k := 52) (by omega)
      have a := pow_log2_le h0
      have b := lt_log2_pow k
      generalize hlg : k.log2 = l at *
      refine ⟨(UE - 52 + l) * 2 ^ 52 + k * 2 ^ (52 - l), ?_, ?_⟩
      · have : k * 2 ^ (52 - l) < 2 ^ (l + 1) * 2 ^ (52 - l) := (Nat.mul_lt_mul_right (Nat.two_pow_pos _)).2 b
        rw [← Nat.pow_add] at this
        have e : l + 1 + (52 - l) = 53 := by omega
        rw [e] at this
        unfold INF; omega
      · have h1 : k * 2 ^ (52 - l) < 2 ^ 53 := by
          have : k * 2 ^ (52 - l) < 2 ^ (l + 1) * 2 ^ (52 - l) := (Nat.mul_lt_mul_right (Nat.two_pow_pos _)).2 b
          rw [← Nat.pow_add] at this
          have e : l + 1 + (52 - l) = 53 := by omega
          rwa [e] at this
        have h2 : 2 ^ 52 ≤ k * 2 ^ (52 - l) := by
          have : 2 ^ l * 2 ^ (52 - l) ≤ k * 2 ^ (52 - l) := Nat.mul_le_mul_right _ a
          rw [← Nat.pow_add] at this
          have e : l + (52 - l) = 52 := by omega
          rwa [e] at this
        rw [valR_mk _ _ (by omega) (.inr h2), Nat.mul_assoc, ← Nat.pow_add, UN_def]
        have e : 52 - l + (UE - 52 + l) = UE := by omega
        rw [e]

theorem rq_exact {r d : Nat} (hr : r < INF) (hd : 0 < d) : rq (valR r * d) d = r := by
  unfold rq
  rw [rungQ_valR r d hd, Nat.min_eq_left (by omega)]

theorem INF_63 : INF < 2 ^ 63 := by decide

/-- a word set together of a sign and a rung below infinity's -/
theorem fin_wd {s : Bool} {r : Nat} (h : r < INF) : fin (wd s r) := by
  unfold fin; rw [rg_wd s r (by have := INF_63; omega)]; exact h
theorem mv_wd {s : Bool} {r : Nat} (h : r < INF) : mv (wd s r) = valR r := by
  unfold mv; rw [rg_wd s r (by have := INF_63; omega)]
theorem iv_wd {s : Bool} {r : Nat} (h : r < INF) : iv (wd s r) = if s then -(valR r : Int) else (valR r : Int) := by
  unfold iv; rw [sg_wd s r (by have := INF_63; omega), mv_wd h]

theorem IsI.of_wd {s : Bool} {k : Nat} (hk : k ≤ 2 ^ 53) {m : Int} (hm : m = if s then -(k : Int) else (k : Int)) (n d : Nat) (hd : 0 < d) (hn : n = k * UN * d) : IsI (wd s (rq n d)) m := by
  obtain ⟨r, hr, hv⟩ := exists_rung k hk
  rw [hn, ← hv, rq_exact hr hd]
  refine ⟨fin_wd hr, ?_, wd_lt _ _ (by have := INF_63; omega)⟩
  rw [iv_wd hr, hv, hm]
  cases s
  · simp
  · simp [Int.neg_mul]

theorem iv_natAbs (x : Nat) : (iv x).natAbs = mv x := by unfold iv; split <;> omega

theorem IsI.mv {x : Nat} {m : Int} (h : IsI x m) : mv x = m.natAbs * UN := by
  have := congrArg Int.natAbs h.2.1
  rw [iv_natAbs, Int.natAbs_mul, Int.natAbs_natCast] at this
  exact this
theorem IsI.sg {x : Nat} {m : Int} (h : IsI x m) (h0 : m ≠ 0) : sg x = decide (m < 0) := by
  have e := h.2.1
  have hU : (0 : Int) < UN := by have := UN_pos; omega
  unfold iv at e
  cases hs : Fl.sg x
  · rw [hs] at e
    simp only [Bool.false_eq_true, if_false] at e
    have : 0 ≤ m := by
      by_cases c : 0 ≤ m
      · exact c
      · have := Int.mul_neg_of_neg_of_pos (a := m) (b := UN) (by omega) hU
        omega
    rw [decide_eq_false (by omega)]
  · rw [hs] at e
    simp only [if_true] at e
    have : m < 0 := by
      by_cases c : m < 0
      · exact c
      · have := Int.mul_pos (a := m) (b := UN) (by omega) hU
        omega
    rw [decide_eq_true this]

theorem IsI.add {x y r : Nat} {m n : Int} (hx : IsI x m) (hy : IsI y n) (h : FAdd x y r) (hb : (m + n).natAbs ≤ 2 ^ 53) : IsI r (m + n) := by
  have e := h.eq (add_fin x y hx.1 hy.1)
  have ev : iv x + iv y = (m + n) * (UN : Int) := by rw [hx.2.1, hy.2.1, Int.add_mul]
  have hU : (0 : Int) < UN := by have := UN_pos; omega
  rw [e, ev]
  refine IsI.of_wd hb ?_ _ 1 (by omega) (by rw [Int.natAbs_mul, Int.natAbs_natCast, Nat.mul_one])
  by_cases c : m + n = 0
  · rw [c]; simp
  · have c1 : (m + n) * (UN : Int) ≠ 0 := by
      intro h; rcases Int.mul_eq_zero.1 h with h | h <;> omega
    rw [if_neg c1]
    by_cases d : m + n < 0
    · have : (m + n) * (UN : Int) < 0 := Int.mul_neg_of_neg_of_pos d hU
      rw [decide_eq_true this]; simp; omega
    · have : ¬ (m + n) * (UN : Int) < 0 := by
        have := Int.mul_pos (a := m + n) (b := UN) (by omega) hU
        omega
      rw [decide_eq_false this]; simp; omega

theorem iv_neg {x : Nat} (h : x < 2 ^ 64) : iv (neg x) = - iv x := by
  unfold iv mv
  rw [sg_neg x h, rg_neg x h]
  cases sg x <;> simp
theorem IsI.neg {x : Nat} {m : Int} (hx : IsI x m) : IsI (neg x) (-m) :=
  ⟨(fin_neg x hx.2.2).2 hx.1, by rw [iv_neg hx.2.2, hx.2.1, Int.neg_mul], neg_lt x hx.2.2⟩
theorem IsI.sub {x y r : Nat} {m n : Int} (hx : IsI x m) (hy : IsI y n) (h : FSub x y r) (hb : (m - n).natAbs ≤ 2 ^ 53) : IsI r (m - n) :=
  IsI.add hx hy.neg (h.add hy.2.2) hb

theorem IsI.mul {x y r : Nat} {m n : Int} (hx : IsI x m) (hy : IsI y n) (h : FMul x y r) (hb : (m * n).natAbs ≤ 2 ^ 53) : IsI r (m * n) := by
  have e := h.eq (mul_fin x y hx.1 hy.1)
  rw [e, hx.mv, hy.mv]
  refine IsI.of_wd hb ?_ _ UN UN_pos (by rw [Int.natAbs_mul]; generalize UN = U; ac_rfl)
  by_cases c : m = 0
  · subst c; simp
  · by_cases d : n = 0
    · subst d; simp
    · rw [hx.sg c, hy.sg d]
      by_cases a : m < 0 <;> by_cases b : n < 0
      · have : 0 < m * n := Int.mul_pos_of_neg_of_neg a b
        simp [a, b]; omega
      · have : m * n < 0 := Int.mul_neg_of_neg_of_pos a (by omega)
        simp [a, b]; omega
      · have : m * n < 0 := Int.mul_neg_of_pos_of_neg (by omega) b
        simp [a, b]; omega
      · have : 0 < m * n := Int.mul_pos (by omega) (by omega)
        simp [a, b]; omega

/-- the float of a whole number -/
theorem IsI.ofInt (m : Int) (hb : m.natAbs ≤ 2 ^ 53) : IsI (Go.floatOfInt .f64 m) m := by
  have e : Go.floatOfInt .f64 m = D.nearest (decide (m < 0)) m.natAbs 0 := rfl
  rw [e, nearest_wd]
  have hU := UE_eq
  refine IsI.of_wd hb ?_ _ _ (Nat.two_pow_pos _) ?_
  · by_cases c : m < 0 <;> simp [c] <;> omega
  · have e1 : (-1074 - (0 : Int)).toNat = 0 := by decide
    have e2 : ((0 : Int) + 1074).toNat = UE := by decide
    rw [e1, e2, Nat.pow_zero, Nat.mul_one, UN_def]

theorem iv_zero : iv 0 = 0 := by decide
theorem IsI.zero : IsI 0 0 := ⟨by decide, by rw [iv_zero, Int.zero_mul], by decide⟩

theorem IsI.order {x y : Nat} {m n : Int} (hx : IsI x m) (hy : IsI y n) : D.order x y = some (compare m n) := by
  rw [order_fin x y hx.1 hy.1, hx.2.1, hy.2.1, compare_mul_pos]
  have := UN_pos; omega
theorem IsI.eqB {x y : Nat} {m : Int} (hx : IsI x m) (hy : IsI y m) : Go.FloatKind.f64.format.order x y = some Ordering.eq := by
  have e : Go.FloatKind.f64.format = D := rfl
  rw [e, hx.order hy, Int.compare_eq_eq.2 rfl]

theorem cut_zero (neg : Bool) (n drop : Nat) : Toward.zero.cut neg n drop = n / 2 ^ drop := by
  unfold Toward.cut
  simp only [Nat.one_shiftLeft, Bool.toNat_false, Nat.add_zero]
  by_cases h : drop ≤ n.log2 + 2
  · rw [Nat.min_eq_left h]
  · rw [Nat.min_eq_right (by omega)]
    have h1 := lt_log2_pow n
    have h2 : 2 ^ (n.log2 + 1) ≤ 2 ^ (n.log2 + 2) := Nat.pow_le_pow_right (by omega) (by omega)
    have h3 : 2 ^ (n.log2 + 2) ≤ 2 ^ drop := Nat.pow_le_pow_right (by omega) (by omega)
    rw [Nat.div_eq_of_lt (by omega), Nat.div_eq_of_lt (by omega)]

/-- int64 of a whole number is it -/
theorem IsI.toInt {x : Nat} {m : Int} (h : IsI x m) (hb : m.natAbs < 2 ^ 63) : Go.floatToIntVal .f64 x .i64 = some m := by
  obtain ⟨k, i, er, hi, hk, _⟩ := read_fin x h.1
  have hv := h.mv
  have hU := UE_eq
  have e0 : Go.FloatKind.f64.decode x = D.read x := rfl
  have key : Toward.zero.cut (Fl.sg x) (k <<< i.toNat) (-i).toNat = m.natAbs := by
    rw [cut_zero, Nat.shiftLeft_eq]
    rw [hv] at hk
    by_cases c : 0 ≤ i
    · have e1 : (-i).toNat = 0 := by omega
      rw [e1, Nat.pow_zero, Nat.div_one]
      have e2 : (i + 1074).toNat = i.toNat + UE := by omega
      rw [e2, Nat.pow_add, ← UN_def, ← Nat.mul_assoc] at hk
      exact Nat.mul_right_cancel UN_pos hk
    · have e1 : i.toNat = 0 := by omega
      rw [e1, Nat.pow_zero, Nat.mul_one]
      have e2 : 2 ^ (i + 1074).toNat * 2 ^ (-i).toNat = UN := by
        rw [← Nat.pow_add, UN_def]; congr 1; omega
      have hp := Nat.two_pow_pos (i + 1074).toNat
      have : k = m.natAbs * 2 ^ (-i).toNat := by
        rw [← e2] at hk
        have : k * 2 ^ (i + 1074).toNat = (m.natAbs * 2 ^ (-i).toNat) * 2 ^ (i + 1074).toNat := by rw [hk]; ac_rfl
        exact Nat.mul_right_cancel hp this
      rw [this, Nat.mul_div_cancel _ (Nat.two_pow_pos _)]
  have hs : signed (Fl.sg x) m.natAbs 0 = m := by
    rw [signed_eq]
    by_cases c : m = 0
    · subst c; simp
    · rw [h.sg c]
      by_cases a : m < 0 <;> simp [a] <;> omega
  unfold Go.floatToIntVal
  rw [e0, er]
  simp only [Datum.toInt, Datum.integral, key, hs]
  have hmin : Go.IntKind.i64.min = -9223372036854775808 := by decide
  have hmax : Go.IntKind.i64.max = 9223372036854775807 := by decide
  rw [if_pos ⟨by rw [hmin]; omega, by rw [hmax]; omega⟩]
end Fl
