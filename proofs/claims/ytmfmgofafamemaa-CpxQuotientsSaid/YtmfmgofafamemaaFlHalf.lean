/- Halves, distances and powers of two among floats. -/
import Derived.Test.YtmfmgofafamemaaFlPl
import Derived.Test.YtmfmgofafamemaaFlInt
namespace Fl
open Go Ieee

theorem two_mv : mv 4611686018427387904 = 2 * UN := by
  have h := IsI.ofInt 2 (by decide)
  rw [show Go.floatOfInt .f64 2 = 4611686018427387904 by decide +kernel] at h
  have e := h.mv
  rw [show (2 : Int).natAbs = 2 from rfl] at e
  exact e
theorem two_fin : fin 4611686018427387904 := by decide

theorem valR_half {r : Nat} (h : 2 ^ 53 ≤ r) : valR r = 2 * valR (r - 2 ^ 52) := by
  unfold valR
  rw [if_neg (by omega), if_neg (by omega)]
  have e1 : (r - 2 ^ 52) % 2 ^ 52 = r % 2 ^ 52 := by omega
  have e2 : r / 2 ^ 52 - 1 = ((r - 2 ^ 52) / 2 ^ 52 - 1) + 1 := by omega
  rw [e1, e2]
  generalize (r - 2 ^ 52) / 2 ^ 52 - 1 = a
  generalize 2 ^ 52 + r % 2 ^ 52 = m
  rw [@Nat.pow_succ 2 a, Nat.mul_comm (2 ^ a) 2, Nat.mul_left_comm]

theorem half_one {x : Nat} (hf : fin x) (h : 2 ^ 53 ≤ rg x) : D.div x 4611686018427387904 = some (wd (sg x) (rg x - 2 ^ 52)) := by
  rw [div_fin x _ hf two_fin (by rw [two_mv]; have := UN_pos; omega), two_mv]
  have s2 : sg 4611686018427387904 = false := by decide
  rw [s2, Bool.xor_false]
  have e : mv x * UN = valR (rg x - 2 ^ 52) * (2 * UN) := by
    show valR (rg x) * UN = _
    rw [valR_half h, Nat.mul_comm 2 (valR _), Nat.mul_assoc]
  have := rq_exact (r := rg x - 2 ^ 52) (d := 2 * UN) (by unfold fin at hf; omega) (by have := UN_pos; omega)
  rw [e, this]

theorem same_sum (s zz : Bool) (A B : Nat) (h : 0 < A) :
    (if (if s = true then -(A : Int) else (A : Int)) + (if s = true then -(B : Int) else (B : Int)) = 0 then zz
      else decide ((if s = true then -(A : Int) else (A : Int)) + (if s = true then -(B : Int) else (B : Int)) < 0)) = s ∧
    ((if s = true then -(A : Int) else (A : Int)) + (if s = true then -(B : Int) else (B : Int))).natAbs = A + B := by
  cases s
  · simp only [Bool.false_eq_true, if_false]; rw [if_neg (by omega)]; exact ⟨decide_eq_false (by omega), by omega⟩
  · simp only [if_true]; rw [if_neg (by omega)]; exact ⟨decide_eq_true (by omega), by omega⟩
theorem mid_rung {r q A B : Nat} (hr : q = r + 1 ∨ r = q + 1) (va : valR r = 2 * A) (vb : valR q = 2 * B) : rungQ (A + B) 1 = r ∨ rungQ (A + B) 1 = q := by
  rcases hr with e | e
  · have lt : valR r < valR q := valR_lt (by omega)
    have a := le_rungQ (n := A + B) (d := 1) (r := r) (by omega) (by omega)
    have b := rungQ_le (n := A + B) (d := 1) (r := q) (by omega) (by omega)
    omega
  · have lt : valR q < valR r := valR_lt (by omega)
    have a := le_rungQ (n := A + B) (d := 1) (r := q) (by omega) (by omega)
    have b := rungQ_le (n := A + B) (d := 1) (r := r) (by omega) (by omega)
    omega
theorem half_law {x u : Nat} (hx : x < 2 ^ 64) (hu : u < 2 ^ 64) (fx : fin x) (fu : fin u) (hs : sg u = sg x)
    (hr : rg u = rg x + 1 ∨ rg x = rg u + 1) (bx : 2 ^ 53 ≤ rg x) (bu : 2 ^ 53 ≤ rg u) :
    ∃ h1 h2 hf, D.div x 4611686018427387904 = some h1 ∧ D.div u 4611686018427387904 = some h2 ∧ D.add h1 h2 = some hf ∧ (hf = x ∨ hf = u) := by
  have nx : rg x - 2 ^ 52 < INF := Nat.lt_of_le_of_lt (Nat.sub_le _ _) fx
  have nu : rg u - 2 ^ 52 < INF := Nat.lt_of_le_of_lt (Nat.sub_le _ _) fu
  have p1 : 0 < valR (rg x - 2 ^ 52) := by have := valR_lt (r := 0) (s := rg x - 2 ^ 52) (by omega); rw [valR_zero] at this; exact this
  have key := mid_rung hr (valR_half bx) (valR_half bu)
  have ss := fun zz => same_sum (sg x) zz _ (valR (rg u - 2 ^ 52)) p1
  refine ⟨_, _, _, half_one fx bx, half_one fu bu, add_fin _ _ (fin_wd nx) (fin_wd nu), ?_⟩
  rw [iv_wd nx, iv_wd nu, hs, (ss _).1, (ss false).2]
  unfold rq
  have e1 := wd_sg_rg x hx
  have e2 := wd_sg_rg u hu
  rcases key with k | k
  · left; rw [k, Nat.min_eq_left (Nat.le_of_lt fx)]; exact e1
  · right; rw [k, Nat.min_eq_left (Nat.le_of_lt fu), ← hs]; exact e2

theorem valR_pow {k : Nat} (h : k < 52) : valR (2 ^ k) = 2 ^ k := by
  unfold valR; rw [if_pos (Nat.pow_lt_pow_right (by decide) h)]
theorem valR_binade {k : Nat} (h : 1 ≤ k) : valR (k * 2 ^ 52) = 2 ^ (52 + (k - 1)) := by
  unfold valR
  rw [if_neg (by omega), Nat.mul_mod_left, Nat.mul_div_cancel _ (by decide), Nat.add_zero, ← Nat.pow_add]
theorem valR_succ (r : Nat) : valR (r + 1) = valR r + 2 ^ (r / 2 ^ 52 - 1) := by
  unfold valR
  by_cases h : r < 2 ^ 52
  · rw [if_pos h, Nat.div_eq_of_lt h]
    by_cases g : r + 1 < 2 ^ 52
    · rw [if_pos g]
    · have : r + 1 = 2 ^ 52 := by omega
      rw [if_neg g, this]
  · rw [if_neg h, if_neg (by omega)]
    by_cases g : r % 2 ^ 52 + 1 < 2 ^ 52
    · have e1 : (r + 1) % 2 ^ 52 = r % 2 ^ 52 + 1 := by omega
      have e2 : (r + 1) / 2 ^ 52 = r / 2 ^ 52 := by omega
      rw [e1, e2, ← Nat.add_assoc, Nat.add_mul, Nat.one_mul]
    · have e1 : (r + 1) % 2 ^ 52 = 0 := by omega
      have e2 : (r + 1) / 2 ^ 52 - 1 = (r / 2 ^ 52 - 1) + 1 := by omega
      have e3 : 2 ^ 52 + r % 2 ^ 52 = 2 ^ 53 - 1 := by omega
      rw [e1, e2, e3]
      generalize r / 2 ^ 52 - 1 = a
      rw [@Nat.pow_succ 2 a]
      generalize 2 ^ a = q
      omega
theorem ulpW_rg {x : Nat} (hf : fin x) : valR (ulpW x) = 2 ^ (rg x / 2 ^ 52 - 1) ∧ ulpW x < INF ∧ 0 < ulpW x := by
  unfold ulpW
  rw [if_neg (not_not_intro hf)]
  unfold fin INF at hf
  split
  · rename_i h
    have b : 2 ^ (rg x / 2 ^ 52 - 1) < 2 ^ 52 := Nat.pow_lt_pow_right (by decide) (by omega)
    refine ⟨valR_pow (by omega), by unfold INF; omega, Nat.two_pow_pos _⟩
  · rename_i h
    refine ⟨?_, by unfold INF; omega, by omega⟩
    rw [valR_binade (by omega)]
    congr 1
    omega
theorem of_pl_nonneg {x : Nat} (h : 0 ≤ pl x) : sg x = false ∧ (rg x : Int) = pl x := by
  cases hs : sg x
  · exact ⟨rfl, (pl_false hs).symm⟩
  · rw [pl_true hs] at h; omega
theorem of_pl_neg {x : Nat} (h : pl x < 0) : sg x = true ∧ (rg x : Int) = -1 - pl x := by
  have hs := (pl_neg x).1 h
  exact ⟨hs, by rw [pl_true hs]; omega⟩
/-- what the neighbours of a number that is no end are -/
theorem nb_facts {x : Nat} (hx : x < 2 ^ 64) (nx : ¬ isNan x) (h1 : pl x ≠ 9218868437227405312) (h2 : pl x ≠ -9218868437227405313) :
    ordI x (nxt x) = -1 ∧ ordI (prv x) x = -1 ∧ prv (nxt x) = x ∧ nxt (prv x) = x := by
  obtain ⟨a1, a2, a3⟩ := nxt_num nx h1
  obtain ⟨b1, b2, b3⟩ := prv_num nx h2
  have bx := pl_num nx
  have ba := pl_num a3
  have bb := pl_num b3
  obtain ⟨c1, c2, _⟩ := prv_num a3 (by omega)
  obtain ⟨d1, d2, _⟩ := nxt_num b3 (by omega)
  exact ⟨ordI_lt (by rw [plT_num nx, plT_num a3]; omega), ordI_lt (by rw [plT_num nx, plT_num b3]; omega), pl_inj c1 hx (by omega), pl_inj d1 hx (by omega)⟩
theorem ne_self_false {x : Nat} (h : ¬ isNan x) : (Go.FloatKind.f64.format.order x x != some Ordering.eq) = false := by
  have e := (order_self x).2 h
  show (D.order x x != some Ordering.eq) = false
  rw [e]; rfl
theorem ne_self_true {x : Nat} (h : isNan x) : (Go.FloatKind.f64.format.order x x != some Ordering.eq) = true := by
  have e := order_none (x := x) (y := x) (.inl h)
  show (D.order x x != some Ordering.eq) = true
  rw [e]; rfl
theorem eq_self {x : Nat} (h : ¬ isNan x) : (Go.FloatKind.f64.format.order x x == some Ordering.eq) = true := by
  have e := (order_self x).2 h
  show (D.order x x == some Ordering.eq) = true
  rw [e]; rfl
theorem sameB_self (x : Nat) : sameB x x = true := sameB_true (.refl x)
end Fl
