/- A finite float as an odd number times a power of two: its two readings agree. No program in sight. A float that is an odd number times a power of two: its place among the numbers, and math.Ldexp's answer. No program in sight. -/
import Derived.Test.YtokmommlabdcdaaGreatDoorVFlRel
import Derived.Test.YtokmommlabdcdaaGreatDoorVWdStr
set_option linter.unusedVariables false
set_option linter.unusedSimpArgs false
set_option linter.unusedVariables false
set_option linter.unusedSimpArgs false
namespace Fl
open Wd
theorem odd_unique {a b c d : Nat} (hc : c % 2 = 1) (hd : d % 2 = 1) (h : 2 ^ a * c = 2 ^ b * d) : a = b ∧ c = d := by
  rcases Nat.lt_trichotomy a b with g | g | g
  · exfalso
    obtain ⟨t, rfl⟩ : ∃ t, b = a + (t + 1) := ⟨b - a - 1, by omega⟩
    rw [Nat.pow_add, Nat.mul_assoc] at h
    have := Nat.eq_of_mul_eq_mul_left (Nat.two_pow_pos a) h
    rw [Nat.pow_succ] at this
    rw [this, Nat.mul_assoc, Nat.mul_left_comm] at hc
    omega
  · subst g
    exact ⟨rfl, Nat.eq_of_mul_eq_mul_left (Nat.two_pow_pos a) h⟩
  · exfalso
    obtain ⟨t, rfl⟩ : ∃ t, a = b + (t + 1) := ⟨a - b - 1, by omega⟩
    rw [Nat.pow_add, Nat.mul_assoc] at h
    have := Nat.eq_of_mul_eq_mul_left (Nat.two_pow_pos b) h
    rw [Nat.pow_succ] at this
    rw [← this, Nat.mul_assoc, Nat.mul_left_comm] at hd
    omega
/-- x is d times two to the e, d odd -/
def OddV (x : Nat) (d : Int) (e : Int) : Prop := d.natAbs % 2 = 1 ∧ (d < 0 ↔ sg x = true) ∧ ∃ t : Nat, mant x = 2 ^ t * d.natAbs ∧ e = (t : Int) + (plc x : Int) - 1075
theorem OddV.unique {x : Nat} {d d' e e' : Int} (h : OddV x d e) (g : OddV x d' e') : d = d' ∧ e = e' := by
  obtain ⟨h1, h2, t, h3, h4⟩ := h
  obtain ⟨g1, g2, u, g3, g4⟩ := g
  obtain ⟨a, b⟩ := odd_unique h1 g1 (h3.symm.trans g3)
  refine ⟨?_, by rw [h4, g4, a]⟩
  by_cases c : sg x = true
  · have := h2.2 c; have := g2.2 c; omega
  · have : ¬ d < 0 := fun q => c (h2.1 q)
    have : ¬ d' < 0 := fun q => c (g2.1 q)
    omega
/-- out of the fraction -/
theorem OddV.of_frac {x i k : Nat} {c : Int} (hc : c.natAbs % 2 = 1) (hn : (fv x).num = c * ((2 ^ k : Nat) : Int)) (hd : (fv x).den = 2 ^ i) : OddV x c ((k : Int) - i) := by
  have hp := plc_pos x
  have hP : (0 : Int) < ((2 ^ k : Nat) : Int) := by have := Nat.two_pow_pos k; omega
  have cr : (fv x).num * (UN : Int) = iv x * ((fv x).den : Int) := cross_of UN_ne rfl
  rw [hn, hd, iv_parts] at cr
  have ab := congrArg Int.natAbs cr
  rw [Int.natAbs_mul, Int.natAbs_mul, Int.natAbs_mul, Int.natAbs_mul, Int.natAbs_natCast, Int.natAbs_natCast, Int.natAbs_natCast, Int.natAbs_natCast] at ab
  have hs : (smant x).natAbs = mant x := by unfold smant; split <;> simp
  rw [hs] at ab
  have m0 : mant x ≠ 0 := by
    intro e
    rw [e, Nat.zero_mul, Nat.zero_mul] at ab
    have h1 := Nat.two_pow_pos k
    have h2 := UN_pos
    rcases Nat.mul_eq_zero.1 ab with e | e
    · rcases Nat.mul_eq_zero.1 e with e | e
      · rw [e] at hc; simp at hc
      · omega
    · omega
  obtain ⟨t, d, e1, o1⟩ := twos_of m0
  have key : 2 ^ (k + 1074) * c.natAbs = 2 ^ (t + (plc x - 1) + i) * d := by
    rw [Nat.pow_add, Nat.pow_add, Nat.pow_add, UN_eq 1074 rfl]
    rw [e1] at ab
    have l : 2 ^ k * UN * c.natAbs = c.natAbs * 2 ^ k * UN := by rw [Nat.mul_comm, ← Nat.mul_assoc]
    rw [l, ab]
    generalize 2 ^ t = A
    generalize 2 ^ (plc x - 1) = B
    generalize 2 ^ i = C
    rw [Nat.mul_right_comm A B C, Nat.mul_right_comm (A * C) B d, Nat.mul_right_comm A C d, Nat.mul_right_comm (A * d) C B]
  obtain ⟨q1, q2⟩ := odd_unique hc o1 key
  refine ⟨hc, ?_, t, by rw [e1, q2], by omega⟩
  -- the sign
  have hB : (0 : Int) < ((2 ^ (plc x - 1) : Nat) : Int) := by have := Nat.two_pow_pos (plc x - 1); omega
  have hC : (0 : Int) < ((2 ^ i : Nat) : Int) := by have := Nat.two_pow_pos i; omega
  have hU : (0 : Int) < (UN : Int) := by have := UN_pos; omega
  have s1 : c < 0 ↔ c * ((2 ^ k : Nat) : Int) * (UN : Int) < 0 := by
    constructor
    · intro h; exact Int.mul_neg_of_neg_of_pos (Int.mul_neg_of_neg_of_pos h hP) hU
    · intro h
      rcases Int.lt_or_le c 0 with g | g
      · exact g
      · have := Int.mul_nonneg (Int.mul_nonneg g (Int.le_of_lt hP)) (Int.le_of_lt hU); omega
  have s2 : smant x < 0 ↔ smant x * ((2 ^ (plc x - 1) : Nat) : Int) * ((2 ^ i : Nat) : Int) < 0 := by
    constructor
    · intro h; exact Int.mul_neg_of_neg_of_pos (Int.mul_neg_of_neg_of_pos h hB) hC
    · intro h
      rcases Int.lt_or_le (smant x) 0 with g | g
      · exact g
      · have := Int.mul_nonneg (Int.mul_nonneg g (Int.le_of_lt hB)) (Int.le_of_lt hC); omega
  rw [s1, cr, ← s2]
  unfold smant
  cases sg x
  · first | (simp; done) | (simp; omega)
  · first | (simp; done) | (simp; omega)
end Fl
set_option linter.unusedVariables false
set_option linter.unusedSimpArgs false
namespace Fl
open Ieee Go
theorem IsI.fv {x : Nat} {m : Int} (h : IsI x m) : fv x = (m : Rat) := by
  unfold Fl.fv
  have e : iv x = m * (UN : Int) := h.2.1
  have := Rat.mkRat_mul_right (n := m) (d := 1) UN_ne
  rw [Nat.one_mul] at this
  rw [e, this, Rat.mkRat_one]
theorem isI_one : IsI 4607182418800017408 1 := by
  have h := IsI.ofInt 1 (by decide)
  rw [show Go.floatOfInt .f64 1 = 4607182418800017408 by decide +kernel] at h
  exact h
theorem fq_sg {q : Rat} (h : q.num ≠ 0) (s t : Bool) : fq q s = fq q t := by unfold fq; rw [if_neg h, if_neg h]
theorem fvnum {y : Nat} (h : mv y ≠ 0) : (fv y).num ≠ 0 := by
  intro e
  have e2 : fv y = 0 := Rat.num_eq_zero.1 e
  unfold fv at e2
  have : (0 : Rat) = mkRat 0 UN := by simp
  rw [this, Rat.mkRat_eq_iff UN_ne UN_ne, Int.zero_mul] at e2
  rcases Int.mul_eq_zero.1 e2 with e3 | e3
  · exact h (mv_zero.2 e3)
  · have := UN_ne; omega
/-- a float is what its own fraction rounds to -/
theorem fq_self {y : Nat} (hy : y < 2 ^ 64) (hf : fin y) (h0 : mv y ≠ 0) (s : Bool) : fq (fv y) s = y := by
  have e := fq_mul (x := 4607182418800017408) (y := y) isI_one.1 hf
  have g := mul_one' hy hf
  rw [e, isI_one.fv] at g
  rw [show ((1 : Int) : Rat) = 1 from rfl, Rat.one_mul] at g
  have g2 := Option.some.inj g
  rw [fq_sg (fvnum h0) s _]; exact g2
theorem fv_neg {x : Nat} (h : x < 2 ^ 64) : fv (neg x) = - fv x := by
  unfold fv
  rw [iv_neg h, Rat.neg_mkRat]
/-- the exponent moved upwards -/
theorem valR_up {r k : Nat} (h : 2 ^ 52 ≤ r) : valR (r + k * 2 ^ 52) = valR r * 2 ^ k := by
  unfold valR
  rw [if_neg (by omega), if_neg (by omega), Nat.mul_assoc, ← Nat.pow_add]
  have a : (r + k * 2 ^ 52) % 2 ^ 52 = r % 2 ^ 52 := by omega
  have b : (r + k * 2 ^ 52) / 2 ^ 52 - 1 = r / 2 ^ 52 - 1 + k := by omega
  rw [a, b]
theorem iv_ldx_up {x k : Nat} (h0 : 2 ^ 52 ≤ rg x) (h2 : rg x / 2 ^ 52 + k ≤ 2046) : iv (ldx x k) = iv x * ((2 ^ k : Nat) : Int) := by
  obtain ⟨a, b, c, d⟩ := ldx_facts (x := x) (k := (k : Int)) (by omega) (by omega)
  have e : rg (ldx x k) = rg x + k * 2 ^ 52 := by omega
  have m : mv (ldx x k) = mv x * 2 ^ k := by unfold mv; rw [e]; exact valR_up h0
  unfold iv
  rw [a, m]
  cases sg x
  · simp only [Bool.false_eq_true, if_false, Int.natCast_mul]
  · simp only [if_true, Int.natCast_mul, Int.neg_mul]
theorem fv_ldx_up {x k : Nat} (h0 : 2 ^ 52 ≤ rg x) (h2 : rg x / 2 ^ 52 + k ≤ 2046) : fv (ldx x k) = fv x * (((2 ^ k : Nat) : Int) : Rat) := by
  unfold fv
  rw [iv_ldx_up h0 h2]
  have : (((2 ^ k : Nat) : Int) : Rat) = mkRat ((2 ^ k : Nat) : Int) 1 := (Rat.mkRat_one _).symm
  rw [this, Rat.mkRat_mul_mkRat, Nat.mul_one]
theorem pow_inv (j : Nat) : (((2 ^ j : Nat) : Int) : Rat) * mkRat 1 (2 ^ j) = 1 := by
  have : (((2 ^ j : Nat) : Int) : Rat) = mkRat ((2 ^ j : Nat) : Int) 1 := (Rat.mkRat_one _).symm
  rw [this, Rat.mkRat_mul_mkRat, Int.mul_one, Nat.one_mul, show (1 : Rat) = mkRat 1 1 by rfl, Rat.mkRat_eq_iff (Nat.ne_of_gt (Nat.two_pow_pos j)) (by decide), Int.mul_comm]; simp
theorem fv_ldx_down {x j : Nat} (hx : x < 2 ^ 64) (h0 : 2 ^ 52 ≤ rg x) (h1 : 1 + j ≤ rg x / 2 ^ 52) (h2 : rg x / 2 ^ 52 ≤ 2046) : fv (ldx x (-(j : Int))) = fv x * mkRat 1 (2 ^ j) := by
  obtain ⟨a, b, c, d⟩ := ldx_facts (x := x) (k := -(j : Int)) (by omega) (by omega)
  have e := ldx_back (x := x) (k := -(j : Int)) hx (by omega) (by omega)
  rw [Int.neg_neg] at e
  have u := fv_ldx_up (x := ldx x (-(j : Int))) (k := j) (by omega) (by omega)
  rw [e] at u
  rw [u, Rat.mul_assoc, pow_inv, Rat.mul_one]
theorem mv_pos {x : Nat} (h : 2 ^ 52 ≤ rg x) : mv x ≠ 0 := fun e => by have := mv_rg.1 e; omega
theorem iv_inj {a b : Nat} (ha : a < 2 ^ 64) (hb : b < 2 ^ 64) (fa : fin a) (fb : fin b) (h0 : iv a ≠ 0) (h : iv a = iv b) : a = b := by
  have na : mv a ≠ 0 := fun e => h0 (mv_zero.1 e)
  have nb : mv b ≠ 0 := fun e => h0 (by rw [h]; exact mv_zero.1 e)
  have e : fv a = fv b := by unfold fv; rw [h]
  rw [← fq_self ha fa na false, ← fq_self hb fb nb false, e]
theorem iv_scaled {y : Nat} {d k : Int} {K : Nat} (hK : K = 1074) (hU : UN = 2 ^ K) (hy : IsI y d) (h0 : 2 ^ 52 ≤ rg y) (hf : rg y < INF) (h1 : 1 ≤ (rg y / 2 ^ 52 : Nat) + k) (h2 : (rg y / 2 ^ 52 : Nat) + k ≤ 2046) (hk : -1074 ≤ k) : iv (ldx y k) = d * ((2 ^ (k + 1074).toNat : Nat) : Int) := by
  have e : iv y = d * (UN : Int) := hy.2.1
  rw [hU] at e
  have top : rg y / 2 ^ 52 ≤ 2046 := by unfold INF at hf; omega
  by_cases c : 0 ≤ k
  · obtain ⟨n, rfl⟩ : ∃ n : Nat, k = n := ⟨k.toNat, by omega⟩
    rw [iv_ldx_up h0 (by omega), e, Int.mul_assoc, ← Int.natCast_mul, ← Nat.pow_add]
    have : K + n = ((n : Int) + 1074).toNat := by omega
    rw [this]
  · obtain ⟨n, hn⟩ : ∃ n : Nat, k = -(n : Int) := ⟨(-k).toNat, by omega⟩
    subst hn
    obtain ⟨a, b, cc, dd⟩ := ldx_facts (x := y) (k := -(n : Int)) (by omega) (by omega)
    have bk := ldx_back (x := y) (k := -(n : Int)) hy.2.2 (by omega) (by omega)
    rw [Int.neg_neg] at bk
    have u := iv_ldx_up (x := ldx y (-(n : Int))) (k := n) (by omega) (by omega)
    rw [bk, e] at u
    have s : K = (-(n : Int) + 1074).toNat + n := by omega
    rw [s, Nat.pow_add, Int.natCast_mul, ← Int.mul_assoc] at u
    have p : ((2 ^ n : Nat) : Int) ≠ 0 := by have := Nat.two_pow_pos n; omega
    exact (Int.eq_of_mul_eq_mul_right p u).symm
theorem OddV.iv {x : Nat} {d e : Int} (h : OddV x d e) : -1074 ≤ e ∧ iv x = d * ((2 ^ (e + 1074).toNat : Nat) : Int) := by
  obtain ⟨ho, hs, t, ht, he⟩ := h
  have hp := plc_pos x
  refine ⟨by omega, ?_⟩
  have e1 : (e + 1074).toNat = t + (plc x - 1) := by omega
  have sm : smant x = d * ((2 ^ t : Nat) : Int) := by
    unfold smant
    by_cases c : sg x = true
    · rw [if_pos c, ht, Int.natCast_mul]
      have : d < 0 := hs.2 c
      have : ((d.natAbs : Nat) : Int) = -d := by omega
      rw [this, Int.mul_comm, Int.neg_mul, Int.neg_neg]
    · rw [if_neg c, ht, Int.natCast_mul]
      have : ¬ d < 0 := fun q => c (hs.1 q)
      have : ((d.natAbs : Nat) : Int) = d := by omega
      rw [this, Int.mul_comm]
  rw [iv_parts, sm, e1, Nat.pow_add, Int.natCast_mul, Int.mul_assoc]
theorem expo {y : Nat} {d : Int} {K t : Nat} (hK : K = 1074) (hU : UN = 2 ^ K) (hy : IsI y d) (h0 : d ≠ 0) (ht : d.natAbs * 2 ^ t < 2 ^ 53) : 2 ^ 52 ≤ rg y ∧ 1023 ≤ rg y / 2 ^ 52 ∧ rg y / 2 ^ 52 + t ≤ 1075 := by
  have hm := hy.mv
  rw [hU] at hm
  have d1 : 1 ≤ d.natAbs := by omega
  have lo : 2 ^ K ≤ mv y := by rw [hm]; exact Nat.le_mul_of_pos_left _ d1
  have n0 : 2 ^ 52 ≤ rg y := by
    rcases Nat.lt_or_ge (rg y) (2 ^ 52) with c | c
    · have : mv y = rg y := by unfold mv valR; rw [if_pos c]
      have h2 : 2 ^ K < 2 ^ 52 := by omega
      have := (Nat.pow_lt_pow_iff_right (a := 2) (by decide)).1 h2
      omega
    · exact c
  obtain ⟨E, hE⟩ : ∃ E, rg y / 2 ^ 52 = E := ⟨_, rfl⟩
  have E1 : 1 ≤ E := by omega
  have mv1 : mv y = (2 ^ 52 + rg y % 2 ^ 52) * 2 ^ (E - 1) := by unfold mv valR; rw [if_neg (by omega), hE]
  have up : mv y < 2 ^ (53 + (E - 1)) := by
    rw [mv1, Nat.pow_add]
    exact Nat.mul_lt_mul_of_pos_right (by omega) (Nat.two_pow_pos _)
  have dn : 2 ^ (52 + (E - 1)) ≤ mv y := by
    rw [mv1, Nat.pow_add]
    exact Nat.mul_le_mul_right _ (by omega)
  rw [hE]
  refine ⟨n0, ?_, ?_⟩
  · have := (Nat.pow_lt_pow_iff_right (a := 2) (by decide)).1 (Nat.lt_of_le_of_lt lo up)
    omega
  · have a : 2 ^ (52 + (E - 1) + t) ≤ d.natAbs * 2 ^ t * 2 ^ K := by
      rw [Nat.pow_add _ _ t, Nat.mul_right_comm, ← hm]
      exact Nat.mul_le_mul_right _ dn
    have b : d.natAbs * 2 ^ t * 2 ^ K < 2 ^ (53 + K) := by
      rw [Nat.pow_add]
      exact Nat.mul_lt_mul_of_pos_right ht (Nat.two_pow_pos _)
    have := (Nat.pow_lt_pow_iff_right (a := 2) (by decide)).1 (Nat.lt_of_le_of_lt a b)
    omega
theorem den_iv {K : Nat} (hK : K = 1074) : iv 4368491638549381120 = ((2 ^ (K - 53) : Nat) : Int) ∧ fin 4368491638549381120 := by
  refine ⟨?_, by decide⟩
  obtain ⟨g, hg⟩ : ∃ g, 968 + 1 = g := ⟨_, rfl⟩
  have m1 : mv 4368491638549381120 = 2 ^ 52 * 2 ^ g := by
    unfold mv
    rw [show rg 4368491638549381120 = (g + 1) * 2 ^ 52 by rw [← hg]; decide]
    unfold valR
    rw [if_neg (by omega)]
    have a : (g + 1) * 2 ^ 52 % 2 ^ 52 = 0 := by omega
    have b : (g + 1) * 2 ^ 52 / 2 ^ 52 - 1 = g := by omega
    rw [a, b]
  unfold iv
  rw [show sg 4368491638549381120 = false by decide, m1, ← Nat.pow_add]
  have : 52 + g = K - 53 := by omega
  rw [this]; rfl
theorem mul_den_exact {x z : Nat} {d e : Int} {K : Nat} (hK : K = 1074) (hU : UN = 2 ^ K) (hx : x < 2 ^ 64) (hf : fin x) (hz : fin z) (he : -1074 ≤ e) (h0 : iv x ≠ 0) (ix : iv x = d * ((2 ^ (e + 1074).toNat : Nat) : Int)) (iz : iv z = d * ((2 ^ (e + 53 + 1074).toNat : Nat) : Int)) :
    D.mul 4368491638549381120 z = some x := by
  obtain ⟨i1, f1⟩ := den_iv hK
  rw [fq_mul f1 hz]
  have m0 : mv x ≠ 0 := fun q => h0 (mv_zero.1 q)
  have e1 : fv 4368491638549381120 * fv z = fv x := by
    unfold fv
    rw [Rat.mkRat_mul_mkRat, Rat.mkRat_eq_iff (Nat.mul_ne_zero UN_ne UN_ne) UN_ne, i1, iz, ix, hU, Int.natCast_mul]
    have a : (e + 53 + 1074).toNat = (e + 1074).toNat + 53 := by omega
    have b : K = K - 53 + 53 := by omega
    have c : ((2 ^ K : Nat) : Int) = ((2 ^ (K - 53) : Nat) : Int) * ((2 ^ 53 : Nat) : Int) := by
      rw [← Int.natCast_mul, ← Nat.pow_add, ← b]
    rw [a, Nat.pow_add, Int.natCast_mul]
    generalize ((2 ^ (e + 1074).toNat : Nat) : Int) = P
    rw [c]
    generalize ((2 ^ (K - 53) : Nat) : Int) = Q
    generalize ((2 ^ 53 : Nat) : Int) = R
    simp only [Int.mul_comm, Int.mul_left_comm, Int.mul_assoc]
  rw [e1, fq_self hx hf m0]
end Fl
