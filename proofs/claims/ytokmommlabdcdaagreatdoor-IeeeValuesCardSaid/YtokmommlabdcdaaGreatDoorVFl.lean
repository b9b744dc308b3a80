/- Plain laws of binary64: how Ieee rounds, said by one rounding of rationals ('rungQ'); nothing of the program is in sight. No conditions. Plain laws of binary64, second part: words, and what + - * / and the order do to finite ones. No conditions. Lists of 32-bit words, the lowest first, as natural numbers: plain laws. No conditions. What one step of each loop over lists of words does to the numbers: plain laws. No conditions. Fractions: the steps of their sums and products, as they are made. No program in sight. No conditions. -/
import GoSem.Core.Float
set_option linter.unusedVariables false
set_option linter.unusedSimpArgs false
namespace Fl
open Ieee

/-- 'n / g' to the nearest whole number, ties to even. -/
def RNE (n g : Nat) : Nat := n / g + (if g < 2 * (n % g) ∨ (2 * (n % g) = g ∧ (n / g) % 2 = 1) then 1 else 0)

theorem RNE_scale (n g k : Nat) (hk : 0 < k) : RNE (n * k) (g * k) = RNE n g := by
  unfold RNE
  rw [Nat.mul_div_mul_right _ _ hk, Nat.mul_mod_mul_right]
  have e1 : (g * k < 2 * (n % g * k)) ↔ (g < 2 * (n % g)) := by
    rw [← Nat.mul_assoc]; exact Nat.mul_lt_mul_right hk
  have e2 : (2 * (n % g * k) = g * k) ↔ (2 * (n % g) = g) := by
    rw [← Nat.mul_assoc]; exact Nat.mul_left_inj (by omega)
  simp only [e1, e2]

theorem RNE_mul (n g : Nat) (hg : 0 < g) : RNE (n * g) g = n := by
  unfold RNE
  rw [Nat.mul_div_cancel _ hg, Nat.mul_mod_left]
  have : ¬ (g < 2 * 0 ∨ (2 * 0 = g ∧ n % 2 = 1)) := by omega
  rw [if_neg this]; rfl

theorem RNE_zero (g : Nat) : RNE 0 g = 0 := by
  unfold RNE
  rw [Nat.zero_div, Nat.zero_mod, if_neg (by omega)]

theorem RNE_one (n : Nat) : RNE n 1 = n := by
  have := RNE_mul n 1 (by omega); rwa [Nat.mul_one] at this

theorem RNE_lo (n g : Nat) : n / g ≤ RNE n g := by unfold RNE; omega
theorem RNE_hi (n g : Nat) : RNE n g ≤ n / g + 1 := by unfold RNE; split <;> omega

/-- within half a unit. -/
theorem RNE_near (n g : Nat) (_hg : 0 < g) : 2 * (RNE n g * g) ≤ 2 * n + g ∧ 2 * n ≤ 2 * (RNE n g * g) + g := by
  have h := Nat.div_add_mod n g
  have hm := Nat.mod_lt n _hg
  unfold RNE
  generalize n / g = q at *
  generalize n % g = r at *
  subst h
  split
  · rw [Nat.add_mul, Nat.one_mul, Nat.mul_comm q g]; omega
  · rw [Nat.add_zero, Nat.mul_comm q g]; omega

theorem RNE_mono' (n m g : Nat) (h : n ≤ m) : RNE n g ≤ RNE m g := by
  have hd : n / g ≤ m / g := Nat.div_le_div_right h
  by_cases e : n / g = m / g
  · have h1 := Nat.div_add_mod n g
    have h2 := Nat.div_add_mod m g
    have : n % g ≤ m % g := by rw [e] at h1; omega
    unfold RNE
    rw [e]
    split
    · rename_i c
      rw [if_pos]; · omega
      rcases c with c | c
      · omega
      · by_cases c2 : g < 2 * (m % g)
        · exact .inl c2
        · right; exact ⟨by omega, c.2⟩
    · omega
  · have a := RNE_hi n g
    have b := RNE_lo m g
    omega

/-- monotone over all fractions. -/
theorem RNE_mono (n g m k : Nat) (hg : 0 < g) (hk : 0 < k) (h : n * k ≤ m * g) : RNE n g ≤ RNE m k := by
  rw [← RNE_scale n g k hk, ← RNE_scale m k g hg, Nat.mul_comm k g]
  exact RNE_mono' _ _ _ h

theorem log2_lt_pow {n k : Nat} (h : n < 2 ^ (k + 1)) : n.log2 ≤ k := by
  by_cases h0 : n = 0
  · subst h0; simp
  · have := (Nat.log2_lt h0).2 h; omega

theorem lt_log2_pow (n : Nat) : n < 2 ^ (n.log2 + 1) := Nat.lt_log2_self

theorem pow_log2_le {n : Nat} (h : n ≠ 0) : 2 ^ n.log2 ≤ n := Nat.log2_self_le h

theorem log2_unique {n k : Nat} (h1 : 2 ^ k ≤ n) (h2 : n < 2 ^ (k + 1)) : n.log2 = k := by
  have h0 : n ≠ 0 := by have := Nat.two_pow_pos k; omega
  have a := log2_lt_pow h2
  have b : ¬ n.log2 < k := by
    intro c
    have := (Nat.log2_lt h0).1 c
    omega
  omega

theorem log2_mul_pow (n e : Nat) (h : n ≠ 0) : (n * 2 ^ e).log2 = n.log2 + e := by
  refine log2_unique ?_ ?_
  · rw [Nat.pow_add]; exact Nat.mul_le_mul_right _ (pow_log2_le h)
  · have : n.log2 + e + 1 = (n.log2 + 1) + e := by omega
    rw [this, Nat.pow_add]
    exact (Nat.mul_lt_mul_right (Nat.two_pow_pos e)).2 (lt_log2_pow n)

theorem log2_mono {n m : Nat} (h : n ≤ m) : n.log2 ≤ m.log2 := log2_lt_pow (Nat.lt_of_le_of_lt h (lt_log2_pow m))

theorem log2_div_pow (n j : Nat) : (n / 2 ^ j).log2 = n.log2 - j := by
  by_cases h : n < 2 ^ j
  · rw [Nat.div_eq_of_lt h]
    by_cases h0 : n = 0
    · subst h0; simp
    · have := (Nat.log2_lt h0).2 h
      simp; omega
  · have hle : 2 ^ j ≤ n := by omega
    have h0 : n ≠ 0 := by have := Nat.two_pow_pos j; omega
    have hj : j ≤ n.log2 := by
      by_cases c : n.log2 < j
      · have := (Nat.log2_lt h0).1 c; omega
      · omega
    refine log2_unique ?_ ?_
    · rw [Nat.le_div_iff_mul_le (Nat.two_pow_pos j), ← Nat.pow_add, Nat.sub_add_cancel hj]; exact pow_log2_le h0
    · rw [Nat.div_lt_iff_lt_mul (Nat.two_pow_pos j), ← Nat.pow_add]
      have : n.log2 - j + 1 + j = n.log2 + 1 := by omega
      rw [this]; exact lt_log2_pow n

theorem cut_even (neg : Bool) (n drop : Nat) : Toward.even.cut neg n drop = RNE n (2 ^ drop) := by
  unfold Toward.cut RNE
  simp only [Nat.one_shiftLeft]
  by_cases h : drop ≤ n.log2 + 2
  · rw [Nat.min_eq_left h]
    generalize 2 ^ drop = g
    generalize n % g = r
    generalize n / g = q
    congr 1
    by_cases c1 : g < 2 * r
    · simp [c1]
    · by_cases c2 : 2 * r = g
      · by_cases c3 : q % 2 = 1
        · simp [c2, c3]
        · simp [c2, c3]
      · have : (g == 2 * r) = false := by simp; omega
        simp [c1, c2, this]
  · rw [Nat.min_eq_right (by omega)]
    have h1 := lt_log2_pow n
    have h2 : 2 ^ (n.log2 + 2) = 2 * 2 ^ (n.log2 + 1) := by rw [Nat.pow_succ]; omega
    have h3 : 2 ^ (n.log2 + 2) ≤ 2 ^ drop := Nat.pow_le_pow_right (by omega) (by omega)
    generalize 2 ^ (n.log2 + 2) = g1 at *
    generalize 2 ^ (n.log2 + 1) = g2 at *
    generalize 2 ^ drop = g at *
    have d1 : n / g1 = 0 := Nat.div_eq_of_lt (by omega)
    have d2 : n / g = 0 := Nat.div_eq_of_lt (by omega)
    have m1 : n % g1 = n := Nat.mod_eq_of_lt (by omega)
    have m2 : n % g = n := Nat.mod_eq_of_lt (by omega)
    rw [d1, d2, m1, m2]
    have e1 : ¬ (g1 < 2 * n) := by omega
    have e2 : ¬ (g < 2 * n) := by omega
    simp [e1, e2]

/-- The rung nearest to 'n / d' units of 2^-1074 (no bound above). -/
def rungQ (n d : Nat) : Nat := ((n / d).log2 - 52) * 2 ^ 52 + RNE n (d * 2 ^ ((n / d).log2 - 52))

theorem rungQ_zero (d : Nat) : rungQ 0 d = 0 := by
  unfold rungQ
  rw [Nat.zero_div, RNE_zero]; simp

theorem rungQ_scale (n d k : Nat) (hk : 0 < k) : rungQ (n * k) (d * k) = rungQ n d := by
  unfold rungQ
  rw [Nat.mul_div_mul_right _ _ hk, Nat.mul_right_comm d k, RNE_scale _ _ _ hk]

theorem infRung_eq : double.infRung = 2047 * 2 ^ 52 := by decide
theorem signWeight_eq : double.signWeight = 2 ^ 63 := by decide
theorem binade_eq : double.binade = 2 ^ 52 := by decide
theorem leastPlace_eq : double.leastPlace = -1074 := by decide

theorem nearest_eq (neg : Bool) (mag : Nat) (place : Int) :
    double.nearest neg mag place = double.word neg (min (rungQ (mag * 2 ^ (place + 1074).toNat) (2 ^ (-1074 - place).toNat)) double.infRung) := by
  unfold Format.nearest
  by_cases h0 : mag = 0
  · subst h0
    rw [if_pos rfl, Nat.zero_mul, rungQ_zero, Nat.zero_min]
  · rw [if_neg h0]
    simp only
    refine congrArg (fun t => double.word neg (min t double.infRung)) ?_
    rw [leastPlace_eq, binade_eq, cut_even, Nat.shiftLeft_eq]
    have hf : (double.fractionBits : Int) = 52 := rfl
    rw [hf]
    unfold rungQ
    by_cases he : 0 ≤ place + 1074
    · obtain ⟨e, he'⟩ := Int.eq_ofNat_of_zero_le he
      have e0 : (-1074 - place).toNat = 0 := by omega
      have e1 : (place + 1074).toNat = e := by omega
      rw [e0, e1, Nat.pow_zero, Nat.div_one, Nat.one_mul, log2_mul_pow _ _ h0]
      generalize hl : mag.log2 = l
      have e2 : (max (place + (l : Int) - 52) (-1074) - -1074).toNat = l + e - 52 := by omega
      rw [e2]
      congr 1
      generalize hL : l + e - 52 = L
      have e3 : (place - max (place + (l : Int) - 52) (-1074)).toNat = e - L := by omega
      have e4 : (max (place + (l : Int) - 52) (-1074) - place).toNat = L - e := by omega
      rw [e3, e4]
      by_cases c : L ≤ e
      · have : L - e = 0 := by omega
        rw [this, Nat.pow_zero, RNE_one]
        have : e = (e - L) + L := by omega
        conv => rhs; rw [this, Nat.pow_add, ← Nat.mul_assoc]
        rw [RNE_mul _ _ (Nat.two_pow_pos _)]
      · have : e - L = 0 := by omega
        rw [this, Nat.pow_zero, Nat.mul_one]
        have : L = (L - e) + e := by omega
        conv => rhs; rw [this, Nat.pow_add]
        rw [RNE_scale _ _ _ (Nat.two_pow_pos _)]
    · obtain ⟨j, hj⟩ := Int.eq_ofNat_of_zero_le (a := -1074 - place) (by omega)
      have e0 : (-1074 - place).toNat = j := by omega
      have e1 : (place + 1074).toNat = 0 := by omega
      rw [e0, e1, Nat.pow_zero, Nat.mul_one, log2_div_pow]
      generalize hl : mag.log2 = l
      have e2 : (max (place + (l : Int) - 52) (-1074) - -1074).toNat = l - j - 52 := by omega
      rw [e2]
      congr 1
      generalize hL : l - j - 52 = L
      have e3 : (place - max (place + (l : Int) - 52) (-1074)).toNat = 0 := by omega
      have e4 : (max (place + (l : Int) - 52) (-1074) - place).toNat = j + L := by omega
      rw [e3, e4, Nat.pow_zero, Nat.mul_one, Nat.pow_add]

/-- A rung's magnitude, in units of 2^-1074. -/
def valR (r : Nat) : Nat := if r < 2 ^ 52 then r else (2 ^ 52 + r % 2 ^ 52) * 2 ^ (r / 2 ^ 52 - 1)

theorem valR_mk (L k : Nat) (h : k ≤ 2 ^ 53) (h' : L = 0 ∨ 2 ^ 52 ≤ k) : valR (L * 2 ^ 52 + k) = k * 2 ^ L := by
  unfold valR
  by_cases c : k < 2 ^ 52
  · have : L = 0 := by omega
    subst this
    rw [if_pos (by omega)]; simp
  · rw [if_neg (by omega)]
    by_cases c2 : k = 2 ^ 53
    · subst c2
      have e1 : (L * 2 ^ 52 + 2 ^ 53) / 2 ^ 52 = L + 2 := by omega
      have e2 : (L * 2 ^ 52 + 2 ^ 53) % 2 ^ 52 = 0 := by omega
      rw [e1, e2]
      have : L + 2 - 1 = L + 1 := by omega
      rw [this, Nat.pow_succ]; omega
    · have e1 : (L * 2 ^ 52 + k) / 2 ^ 52 = L + 1 := by omega
      have e2 : (L * 2 ^ 52 + k) % 2 ^ 52 = k - 2 ^ 52 := by omega
      rw [e1, e2]
      have e3 : 2 ^ 52 + (k - 2 ^ 52) = k := by omega
      rw [e3]; rfl

/-- every rung is of that form. -/
theorem rung_form (r : Nat) : ∃ L k, r = L * 2 ^ 52 + k ∧ k < 2 ^ 53 ∧ (L = 0 ∨ 2 ^ 52 ≤ k) := by
  by_cases c : r < 2 ^ 52
  · exact ⟨0, r, by omega, by omega, .inl rfl⟩
  · exact ⟨r / 2 ^ 52 - 1, 2 ^ 52 + r % 2 ^ 52, by omega, by omega, .inr (by omega)⟩

/-- the parts of rungQ: its last place, and what is kept. -/
theorem rungQ_parts (n d : Nat) : ∃ L k, rungQ n d = L * 2 ^ 52 + k ∧ L = (n / d).log2 - 52 ∧ k = RNE n (d * 2 ^ L) ∧ k ≤ 2 ^ 53 ∧ (L = 0 ∨ 2 ^ 52 ≤ k) := by
  refine ⟨_, _, rfl, rfl, rfl, ?_, ?_⟩
  · generalize hL : (n / d).log2 - 52 = L
    refine Nat.le_trans (RNE_hi _ _) ?_
    have : n / (d * 2 ^ L) < 2 ^ 53 := by
      rw [← Nat.div_div_eq_div_mul, Nat.div_lt_iff_lt_mul (Nat.two_pow_pos L), ← Nat.pow_add]
      refine Nat.lt_of_lt_of_le (lt_log2_pow _) (Nat.pow_le_pow_right (by omega) (by omega))
    omega
  · generalize hL : (n / d).log2 - 52 = L
    by_cases c : L = 0
    · exact .inl c
    · right
      refine Nat.le_trans ?_ (RNE_lo _ _)
      rw [← Nat.div_div_eq_div_mul, Nat.le_div_iff_mul_le (Nat.two_pow_pos L), ← Nat.pow_add]
      have h0 : n / d ≠ 0 := by intro h; rw [h] at hL; simp at hL; omega
      have : 52 + L = (n / d).log2 := by omega
      rw [this]; exact pow_log2_le h0

theorem valR_rungQ (n d : Nat) : valR (rungQ n d) = RNE n (d * 2 ^ ((n / d).log2 - 52)) * 2 ^ ((n / d).log2 - 52) := by
  obtain ⟨L, k, e, eL, ek, h1, h2⟩ := rungQ_parts n d
  rw [e, valR_mk _ _ h1 h2, ek, eL]

theorem div_mono_cross {n d m k : Nat} (hd : 0 < d) (hk : 0 < k) (h : n * k ≤ m * d) : n / d ≤ m / k := by
  rw [Nat.le_div_iff_mul_le hk]
  have h1 : n / d * d ≤ n := Nat.div_mul_le_self n d
  have h2 : n / d * d * k ≤ m * d := Nat.le_trans (Nat.mul_le_mul_right k h1) h
  rw [Nat.mul_right_comm] at h2
  exact Nat.le_of_mul_le_mul_right h2 hd

theorem rungQ_mono (n d m k : Nat) (hd : 0 < d) (hk : 0 < k) (h : n * k ≤ m * d) : rungQ n d ≤ rungQ m k := by
  obtain ⟨L, a, e, eL, ea, h1, h2⟩ := rungQ_parts n d
  obtain ⟨M, b, e', eM, eb, h1', h2'⟩ := rungQ_parts m k
  have hLM : L ≤ M := by have := log2_mono (div_mono_cross hd hk h); omega
  rw [e, e']
  by_cases c : L = M
  · subst c
    have : a ≤ b := by
      rw [ea, eb]
      refine RNE_mono _ _ _ _ (Nat.mul_pos hd (Nat.two_pow_pos _)) (Nat.mul_pos hk (Nat.two_pow_pos _)) ?_
      rw [← Nat.mul_assoc, ← Nat.mul_assoc]
      exact Nat.mul_le_mul_right _ h
    omega
  · have hb : 2 ^ 52 ≤ b := by omega
    have : (L + 1) * 2 ^ 52 ≤ M * 2 ^ 52 := Nat.mul_le_mul_right _ (by omega)
    omega

theorem rungQ_valR (r d : Nat) (hd : 0 < d) : rungQ (valR r * d) d = r := by
  obtain ⟨L, k, rfl, hk, h⟩ := rung_form r
  rw [valR_mk _ _ (by omega) h]
  unfold rungQ
  rw [Nat.mul_div_cancel _ hd]
  have hL : (k * 2 ^ L).log2 - 52 = L := by
    by_cases h0 : k = 0
    · have : L = 0 := by omega
      subst h0 this; simp
    · rw [log2_mul_pow _ _ h0]
      rcases h with h | h
      · subst h
        have := log2_lt_pow (n := k) (k := 52) hk
        omega
      · have := log2_unique (n := k) (k := 52) h hk
        omega
  rw [hL]
  have : k * 2 ^ L * d = k * (d * 2 ^ L) := by rw [Nat.mul_assoc, Nat.mul_comm (2 ^ L)]
  rw [this, RNE_mul _ _ (Nat.mul_pos hd (Nat.two_pow_pos _))]

theorem valR_zero : valR 0 = 0 := rfl

theorem valR_lt {r s : Nat} (h : r < s) : valR r < valR s := by
  obtain ⟨L, k, rfl, hk, hh⟩ := rung_form r
  obtain ⟨M, m, rfl, hm, hh'⟩ := rung_form s
  rw [valR_mk _ _ (by omega) hh, valR_mk _ _ (by omega) hh']
  by_cases c : L = M
  · subst c
    exact (Nat.mul_lt_mul_right (Nat.two_pow_pos L)).2 (by omega)
  · by_cases c2 : L < M
    · have hm2 : 2 ^ 52 ≤ m := by omega
      have : M = (M - L - 1) + 1 + L := by omega
      rw [this, Nat.pow_add, ← Nat.mul_assoc]
      refine (Nat.mul_lt_mul_right (Nat.two_pow_pos L)).2 ?_
      rw [Nat.pow_succ]
      have h1 := Nat.two_pow_pos (M - L - 1)
      have : 2 ^ 52 * 2 ≤ m * (2 ^ (M - L - 1) * 2) := by
        have := Nat.mul_le_mul hm2 h1
        rw [← Nat.mul_assoc]; omega
      omega
    · exfalso
      have : (M + 1) * 2 ^ 52 ≤ L * 2 ^ 52 := Nat.mul_le_mul_right _ (by omega)
      omega

theorem valR_le {r s : Nat} (h : r ≤ s) : valR r ≤ valR s := by
  by_cases c : r = s
  · subst c; exact Nat.le_refl _
  · exact Nat.le_of_lt (valR_lt (by omega))

theorem valR_lt_iff {r s : Nat} : valR r < valR s ↔ r < s :=
  ⟨fun h => by
    by_cases c : r < s
    · exact c
    · have := valR_le (r := s) (s := r) (by omega); omega, valR_lt⟩

theorem valR_inj {r s : Nat} (h : valR r = valR s) : r = s := by
  by_cases c : r < s
  · have := valR_lt c; omega
  · by_cases c2 : s < r
    · have := valR_lt c2; omega
    · omega

theorem valR_le_iff {r s : Nat} : valR r ≤ valR s ↔ r ≤ s :=
  ⟨fun h => by
    by_cases c : r ≤ s
    · exact c
    · have := valR_lt (r := s) (s := r) (by omega); omega, valR_le⟩

/-- what is at most a rung's value rounds to at most that rung. -/
theorem rungQ_le {n d r : Nat} (hd : 0 < d) (h : n ≤ valR r * d) : rungQ n d ≤ r := by
  have := rungQ_mono n d (valR r * d) d hd hd (Nat.mul_le_mul_right _ h)
  rwa [rungQ_valR _ _ hd] at this

theorem le_rungQ {n d r : Nat} (hd : 0 < d) (h : valR r * d ≤ n) : r ≤ rungQ n d := by
  have := rungQ_mono (valR r * d) d n d hd hd (Nat.mul_le_mul_right _ h)
  rwa [rungQ_valR _ _ hd] at this

/-- within half a unit of the last place that is kept. -/
theorem rungQ_near (n d : Nat) (hd : 0 < d) :
    2 * (valR (rungQ n d) * d) ≤ 2 * n + d * 2 ^ ((n / d).log2 - 52) ∧ 2 * n ≤ 2 * (valR (rungQ n d) * d) + d * 2 ^ ((n / d).log2 - 52) := by
  rw [valR_rungQ]
  generalize (n / d).log2 - 52 = L
  have := RNE_near n (d * 2 ^ L) (Nat.mul_pos hd (Nat.two_pow_pos _))
  have e : RNE n (d * 2 ^ L) * 2 ^ L * d = RNE n (d * 2 ^ L) * (d * 2 ^ L) := by rw [Nat.mul_assoc, Nat.mul_comm (2 ^ L)]
  rw [e]; exact this

end Fl
namespace Fl
open Ieee

abbrev D : Format := Ieee.double

/-- sign and rung of a word. -/
def sg (x : Nat) : Bool := x / 2 ^ 63 % 2 == 1
def rg (x : Nat) : Nat := x % 2 ^ 63
/-- infinity's rung. -/
def INF : Nat := 2047 * 2 ^ 52
def wd (s : Bool) (r : Nat) : Nat := if s then 2 ^ 63 + r else r

theorem word_eq (s : Bool) (r : Nat) : D.word s r = wd s r := by
  unfold Format.word wd; rw [signWeight_eq]

theorem sg_wd (s : Bool) (r : Nat) (h : r < 2 ^ 63) : sg (wd s r) = s := by
  unfold sg wd
  cases s
  · have : r / 2 ^ 63 = 0 := Nat.div_eq_of_lt h
    simp [this]
  · have : (2 ^ 63 + r) / 2 ^ 63 = 1 := by omega
    simp [this]

theorem rg_wd (s : Bool) (r : Nat) (h : r < 2 ^ 63) : rg (wd s r) = r := by
  unfold rg wd
  cases s
  · simp; omega
  · simp only [if_true]; omega

theorem wd_lt (s : Bool) (r : Nat) (h : r < 2 ^ 63) : wd s r < 2 ^ 64 := by
  unfold wd; cases s
  · simp; omega
  · simp only [if_true]; omega

theorem wd_sg_rg (x : Nat) (h : x < 2 ^ 64) : wd (sg x) (rg x) = x := by
  unfold wd sg rg
  by_cases c : x / 2 ^ 63 % 2 = 1
  · simp [c]; omega
  · simp [c]; omega

theorem rg_lt (x : Nat) : rg x < 2 ^ 63 := Nat.mod_lt _ (by decide)

theorem INF_lt : INF < 2 ^ 63 := by decide

def isNan (x : Nat) : Prop := INF < rg x
def fin (x : Nat) : Prop := rg x < INF
instance (x : Nat) : Decidable (isNan x) := inferInstanceAs (Decidable (INF < rg x))
instance (x : Nat) : Decidable (fin x) := inferInstanceAs (Decidable (rg x < INF))

/-- a finite word's magnitude and value, in units of 2^-1074. -/
def mv (x : Nat) : Nat := valR (rg x)
def iv (x : Nat) : Int := if sg x then -(mv x : Int) else (mv x : Int)

theorem read_fin (x : Nat) (h : fin x) : ∃ m i, D.read x = .number (sg x) m i ∧ -1074 ≤ i ∧ m * 2 ^ (i + 1074).toNat = mv x ∧ m < 2 ^ 53 := by
  unfold fin INF at h
  unfold Format.read
  simp only
  rw [signWeight_eq, binade_eq, infRung_eq, leastPlace_eq]
  have hr : x % 2 ^ 63 = rg x := rfl
  have hs : (x / 2 ^ 63 % 2 == 1) = sg x := rfl
  rw [hr, hs]
  unfold mv valR
  by_cases c : rg x < 2 ^ 52
  · rw [if_pos c, if_pos c]
    exact ⟨_, _, rfl, by omega, by simp, by omega⟩
  · rw [if_neg c, if_neg c, if_pos h]
    refine ⟨_, _, rfl, by omega, ?_, by omega⟩
    congr 2
    omega

theorem read_inf (x : Nat) (h : rg x = INF) : D.read x = .infinity (sg x) := by
  unfold INF at h
  unfold Format.read
  simp only
  rw [signWeight_eq, binade_eq, infRung_eq]
  have hr : x % 2 ^ 63 = rg x := rfl
  rw [hr, if_neg (by omega), if_neg (by omega), if_pos h]; rfl

theorem read_nan (x : Nat) (h : isNan x) : ∃ t, D.read x = .nan (sg x) t := by
  unfold isNan INF at h
  unfold Format.read
  simp only
  rw [signWeight_eq, binade_eq, infRung_eq]
  have hr : x % 2 ^ 63 = rg x := rfl
  rw [hr, if_neg (by omega), if_neg (by omega), if_neg (by omega)]
  exact ⟨_, rfl⟩

/-- 2 ^ 1074, the units in 1. -/
def UE : Nat := 1074
theorem UE_eq : UE = 1074 := rfl
def UN : Nat := 2 ^ UE
theorem UN_pos : 0 < UN := Nat.two_pow_pos _
theorem UN_def : UN = 2 ^ UE := rfl
theorem UN_eq (k : Nat) (h : k = 1074) : 2 ^ k = UN := by
  have : k = UE := h
  rw [this]; rfl

theorem wd_congr {s t : Bool} {a b : Nat} (h : s = t) (g : a = b) : wd s a = wd t b := by rw [h, g]

/-- rounding of the rational n/d units, capped at infinity. -/
def rq (n d : Nat) : Nat := min (rungQ n d) INF

theorem rq_le (n d : Nat) : rq n d ≤ INF := Nat.min_le_right ..

theorem nearest_wd (neg : Bool) (mag : Nat) (place : Int) :
    D.nearest neg mag place = wd neg (rq (mag * 2 ^ (place + 1074).toNat) (2 ^ (-1074 - place).toNat)) := by
  rw [nearest_eq, word_eq]; rfl

theorem signed_eq (s : Bool) (m u : Nat) : signed s m u = if s then -((m * 2 ^ u : Nat) : Int) else ((m * 2 ^ u : Nat) : Int) := by
  unfold signed; rw [Nat.shiftLeft_eq]

theorem two_pow_add_toNat (i j : Int) (hj : j ≤ i) (hb : -1074 ≤ j) : (2 : Nat) ^ (i + 1074).toNat = 2 ^ (i - j).toNat * 2 ^ (j + 1074).toNat := by
  rw [← Nat.pow_add]; congr 1; omega

theorem add_fin (x y : Nat) (hx : fin x) (hy : fin y) :
    D.add x y = some (wd (if iv x + iv y = 0 then sg x && sg y else decide (iv x + iv y < 0)) (rq (iv x + iv y).natAbs 1)) := by
  obtain ⟨m, i, ex, hi, hm, _⟩ := read_fin x hx
  obtain ⟨n, j, ey, hj, hn, _⟩ := read_fin y hy
  unfold Format.add
  rw [ex, ey]
  simp only [Datum.sum, Option.map_some, Format.write, Option.some.injEq]
  rw [nearest_wd]
  generalize hb : min i j = b
  have hb' : -1074 ≤ b := by omega
  have e0 : (-1074 - b).toNat = 0 := by omega
  rw [e0, Nat.pow_zero]
  have key : (signed (sg x) m (i - b).toNat + signed (sg y) n (j - b).toNat) * ((2 ^ (b + 1074).toNat : Nat) : Int) = iv x + iv y := by
    rw [signed_eq, signed_eq, Int.add_mul]
    unfold iv
    rw [← hm, ← hn, two_pow_add_toNat i b (by omega) hb', two_pow_add_toNat j b (by omega) hb']
    generalize 2 ^ (b + 1074).toNat = B
    congr 1
    · split <;> simp only [Int.neg_mul, ← Int.natCast_mul, Nat.mul_assoc]
    · split <;> simp only [Int.neg_mul, ← Int.natCast_mul, Nat.mul_assoc]
  have hB := Nat.two_pow_pos (b + 1074).toNat
  generalize 2 ^ (b + 1074).toNat = B at *
  generalize signed (sg x) m (i - b).toNat + signed (sg y) n (j - b).toNat = T at *
  rw [← key]
  have hBi : (0 : Int) < (B : Int) := by omega
  refine wd_congr ?_ ?_
  · have e1 : (T * (B : Int) = 0) ↔ (T = 0) := by
      constructor
      · intro h; rcases Int.mul_eq_zero.1 h with h | h <;> omega
      · intro h; rw [h]; simp
    have e2 : (T * (B : Int) < 0) ↔ (T < 0) := by
      constructor
      · intro h
        by_cases c : T < 0
        · exact c
        · have : 0 ≤ T * (B : Int) := Int.mul_nonneg (by omega) (by omega)
          omega
      · intro h; exact Int.mul_neg_of_neg_of_pos h hBi
    simp only [e1, e2]
  · rw [Int.natAbs_mul, Int.natAbs_natCast]

theorem mul_fin (x y : Nat) (hx : fin x) (hy : fin y) :
    D.mul x y = some (wd (sg x ^^ sg y) (rq (mv x * mv y) UN)) := by
  obtain ⟨m, i, ex, hi, hm, _⟩ := read_fin x hx
  obtain ⟨n, j, ey, hj, hn, _⟩ := read_fin y hy
  unfold Format.mul
  rw [ex, ey]
  simp only [Datum.product, Option.map_some, Format.write, Option.some.injEq]
  rw [nearest_wd]
  refine wd_congr rfl ?_
  unfold rq
  refine congrArg (fun t => min t INF) ?_
  rw [← hm, ← hn]
  by_cases c : 0 ≤ i + j + 1074
  · have e0 : (-1074 - (i + j)).toNat = 0 := by omega
    rw [e0, Nat.pow_zero]
    rw [← rungQ_scale (m * n * 2 ^ (i + j + 1074).toNat) 1 UN UN_pos, Nat.one_mul]
    refine congrArg (fun t => rungQ t UN) ?_
    have e1 : m * 2 ^ (i + 1074).toNat * (n * 2 ^ (j + 1074).toNat) = m * n * (2 ^ (i + 1074).toNat * 2 ^ (j + 1074).toNat) := by
      ac_rfl
    have hU := UE_eq
    rw [e1, Nat.mul_assoc, UN_def, ← Nat.pow_add, ← Nat.pow_add]
    have e2 : (i + j + 1074).toNat + UE = (i + 1074).toNat + (j + 1074).toNat := by omega
    rw [e2]
  · have e0 : (i + j + 1074).toNat = 0 := by omega
    rw [e0, Nat.pow_zero, Nat.mul_one]
    rw [← rungQ_scale (m * n) _ (2 ^ (i + j + 2148).toNat) (Nat.two_pow_pos _)]
    refine congr (congrArg rungQ ?_) ?_
    · have e1 : m * 2 ^ (i + 1074).toNat * (n * 2 ^ (j + 1074).toNat) = m * n * (2 ^ (i + 1074).toNat * 2 ^ (j + 1074).toNat) := by
        ac_rfl
      rw [e1, ← Nat.pow_add]
      have e2 : (i + 1074).toNat + (j + 1074).toNat = (i + j + 2148).toNat := by omega
      rw [e2]
    · rw [← Nat.pow_add]
      exact UN_eq _ (by omega)

theorem compare_mul_pos (a b : Int) (c : Int) (hc : 0 < c) : compare (a * c) (b * c) = compare a b := by
  rcases Int.lt_trichotomy a b with h | h | h
  · have := Int.mul_lt_mul_of_pos_right h hc
    rw [Int.compare_eq_lt.2 h, Int.compare_eq_lt.2 this]
  · subst h; rw [Int.compare_eq_eq.2 rfl, Int.compare_eq_eq.2 rfl]
  · have := Int.mul_lt_mul_of_pos_right h hc
    rw [Int.compare_eq_gt.2 h, Int.compare_eq_gt.2 this]

theorem order_fin (x y : Nat) (hx : fin x) (hy : fin y) : D.order x y = some (compare (iv x) (iv y)) := by
  obtain ⟨m, i, ex, hi, hm, _⟩ := read_fin x hx
  obtain ⟨n, j, ey, hj, hn, _⟩ := read_fin y hy
  unfold Format.order
  rw [ex, ey]
  simp only [Datum.order, Option.some.injEq]
  generalize hb : min i j = b
  have hb' : -1074 ≤ b := by omega
  have hB := Nat.two_pow_pos (b + 1074).toNat
  have k1 : signed (sg x) m (i - b).toNat * ((2 ^ (b + 1074).toNat : Nat) : Int) = iv x := by
    rw [signed_eq]
    unfold iv
    rw [← hm, two_pow_add_toNat i b (by omega) hb']
    generalize 2 ^ (b + 1074).toNat = B
    split <;> simp only [Int.neg_mul, ← Int.natCast_mul, Nat.mul_assoc]
  have k2 : signed (sg y) n (j - b).toNat * ((2 ^ (b + 1074).toNat : Nat) : Int) = iv y := by
    rw [signed_eq]
    unfold iv
    rw [← hn, two_pow_add_toNat j b (by omega) hb']
    generalize 2 ^ (b + 1074).toNat = B
    split <;> simp only [Int.neg_mul, ← Int.natCast_mul, Nat.mul_assoc]
  rw [← k1, ← k2]
  refine (compare_mul_pos _ _ _ ?_).symm
  omega

/-- the rounding of '(n / d) * 2 ^ p' units. -/
def rungZ (n d : Nat) (p : Int) : Nat := rungQ (n * 2 ^ p.toNat) (d * 2 ^ (-p).toNat)

/-- floor of the binary logarithm of a fraction. -/
theorem log2_div_unique {n d k : Nat} (hd : 0 < d) (h1 : 2 ^ k * d ≤ n) (h2 : n < 2 ^ (k + 1) * d) : (n / d).log2 = k :=
  log2_unique ((Nat.le_div_iff_mul_le hd).2 h1) ((Nat.div_lt_iff_lt_mul hd).2 h2)

theorem log2_div_bounds {n d : Nat} (hd : 0 < d) (h : n / d ≠ 0) : 2 ^ (n / d).log2 * d ≤ n ∧ n < 2 ^ ((n / d).log2 + 1) * d :=
  ⟨(Nat.le_div_iff_mul_le hd).1 (pow_log2_le h), (Nat.div_lt_iff_lt_mul hd).1 (lt_log2_pow _)⟩

/-- the last place of a fraction that is at least 2^54, times 2^p. -/
theorem log2_Z (n d : Nat) (p : Int) (hd : 0 < d) (k : Nat) (h1 : 2 ^ k * d ≤ n) (h2 : n < 2 ^ (k + 1) * d) (_hk : 0 ≤ (k : Int) + p) :
    (n * 2 ^ p.toNat / (d * 2 ^ (-p).toNat)).log2 = ((k : Int) + p).toNat := by
  have hp := Nat.two_pow_pos p.toNat
  have hq := Nat.two_pow_pos (-p).toNat
  refine log2_div_unique (Nat.mul_pos hd hq) ?_ ?_
  · have : 2 ^ ((k : Int) + p).toNat * (d * 2 ^ (-p).toNat) = 2 ^ k * d * 2 ^ p.toNat := by
      have e : 2 ^ ((k : Int) + p).toNat * 2 ^ (-p).toNat = 2 ^ k * 2 ^ p.toNat := by
        rw [← Nat.pow_add, ← Nat.pow_add]; congr 1; omega
      calc _ = d * (2 ^ ((k : Int) + p).toNat * 2 ^ (-p).toNat) := by ac_rfl
        _ = _ := by rw [e]; ac_rfl
    rw [this]; exact Nat.mul_le_mul_right _ h1
  · have : 2 ^ (((k : Int) + p).toNat + 1) * (d * 2 ^ (-p).toNat) = 2 ^ (k + 1) * d * 2 ^ p.toNat := by
      have e : 2 ^ (((k : Int) + p).toNat + 1) * 2 ^ (-p).toNat = 2 ^ (k + 1) * 2 ^ p.toNat := by
        rw [← Nat.pow_add, ← Nat.pow_add]; congr 1; omega
      calc _ = d * (2 ^ (((k : Int) + p).toNat + 1) * 2 ^ (-p).toNat) := by ac_rfl
        _ = _ := by rw [e]; ac_rfl
    rw [this]; exact (Nat.mul_lt_mul_right hp).2 h2

/-- a quotient with a sticky digit rounds as the exact one, where at least one whole digit more is dropped. -/
theorem RNE_sticky (N n h : Nat) (hn : 0 < n) (hh : h % 2 = 0) (h0 : 0 < h) :
    RNE (2 * (N / n) + (N % n != 0).toNat) (2 * h) = RNE N (n * h) := by
  have hN := Nat.div_add_mod N n
  have hr := Nat.mod_lt N hn
  generalize hQ : N / n = Q at *
  generalize hR : N % n = r at *
  have hQh := Nat.div_add_mod Q h
  have hqh := Nat.mod_lt Q h0
  have d1 : N / (n * h) = Q / h := by rw [← Nat.div_div_eq_div_mul, hQ]
  have m1 : N % (n * h) = n * (Q % h) + r := by
    rw [Nat.mod_mul, hR, hQ]; omega
  generalize hs : (r != 0).toNat = s
  have s1 : s ≤ 1 := by rw [← hs]; cases (r != 0) <;> decide
  have s2 : s = 1 ↔ r ≠ 0 := by
    rw [← hs]; by_cases c : r = 0 <;> simp [c]
  have d2 : (2 * Q + s) / (2 * h) = Q / h := by
    rw [← Nat.div_div_eq_div_mul]; congr 1; omega
  have m2 : (2 * Q + s) % (2 * h) = 2 * (Q % h) + s := by
    rw [Nat.mod_mul]
    have e1 : (2 * Q + s) % 2 = s := by omega
    have e2 : (2 * Q + s) / 2 = Q := by omega
    rw [e1, e2]; omega
  unfold RNE
  rw [d1, d2, m1, m2]
  generalize Q % h = q at *
  congr 1
  -- the two tests are one
  have t1 : (2 * h < 2 * (2 * q + s)) ↔ (n * h < 2 * (n * q + r)) := by
    by_cases c : h ≤ 2 * q
    · by_cases c2 : h = 2 * q
      · subst c2
        have : n * (2 * q) = 2 * (n * q) := by ac_rfl
        rw [this]; omega
      · have : n * (h + 1) ≤ n * (2 * q) := Nat.mul_le_mul_left _ (by omega)
        rw [Nat.mul_add, Nat.mul_one] at this
        have e : n * (2 * q) = 2 * (n * q) := by ac_rfl
        omega
    · have : n * (2 * q + 2) ≤ n * h := Nat.mul_le_mul_left _ (by omega)
      rw [Nat.mul_add] at this
      have e : n * (2 * q) = 2 * (n * q) := by ac_rfl
      omega
  have t2 : (2 * (2 * q + s) = 2 * h) ↔ (2 * (n * q + r) = n * h) := by
    by_cases c : h ≤ 2 * q
    · by_cases c2 : h = 2 * q
      · subst c2
        have : n * (2 * q) = 2 * (n * q) := by ac_rfl
        rw [this]; omega
      · have : n * (h + 1) ≤ n * (2 * q) := Nat.mul_le_mul_left _ (by omega)
        rw [Nat.mul_add, Nat.mul_one] at this
        have e : n * (2 * q) = 2 * (n * q) := by ac_rfl
        omega
    · have : n * (2 * q + 2) ≤ n * h := Nat.mul_le_mul_left _ (by omega)
      rw [Nat.mul_add] at this
      have e : n * (2 * q) = 2 * (n * q) := by ac_rfl
      omega
  simp only [t1, t2]

theorem rungZ_sticky (N n : Nat) (p : Int) (hn : 0 < n) (hN : 2 ^ 53 * n ≤ N) :
    rungZ (2 * (N / n) + (N % n != 0).toNat) 1 p = rungZ (2 * N) n p := by
  have hQ0 : N / n ≠ 0 := by
    have := (Nat.le_div_iff_mul_le hn).2 hN
    omega
  obtain ⟨b1, b2⟩ := log2_div_bounds hn hQ0
  have hk53 : 53 ≤ (N / n).log2 := by
    have := (Nat.le_div_iff_mul_le hn).2 hN
    by_cases c : (N / n).log2 < 53
    · have := (Nat.log2_lt hQ0).1 c; omega
    · omega
  generalize hk : (N / n).log2 = k at *
  generalize hA : 2 * (N / n) + (N % n != 0).toNat = A
  have s1 : (N % n != 0).toNat ≤ 1 := by cases (N % n != 0) <;> decide
  have a1 : 2 ^ (k + 1) * 1 ≤ A := by
    have := (Nat.le_div_iff_mul_le hn).2 b1
    rw [Nat.pow_succ]; omega
  have a2 : A < 2 ^ (k + 1 + 1) * 1 := by
    have := (Nat.div_lt_iff_lt_mul hn).2 b2
    rw [Nat.pow_succ]; omega
  have c1 : 2 ^ (k + 1) * n ≤ 2 * N := by rw [Nat.pow_succ, Nat.mul_right_comm]; omega
  have c2 : 2 * N < 2 ^ (k + 1 + 1) * n := by rw [Nat.pow_succ, Nat.mul_right_comm]; omega
  unfold rungZ
  have hp := Nat.two_pow_pos p.toNat
  have hq := Nat.two_pow_pos (-p).toNat
  -- the last place is one
  by_cases hlow : 0 ≤ ((k + 1 : Nat) : Int) + p
  · have l1 := log2_Z A 1 p (by omega) (k + 1) a1 a2 hlow
    have l2 := log2_Z (2 * N) n p hn (k + 1) c1 c2 hlow
    unfold rungQ
    rw [l1, l2]
    generalize hL : (((k + 1 : Nat) : Int) + p).toNat - 52 = L
    congr 1
    -- divide both by 2^p
    obtain ⟨h, hh⟩ : ∃ h : Nat, (L : Int) - p = h + 2 := ⟨((L : Int) - p - 2).toNat, by omega⟩
    have e : 2 ^ (-p).toNat * 2 ^ L = 2 * 2 ^ (h + 1) * 2 ^ p.toNat := by
      rw [← Nat.pow_add, ← Nat.pow_add_one', ← Nat.pow_add]; congr 1; omega
    rw [Nat.one_mul, e, RNE_scale _ _ _ hp, Nat.mul_assoc n, e, ← Nat.mul_assoc n, RNE_scale _ _ _ hp, ← hA]
    rw [RNE_sticky _ _ _ hn (by rw [Nat.pow_succ]; omega) (Nat.two_pow_pos _)]
    have e2 : n * (2 * 2 ^ (h + 1)) = n * 2 ^ (h + 1) * 2 := by ac_rfl
    rw [e2, Nat.mul_comm 2 N, RNE_scale _ _ _ (by omega)]
  · -- the value is below one unit
    have hp0 : p.toNat = 0 := by omega
    have z : ∀ (m d : Nat), m < 2 ^ (k + 1 + 1) * d → 0 < d → m * 2 ^ p.toNat / (d * 2 ^ (-p).toNat) = 0 := by
      intro m d hm hd
      rw [hp0, Nat.pow_zero, Nat.mul_one]
      refine Nat.div_eq_of_lt (Nat.lt_of_lt_of_le hm ?_)
      rw [Nat.mul_comm]
      refine Nat.mul_le_mul_left _ (Nat.pow_le_pow_right (by omega) (by omega))
    unfold rungQ
    rw [z A 1 a2 (by omega), z (2 * N) n c2 hn]
    simp only [Nat.log2_zero, Nat.zero_sub, Nat.pow_zero, Nat.mul_one, Nat.zero_mul, Nat.zero_add, hp0, Nat.one_mul]
    obtain ⟨h, hh⟩ : ∃ h : Nat, (-p).toNat = h + 2 := ⟨(-p).toNat - 2, by omega⟩
    rw [hh]
    have e : (2 : Nat) ^ (h + 2) = 2 * 2 ^ (h + 1) := by rw [← Nat.pow_add_one']
    rw [e, ← hA, RNE_sticky _ _ _ hn (by rw [Nat.pow_succ]; omega) (Nat.two_pow_pos _)]
    have e2 : n * (2 * 2 ^ (h + 1)) = n * 2 ^ (h + 1) * 2 := by ac_rfl
    rw [e2, Nat.mul_comm 2 N, RNE_scale _ _ _ (by omega)]

theorem nearest_rungZ (neg : Bool) (mag : Nat) (place : Int) : D.nearest neg mag place = wd neg (min (rungZ mag 1 (place + 1074)) INF) := by
  rw [nearest_wd]; unfold rq rungZ
  have : (-1074 - place) = -(place + 1074) := by omega
  rw [this, Nat.one_mul]

theorem div_fin (x y : Nat) (hx : fin x) (hy : fin y) (h0 : mv y ≠ 0) :
    D.div x y = some (wd (sg x ^^ sg y) (rq (mv x * UN) (mv y))) := by
  obtain ⟨m, i, ex, hi, hm, hm53⟩ := read_fin x hx
  obtain ⟨n, j, ey, hj, hn, hn53⟩ := read_fin y hy
  have hn0 : n ≠ 0 := by intro h; subst h; rw [Nat.zero_mul] at hn; omega
  unfold Format.div
  rw [ex, ey]
  simp only [Datum.quotient, if_neg hn0, Option.map_some, Format.write, Option.some.injEq]
  by_cases hm0 : m = 0
  · subst hm0
    rw [Nat.zero_mul] at hm
    rw [← hm]
    simp only [Nat.zero_shiftLeft, Nat.zero_div, Nat.zero_mod]
    rw [nearest_wd]
    refine wd_congr rfl ?_
    unfold rq
    simp [rungQ_zero]
  · rw [nearest_rungZ]
    have hf : double.fractionBits + 2 = 54 := rfl
    rw [hf]
    have lm : m.log2 ≤ 52 := log2_lt_pow (by omega)
    generalize hmore : 54 + n.log2 - m.log2 = more
    rw [Nat.shiftLeft_eq]
    have big : 2 ^ 53 * n ≤ m * 2 ^ more := by
      have a := pow_log2_le hm0
      have b := lt_log2_pow n
      calc 2 ^ 53 * n ≤ 2 ^ 53 * 2 ^ (n.log2 + 1) := Nat.mul_le_mul_left _ (by omega)
        _ = 2 ^ m.log2 * 2 ^ more := by rw [← Nat.pow_add, ← Nat.pow_add]; congr 1; omega
        _ ≤ m * 2 ^ more := Nat.mul_le_mul_right _ a
    rw [rungZ_sticky _ _ _ (by omega) big]
    refine wd_congr rfl ?_
    unfold rq
    refine congrArg (fun t => min t INF) ?_
    unfold rungZ
    rw [← hm, ← hn]
    generalize hp : i - j - (more : Int) - 1 + 1074 = p
    -- both are one fraction
    have hp1 := Nat.two_pow_pos (-p).toNat
    have hj1 := Nat.two_pow_pos (j + 1074).toNat
    have cross : 2 * (m * 2 ^ more) * 2 ^ p.toNat * (n * 2 ^ (j + 1074).toNat) = m * 2 ^ (i + 1074).toNat * UN * (n * 2 ^ (-p).toNat) := by
      have e : 2 ^ (more + 1) * 2 ^ p.toNat * 2 ^ (j + 1074).toNat = 2 ^ (i + 1074).toNat * UN * 2 ^ (-p).toNat := by
        have hU := UE_eq
        rw [UN_def, ← Nat.pow_add, ← Nat.pow_add, ← Nat.pow_add, ← Nat.pow_add]
        have e0 : more + 1 + p.toNat + (j + 1074).toNat = (i + 1074).toNat + UE + (-p).toNat := by omega
        rw [e0]
      have e2 : 2 ^ (more + 1) = 2 * 2 ^ more := Nat.pow_succ'
      rw [e2] at e
      clear hp big
      generalize UN = U at *
      calc _ = m * n * (2 * 2 ^ more * 2 ^ p.toNat * 2 ^ (j + 1074).toNat) := by ac_rfl
        _ = _ := by rw [e]; ac_rfl
    refine Nat.le_antisymm (rungQ_mono _ _ _ _ (Nat.mul_pos (by omega) hp1) (Nat.mul_pos (by omega) hj1) (Nat.le_of_eq cross)) (rungQ_mono _ _ _ _ (Nat.mul_pos (by omega) hj1) (Nat.mul_pos (by omega) hp1) (Nat.le_of_eq cross.symm))

end Fl
namespace Wd
/-- 2 ^ 32 -/
abbrev W : Nat := 4294967296
def val : List Nat → Nat
  | [] => 0
  | x :: r => x + 4294967296 * val r
def Ok (l : List Nat) : Prop := ∀ x ∈ l, x < 4294967296
/-- none 0 at the end -/
def Nm (l : List Nat) : Prop := l.getLast? ≠ some 0
theorem W_pow : (4294967296 : Nat) = 2 ^ 32 := by decide
theorem pw (k : Nat) : (4294967296 : Nat) ^ k = 2 ^ (32 * k) := by rw [W_pow, ← Nat.pow_mul]
theorem pw_pos (k : Nat) : 0 < (4294967296 : Nat) ^ k := Nat.pow_pos (by decide)
theorem pw_succ (k : Nat) : (4294967296 : Nat) ^ (k + 1) = 4294967296 * 4294967296 ^ k := by rw [Nat.pow_succ, Nat.mul_comm]
theorem val_nil : val [] = 0 := rfl
theorem val_cons (x : Nat) (r : List Nat) : val (x :: r) = x + 4294967296 * val r := rfl
theorem val_append (a b : List Nat) : val (a ++ b) = val a + 4294967296 ^ a.length * val b := by
  induction a with
  | nil => simp [val]
  | cons x r ih =>
    rw [List.cons_append, val_cons, val_cons, ih, List.length_cons, pw_succ, Nat.mul_add, Nat.mul_assoc]; omega
theorem val_snoc (a : List Nat) (x : Nat) : val (a ++ [x]) = val a + 4294967296 ^ a.length * x := by
  rw [val_append]; simp [val]
theorem val_single (x : Nat) : val [x] = x := by simp [val]
theorem Ok.nil : Ok [] := fun _ h => absurd h List.not_mem_nil
theorem Ok.cons {x : Nat} {r : List Nat} (h : x < 4294967296) (g : Ok r) : Ok (x :: r) := fun y hy => by
  rcases List.mem_cons.1 hy with rfl | hy
  · exact h
  · exact g y hy
theorem Ok.append {a b : List Nat} (h : Ok a) (g : Ok b) : Ok (a ++ b) := fun x hx => by
  rcases List.mem_append.1 hx with hx | hx
  · exact h x hx
  · exact g x hx
theorem Ok.left {a b : List Nat} (h : Ok (a ++ b)) : Ok a := fun x hx => h x (List.mem_append.2 (.inl hx))
theorem Ok.right {a b : List Nat} (h : Ok (a ++ b)) : Ok b := fun x hx => h x (List.mem_append.2 (.inr hx))
theorem Ok.snoc {a : List Nat} {x : Nat} (h : Ok a) (g : x < 4294967296) : Ok (a ++ [x]) := h.append (.cons g .nil)
theorem Ok.head {x : Nat} {r : List Nat} (h : Ok (x :: r)) : x < 4294967296 := h x List.mem_cons_self
theorem Ok.tail {x : Nat} {r : List Nat} (h : Ok (x :: r)) : Ok r := fun y hy => h y (List.mem_cons_of_mem _ hy)
theorem Ok.take {l : List Nat} (h : Ok l) (k : Nat) : Ok (l.take k) := fun x hx => h x (List.mem_of_mem_take hx)
theorem Ok.drop {l : List Nat} (h : Ok l) (k : Nat) : Ok (l.drop k) := fun x hx => h x (List.mem_of_mem_drop hx)
theorem Ok.get {l : List Nat} (h : Ok l) (k : Nat) : l.getD k 0 < 4294967296 := by
  rw [List.getD_eq_getElem?_getD]
  by_cases hk : k < l.length
  · rw [List.getElem?_eq_getElem hk]; exact h _ (List.getElem_mem hk)
  · rw [List.getElem?_eq_none (by omega)]; decide
theorem Ok.replicate (n : Nat) : Ok (List.replicate n 0) := fun x hx => by
  rw [(List.mem_replicate.1 hx).2]; decide
theorem val_replicate (n : Nat) : val (List.replicate n 0) = 0 := by
  induction n with
  | zero => rfl
  | succ n ih => rw [List.replicate_succ, val_cons, ih]
theorem val_lt {l : List Nat} (h : Ok l) : val l < 4294967296 ^ l.length := by
  induction l with
  | nil => simp [val]
  | cons x r ih =>
    have := ih h.tail
    have hx := h.head
    rw [val_cons, List.length_cons, pw_succ]
    generalize 4294967296 ^ r.length = P at *
    omega
theorem Nm.nil : Nm [] := by unfold Nm; simp
theorem nm_snoc {a : List Nat} {x : Nat} : Nm (a ++ [x]) ↔ x ≠ 0 := by unfold Nm; simp
theorem snoc_of_ne {l : List Nat} (h : l ≠ []) : ∃ a x, l = a ++ [x] := ⟨l.dropLast, l.getLast h, (List.dropLast_concat_getLast h).symm⟩
theorem Nm.le {l : List Nat} (h : Nm l) (h0 : l ≠ []) : 4294967296 ^ (l.length - 1) ≤ val l := by
  obtain ⟨a, x, rfl⟩ := snoc_of_ne h0
  have hx := nm_snoc.1 h
  rw [val_snoc, List.length_append, List.length_singleton, Nat.add_sub_cancel]
  have : 4294967296 ^ a.length * 1 ≤ 4294967296 ^ a.length * x := Nat.mul_le_mul_left _ (by omega)
  omega
theorem Nm.pos {l : List Nat} (h : Nm l) (h0 : l ≠ []) : 0 < val l := Nat.lt_of_lt_of_le (pw_pos _) (h.le h0)
theorem Nm.nil_iff {l : List Nat} (h : Nm l) : val l = 0 ↔ l = [] := by
  constructor
  · intro e
    by_cases h0 : l = []
    · exact h0
    · have := h.pos h0; omega
  · rintro rfl; rfl
theorem Nm.cons {x : Nat} {r : List Nat} (h : Nm (x :: r)) : Nm r := by
  unfold Nm at *
  cases r with
  | nil => simp
  | cons y s => rw [List.getLast?_cons_cons] at h; exact h
theorem val_inj : ∀ {a b : List Nat}, Ok a → Ok b → Nm a → Nm b → val a = val b → a = b := by
  intro a
  induction a with
  | nil => intro b _ _ _ nb e; exact (nb.nil_iff.1 e.symm).symm
  | cons x r ih =>
    intro b oa ob na nb e
    cases b with
    | nil => exact na.nil_iff.1 e
    | cons y s =>
      rw [val_cons, val_cons] at e
      have hx := oa.head
      have hy := ob.head
      have h1 : x = y := by omega
      have h2 : val r = val s := by omega
      rw [h1, ih oa.tail ob.tail na.cons nb.cons h2]
/-- the words of a number -/
theorem exists_words (n : Nat) : ∃ l, Ok l ∧ Nm l ∧ val l = n := by
  induction n using Nat.strongRecOn with
  | _ n ih =>
    by_cases h : n = 0
    · exact ⟨[], .nil, .nil, h.symm⟩
    · obtain ⟨l, ok, nm, e⟩ := ih (n / 4294967296) (by omega)
      refine ⟨n % 4294967296 :: l, .cons (by omega) ok, ?_, by rw [val_cons, e]; omega⟩
      unfold Nm at *
      cases l with
      | nil =>
        rw [List.getLast?_singleton]
        have : n / 4294967296 = 0 := e.symm
        intro c
        have := Option.some.inj c
        omega
      | cons y s => rw [List.getLast?_cons_cons]; exact nm
theorem length_le {l : List Nat} (nm : Nm l) {k : Nat} (h : val l < 4294967296 ^ k) : l.length ≤ k := by
  by_cases h0 : l = []
  · subst h0; simp
  · have := nm.le h0
    by_cases c : l.length ≤ k
    · exact c
    · have : (4294967296 : Nat) ^ k ≤ 4294967296 ^ (l.length - 1) := Nat.pow_le_pow_right (by decide) (by omega)
      omega
/-- what is left of the words without those 0 at the end -/
theorem take_trim (l : List Nat) (k : Nat) (h : ∀ i, k ≤ i → l.getD i 0 = 0) : val (l.take k) = val l := by
  induction l generalizing k with
  | nil => simp
  | cons x r ih =>
    cases k with
    | zero =>
      have hx : x = 0 := h 0 (Nat.le_refl _)
      have := ih 0 (fun i _ => by have := h (i + 1) (by omega); simpa using this)
      rw [List.take_zero] at this ⊢
      rw [val_cons, ← this, hx]; rfl
    | succ k =>
      rw [List.take_succ_cons, val_cons, val_cons, ih k (fun i hi => by have := h (i + 1) (by omega); simpa using this)]
theorem take_succ' (l : List Nat) (k : Nat) (h : k < l.length) : l.take (k + 1) = l.take k ++ [l.getD k 0] := by
  rw [List.take_succ_eq_append_getElem h]; simp [List.getD_eq_getElem?_getD, h]
theorem drop_cons' (l : List Nat) (k : Nat) (h : k < l.length) : l.drop k = l.getD k 0 :: l.drop (k + 1) := by
  rw [List.drop_eq_getElem_cons h]; simp [List.getD_eq_getElem?_getD, h]
theorem val_take_succ (l : List Nat) (k : Nat) (h : k < l.length) : val (l.take (k + 1)) = val (l.take k) + 4294967296 ^ k * l.getD k 0 := by
  rw [take_succ' l k h, val_snoc, List.length_take, Nat.min_eq_left (by omega)]
theorem val_split (l : List Nat) (k : Nat) (h : k ≤ l.length) : val l = val (l.take k) + 4294967296 ^ k * val (l.drop k) := by
  conv => lhs; rw [← List.take_append_drop k l]
  rw [val_append, List.length_take, Nat.min_eq_left h]
theorem getD_beyond (l : List Nat) (k : Nat) (h : l.length ≤ k) : l.getD k 0 = 0 := by
  rw [List.getD_eq_getElem?_getD, List.getElem?_eq_none h]; rfl
/-- of a list, or of what stands behind its end: 0 -/
theorem val_take_succ' (l : List Nat) (k : Nat) : val (l.take (k + 1)) = val (l.take k) + 4294967296 ^ k * l.getD k 0 := by
  by_cases h : k < l.length
  · exact val_take_succ l k h
  · rw [getD_beyond l k (by omega), List.take_of_length_le (by omega), List.take_of_length_le (by omega)]; simp
theorem take_all {l : List Nat} {k : Nat} (h : l.length ≤ k) : l.take k = l := List.take_of_length_le h
/-- the first place from above at which two lists differ decides -/
theorem cmp_at {a b : List Nat} {k : Nat} (oa : Ok a) (hl : a.length = b.length) (hk : k < a.length) (he : a.drop (k + 1) = b.drop (k + 1)) (h : a.getD k 0 < b.getD k 0) : val a < val b := by
  have ea := val_split a k (by omega)
  have eb := val_split b k (by omega)
  rw [drop_cons' a k hk, val_cons, he] at ea
  rw [drop_cons' b k (by omega), val_cons] at eb
  have la := val_lt (oa.take k)
  rw [List.length_take, Nat.min_eq_left (by omega)] at la
  generalize val (b.drop (k + 1)) = D at *
  generalize 4294967296 ^ k = P at *
  have h1 : P * (a.getD k 0 + 4294967296 * D) + P ≤ P * (b.getD k 0 + 4294967296 * D) := by
    rw [← Nat.mul_succ]; exact Nat.mul_le_mul_left _ (by omega)
  omega
theorem cmp_len {a b : List Nat} (oa : Ok a) (nb : Nm b) (h : a.length < b.length) : val a < val b := by
  have h0 : b ≠ [] := by intro c; subst c; simp at h
  have h1 := val_lt oa
  have h2 := nb.le h0
  have : (4294967296 : Nat) ^ a.length ≤ 4294967296 ^ (b.length - 1) := Nat.pow_le_pow_right (by decide) (by omega)
  omega
end Wd
namespace Wd
theorem getD_set (l : List Nat) (j y i : Nat) (h : j < l.length) : (l.set j y).getD i 0 = if i = j then y else l.getD i 0 := by
  rw [List.getD_eq_getElem?_getD, List.getD_eq_getElem?_getD, List.getElem?_set]
  by_cases c : j = i
  · subst c; rw [if_pos rfl, if_pos rfl, if_pos h]; rfl
  · rw [if_neg c, if_neg (fun e => c e.symm)]
theorem val_set (l : List Nat) (j y : Nat) (h : j < l.length) : val (l.set j y) + 4294967296 ^ j * l.getD j 0 = val l + 4294967296 ^ j * y := by
  induction l generalizing j with
  | nil => simp at h
  | cons x r ih =>
    cases j with
    | zero => simp [val]; omega
    | succ j =>
      have := ih j (by simpa using h)
      have e : (x :: r).getD (j + 1) 0 = r.getD j 0 := by simp
      rw [List.set_cons_succ, val_cons, val_cons, e, pw_succ, Nat.mul_assoc, Nat.mul_assoc]
      generalize 4294967296 ^ j * r.getD j 0 = u at *
      generalize 4294967296 ^ j * y = v at *
      omega
theorem Ok.set {l : List Nat} (h : Ok l) {j y : Nat} (hy : y < 4294967296) : Ok (l.set j y) := fun x hx => by
  rcases List.mem_or_eq_of_mem_set hx with hx | rfl
  · exact h x hx
  · exact hy
/-- sum: one word more -/
theorem sum_step {O P A B c x y : Nat} (h : O + P * c = A + B) : O + P * ((x + c + y) % 4294967296) + 4294967296 * P * ((x + c + y) / 4294967296) = A + P * x + (B + P * y) := by
  have e := Nat.div_add_mod (x + c + y) 4294967296
  generalize (x + c + y) / 4294967296 = q at *
  generalize (x + c + y) % 4294967296 = r at *
  have : P * r + 4294967296 * P * q = P * (x + c + y) := by rw [← e, Nat.mul_add, Nat.mul_comm 4294967296 P, Nat.mul_assoc, Nat.add_comm]
  rw [Nat.mul_add, Nat.mul_add] at this
  omega
theorem sum_carry {c x y : Nat} (hc : c ≤ 1) (hx : x < 4294967296) (hy : y < 4294967296) : (x + c + y) / 4294967296 ≤ 1 := by omega
/-- less: one word more; t is what is taken away, b' the borrow that is left -/
theorem less_step {O P A B b b' x y d : Nat} (h : O + B = A + P * b) (hd : d + (b + y) = x + 4294967296 * b') : O + P * d + (B + P * y) = A + P * x + 4294967296 * P * b' := by
  have : P * (d + (b + y)) = P * (x + 4294967296 * b') := by rw [hd]
  rw [Nat.mul_add, Nat.mul_add, Nat.mul_add] at this
  have e : P * (4294967296 * b') = 4294967296 * P * b' := by rw [← Nat.mul_assoc, Nat.mul_comm P]
  omega
theorem less_end {O A B P b : Nat} (h : O + B = A + P * b) (hO : O < P) (hAB : B ≤ A) : O = A - B ∧ b = 0 := by
  have : b = 0 := by
    by_cases c : b = 0
    · exact c
    · have : P * 1 ≤ P * b := Nat.mul_le_mul_left _ (by omega)
      omega
  subst this
  omega
/-- product: one word of a row; r is what stood there -/
theorem mul_step {V V' P a x c r t : Nat} (ht : t = a * x + r + c) (h : V' + P * r = V + P * (t % 4294967296)) : V' + 4294967296 * P * (t / 4294967296) = V + P * c + P * (a * x) := by
  have e := Nat.div_add_mod t 4294967296
  generalize t / 4294967296 = q at *
  generalize t % 4294967296 = s at *
  have : P * s + 4294967296 * P * q = P * t := by rw [← e, Nat.mul_add, Nat.mul_comm 4294967296 P, Nat.mul_assoc, Nat.add_comm]
  rw [ht, Nat.mul_add, Nat.mul_add] at this
  omega
/-- product: one step of a row, one row -/
theorem mul_row {V V' R0 A a x c r t k i : Nat} (hV : V + 4294967296 ^ (k + i) * c = R0 + 4294967296 ^ k * (A * x)) (ht : t = a * x + r + c) (h : V' + 4294967296 ^ (k + i) * r = V + 4294967296 ^ (k + i) * (t % 4294967296)) :
    V' + 4294967296 ^ (k + (i + 1)) * (t / 4294967296) = R0 + 4294967296 ^ k * ((A + 4294967296 ^ i * a) * x) := by
  have e := mul_step ht h
  rw [← Nat.add_assoc k i 1, pw_succ, e, hV, Nat.add_mul, Nat.mul_add, Nat.pow_add, Nat.mul_assoc, Nat.mul_assoc, Nat.add_assoc]
theorem mul_end {V V' L s x c k m : Nat} (hV : V + 4294967296 ^ (k + m) * c = L * s + 4294967296 ^ k * (L * x)) (h : V' + 4294967296 ^ (k + m) * 0 = V + 4294967296 ^ (k + m) * c) : V' = L * (s + 4294967296 ^ k * x) := by
  rw [Nat.mul_zero, Nat.add_zero] at h
  rw [h, hV, Nat.mul_add, Nat.mul_left_comm]
theorem mul_fits {a x c r : Nat} (ha : a < 4294967296) (hx : x < 4294967296) (hr : r < 4294967296) (hc : c < 4294967296) : a * x + r + c < 18446744073709551616 := by
  have : a * x ≤ 4294967295 * 4294967295 := Nat.mul_le_mul (by omega) (by omega)
  omega
theorem or_lt {s x c : Nat} (hc : c < 2 ^ s) : (x * 2 ^ s) ||| c = x * 2 ^ s + c := by
  rw [Nat.mul_comm]; exact (Nat.two_pow_add_eq_or_of_lt hc x).symm
/-- up: one word more -/
theorem up_step {O P S A c x : Nat} (h : O + P * c = S * A) : O + P * ((x * S + c) % 4294967296) + 4294967296 * P * ((x * S + c) / 4294967296) = S * A + P * (x * S) := by
  have e := Nat.div_add_mod (x * S + c) 4294967296
  generalize (x * S + c) / 4294967296 = q at *
  generalize (x * S + c) % 4294967296 = r at *
  have : P * r + 4294967296 * P * q = P * (x * S + c) := by rw [← e, Nat.mul_add, Nat.mul_comm 4294967296 P, Nat.mul_assoc, Nat.add_comm]
  rw [Nat.mul_add] at this
  omega
/-- a list is told by its words -/
theorem val_digits (l : List Nat) (N : Nat) (h : ∀ i, i < l.length → l.getD i 0 = N / 4294967296 ^ i % 4294967296) (hN : N < 4294967296 ^ l.length) : val l = N := by
  induction l generalizing N with
  | nil => simp at hN; subst hN; rfl
  | cons x r ih =>
    have hx : x = N % 4294967296 := by simpa using h 0 (by simp)
    have := ih (N / 4294967296) (fun i hi => by
      have := h (i + 1) (by simpa using hi)
      rw [pw_succ, ← Nat.div_div_eq_div_mul] at this
      simpa using this) (by
      rw [List.length_cons, pw_succ] at hN
      exact (Nat.div_lt_iff_lt_mul (by decide)).2 (by rw [Nat.mul_comm]; exact hN))
    rw [val_cons, this, hx]; omega
theorem val_div (l : List Nat) (ok : Ok l) (k : Nat) : val l / 4294967296 ^ k = val (l.drop k) := by
  by_cases h : k ≤ l.length
  · rw [val_split l k h]
    have := val_lt (ok.take k)
    rw [List.length_take, Nat.min_eq_left h] at this
    rw [Nat.add_mul_div_left _ _ (pw_pos k), Nat.div_eq_of_lt this, Nat.zero_add]
  · rw [List.drop_of_length_le (by omega), val_nil]
    refine Nat.div_eq_of_lt (Nat.lt_of_lt_of_le (val_lt ok) (Nat.pow_le_pow_right (by decide) (by omega)))
theorem val_mod (l : List Nat) (ok : Ok l) (k : Nat) (h : k ≤ l.length) : val l % 4294967296 ^ k = val (l.take k) := by
  rw [val_split l k h, Nat.add_mul_mod_self_left]
  have := val_lt (ok.take k)
  rw [List.length_take, Nat.min_eq_left h] at this
  exact Nat.mod_eq_of_lt this
theorem drop_two (l : List Nat) (i : Nat) : val (l.drop i) = l.getD i 0 + 4294967296 * (l.getD (i + 1) 0 + 4294967296 * val (l.drop (i + 2))) := by
  have one : ∀ i, val (l.drop i) = l.getD i 0 + 4294967296 * val (l.drop (i + 1)) := by
    intro i
    by_cases h : i < l.length
    · rw [drop_cons' l i h, val_cons]
    · rw [getD_beyond l i (by omega), List.drop_of_length_le (by omega), List.drop_of_length_le (by omega)]; rfl
  rw [one i, one (i + 1)]
/-- down: one word -/
theorem down_word (l : List Nat) (ok : Ok l) (s i : Nat) (hs : s < 32) : (l.getD i 0 / 2 ^ s ||| l.getD (i + 1) 0 * 2 ^ (32 - s) % 4294967296) = val l / 2 ^ s / 4294967296 ^ i % 4294967296 := by
  have hx := ok.get i
  rw [Nat.div_div_eq_div_mul, Nat.mul_comm (2 ^ s), ← Nat.div_div_eq_div_mul, val_div l ok i, drop_two l i]
  generalize l.getD i 0 = x at *
  generalize l.getD (i + 1) 0 = y at *
  generalize val (l.drop (i + 2)) = D at *
  have hp : (4294967296 : Nat) = 2 ^ (32 - s) * 2 ^ s := by rw [← Nat.pow_add, Nat.sub_add_cancel (by omega)]
  have e1 : (x + 4294967296 * (y + 4294967296 * D)) / 2 ^ s = x / 2 ^ s + 2 ^ (32 - s) * (y + 4294967296 * D) := by
    generalize y + 4294967296 * D = E
    have : x + 4294967296 * E = x + 2 ^ s * (2 ^ (32 - s) * E) := by rw [hp]; ac_rfl
    rw [this, Nat.add_mul_div_left _ _ (Nat.two_pow_pos s)]
  have hxs : x / 2 ^ s < 2 ^ (32 - s) := by
    rw [Nat.div_lt_iff_lt_mul (Nat.two_pow_pos s), ← hp]; exact hx
  rw [e1, Nat.mul_add, ← Nat.add_assoc]
  have e2 : 2 ^ (32 - s) * (4294967296 * D) = 4294967296 * (2 ^ (32 - s) * D) := by ac_rfl
  rw [e2, Nat.add_mul_mod_self_left]
  have e3 : y * 2 ^ (32 - s) % 4294967296 = y % 2 ^ s * 2 ^ (32 - s) := by
    conv => lhs; rw [hp, Nat.mul_comm (2 ^ (32 - s)) (2 ^ s)]
    exact Nat.mul_mod_mul_right _ _ _
  rw [e3, Nat.or_comm, or_lt hxs]
  have e4 : (x / 2 ^ s + 2 ^ (32 - s) * y) % 4294967296 = x / 2 ^ s + 2 ^ (32 - s) * (y % 2 ^ s) := by
    have hd := Nat.div_add_mod y (2 ^ s)
    have hm := Nat.mod_lt y (Nat.two_pow_pos s)
    have : x / 2 ^ s + 2 ^ (32 - s) * y = x / 2 ^ s + 2 ^ (32 - s) * (y % 2 ^ s) + 4294967296 * (y / 2 ^ s) := by
      conv => lhs; rw [← hd]
      rw [Nat.mul_add, ← Nat.mul_assoc, ← hp]; omega
    rw [this, Nat.add_mul_mod_self_left]
    refine Nat.mod_eq_of_lt ?_
    have : 2 ^ (32 - s) * (y % 2 ^ s + 1) ≤ 2 ^ (32 - s) * 2 ^ s := Nat.mul_le_mul_left _ (by omega)
    rw [← hp, Nat.mul_succ] at this
    omega
  rw [e4, Nat.mul_comm (y % 2 ^ s)]; omega
end Wd
namespace Rl
theorem tdiv_h {n : Int} {g : Nat} (h : g = 1) : n = n.tdiv (g : Int) := by subst h; exact (Int.tdiv_one _).symm
theorem div_h {n g : Nat} (h : g = 1) : n = n / g := by subst h; exact (Nat.div_one _).symm
theorem add_cop {x y : Rat} (hg : Nat.gcd x.den y.den = 1) : (x + y).num = x.num * y.den + y.num * x.den ∧ (x + y).den = x.den * y.den := by
  show (Rat.add x y).num = _ ∧ (Rat.add x y).den = _
  unfold Rat.add
  simp only [hg, dif_pos, and_self]
theorem whole_eq {x : Rat} (h : x.den = 1) : x = (x.num : Rat) := by
  apply Rat.ext
  · simp
  · simp [h]
theorem add_whole {x y : Rat} (hx : x.den = 1) (hy : y.den = 1) : x + y = ((x.num + y.num : Int) : Rat) := by
  have := add_cop (x := x) (y := y) (by rw [hx]; simp)
  apply Rat.ext
  · rw [this.1, hx, hy, Rat.num_intCast]; simp
  · rw [this.2, hx, hy, Rat.den_intCast]
theorem add_big {x y : Rat} (hg : Nat.gcd x.den y.den ≠ 1) (g : Nat) (hgd : g = Nat.gcd x.den y.den) (n : Int) (hn : n = x.num * ((y.den / g : Nat) : Int) + y.num * ((x.den / g : Nat) : Int)) (h : Nat) (hh : h = Nat.gcd n.natAbs g) :
    (x + y).num = n.tdiv h ∧ (x + y).den = x.den / g * (y.den / h) := by
  subst hgd
  have e : (x + y).num = n.tdiv h ∧ (x + y).den = (x.den / Nat.gcd x.den y.den * y.den) / h := by
    show (Rat.add x y).num = _ ∧ (Rat.add x y).den = _
    unfold Rat.add
    simp only [hg, dif_neg, not_false_eq_true]
    unfold Rat.maybeNormalize
    subst hn hh
    split
    · rename_i c
      exact ⟨tdiv_h c, div_h c⟩
    · simp only [Int.divExact_eq_tdiv, Nat.divExact_eq_div, and_self]
  refine ⟨e.1, ?_⟩
  rw [e.2, Nat.mul_div_assoc]
  rw [hh]
  exact Nat.dvd_trans (Nat.gcd_dvd_right _ _) (Nat.gcd_dvd_right _ _)
theorem mul_steps {x y : Rat} (g1 g2 : Nat) (h1 : g1 = Nat.gcd x.num.natAbs y.den) (h2 : g2 = Nat.gcd y.num.natAbs x.den) :
    (x * y).num = x.num.tdiv g1 * y.num.tdiv g2 ∧ (x * y).den = x.den / g2 * (y.den / g1) := by
  show (Rat.mul x y).num = _ ∧ (Rat.mul x y).den = _
  unfold Rat.mul
  simp only [Int.divExact_eq_tdiv, Nat.divExact_eq_div, h1, h2, and_self]
theorem mul_zero_of {x y : Rat} (h : x.num = 0 ∨ y.num = 0) : x * y = 0 := by
  rcases h with h | h
  · rw [Rat.num_eq_zero.1 h, Rat.zero_mul]
  · rw [Rat.num_eq_zero.1 h, Rat.mul_zero]
theorem inv_parts {y : Rat} (h : y.num ≠ 0) : (y⁻¹).num = (if y.num < 0 then -(y.den : Int) else (y.den : Int)) ∧ (y⁻¹).den = y.num.natAbs := by
  show (Rat.inv y).num = _ ∧ (Rat.inv y).den = _
  unfold Rat.inv
  by_cases c : y.num < 0
  · simp [c]
  · have : 0 < y.num := by omega
    simp [c, this]
end Rl
