/- Plain laws of binary64: how Ieee rounds, said by one rounding of rationals ('rungQ'); nothing of the program is in sight. No conditions. -/
import GoSem.Core.Float
namespace Fl
open Ieee

/-- 'n / g' to the nearest whole number, ties to even. -/
def RNE (n g : Nat) : Nat := n / g + (if g < 2 * (n % g) ∨ (2 * (n % g) = g ∧ (n / g) % 2 = 1) then 1 else 0)

theorem RNE_scale (n g k : Nat) (hk : 0 < k) : RNE (n * k) (g * k) = RNE n g := by
  unfold RNE
  rw [Nat.mul_div_mul_right _ _ hk, Nat.mul_mod_mul_right]
  have e1 : (g * k < 2 * (n % g * k)) ↔ (g < 2 * (n % g)) := by
    rw [← Nat.mul_assoc]; exact Nat.mul_lt_mul_right hk
  have e2 : (2 * (n % g * k) = g * k) ↔ (2 * (n % g) = g) := by
    rw [← Nat.mul_assoc]; exact Nat.mul_left_inj (by omega)
  simp only [e1, e2]

theorem RNE_mul (n g : Nat) (hg : 0 < g) : RNE (n * g) g = n := by
  unfold RNE
  rw [Nat.mul_div_cancel _ hg, Nat.mul_mod_left]
  have : ¬ (g < 2 * 0 ∨ (2 * 0 = g ∧ n % 2 = 1)) := by omega
  rw [if_neg this]; rfl

theorem RNE_zero (g : Nat) : RNE 0 g = 0 := by
  unfold RNE
  rw [Nat.zero_div, Nat.zero_mod, if_neg (by omega)]

theorem RNE_one (n : Nat) : RNE n 1 = n := by
  have := RNE_mul n 1 (by omega); rwa [Nat.mul_one] at this

theorem RNE_lo (n g : Nat) : n / g ≤ RNE n g := by unfold RNE; omega
theorem RNE_hi (n g : Nat) : RNE n g ≤ n / g + 1 := by unfold RNE; split <;> omega

/-- within half a unit. -/
theorem RNE_near (n g : Nat) (_hg : 0 < g) : 2 * (RNE n g * g) ≤ 2 * n + g ∧ 2 * n ≤ 2 * (RNE n g * g) + g := by
  have h := Nat.div_add_mod n g
  have hm := Nat.mod_lt n _hg
  unfold RNE
  generalize n / g = q at *
  generalize n % g = r at *
  subst h
  split
  · rw [Nat.add_mul, Nat.one_mul, Nat.mul_comm q g]; omega
  · rw [Nat.add_zero, Nat.mul_comm q g]; omega

theorem RNE_mono' (n m g : Nat) (h : n ≤ m) : RNE n g ≤ RNE m g := by
  have hd : n / g ≤ m / g := Nat.div_le_div_right h
  by_cases e : n / g = m / g
  · have h1 := Nat.div_add_mod n g
    have h2 := Nat.div_add_mod m g
    have : n % g ≤ m % g := by rw [e] at h1; omega
    unfold RNE
    rw [e]
    split
    · rename_i c
      rw [if_pos]; · omega
      rcases c with c | c
      · omega
      · by_cases c2 : g < 2 * (m % g)
        · exact .inl c2
        · right; exact ⟨by omega, c.2⟩
    · omega
  · have a := RNE_hi n g
    have b := RNE_lo m g
    omega

/-- monotone over all fractions. -/
theorem RNE_mono (n g m k : Nat) (hg : 0 < g) (hk : 0 < k) (h : n * k ≤ m * g) : RNE n g ≤ RNE m k := by
  rw [← RNE_scale n g k hk, ← RNE_scale m k g hg, Nat.mul_comm k g]
  exact RNE_mono' _ _ _ h

theorem log2_lt_pow {n k : Nat} (h : n < 2 ^ (k + 1)) : n.log2 ≤ k := by
  by_cases h0 : n = 0
  · subst h0; simp
  · have := (Nat.log2_lt h0).2 h; omega

theorem lt_log2_pow (n : Nat) : n < 2 ^ (n.log2 + 1) := Nat.lt_log2_self

theorem pow_log2_le {n : Nat} (h : n ≠ 0) : 2 ^ n.log2 ≤ n := Nat.log2_self_le h

theorem log2_unique {n k : Nat} (h1 : 2 ^ k ≤ n) (h2 : n < 2 ^ (k + 1)) : n.log2 = k := by
  have h0 : n ≠ 0 := by have := Nat.two_pow_pos k; omega
  have a := log2_lt_pow h2
  have b : ¬ n.log2 < k := by
    intro c
    have := (Nat.log2_lt h0).1 c
    omega
  omega

theorem log2_mul_pow (n e : Nat) (h : n ≠ 0) : (n * 2 ^ e).log2 = n.log2 + e := by
  refine log2_unique ?_ ?_
  · rw [Nat.pow_add]; exact Nat.mul_le_mul_right _ (pow_log2_le h)
  · have : n.log2 + e + 1 = (n.log2 + 1) + e := by omega
    rw [this, Nat.pow_add]
    exact (Nat.mul_lt_mul_right (Nat.two_pow_pos e)).2 (lt_log2_pow n)

theorem log2_mono {n m : Nat} (h : n ≤ m) : n.log2 ≤ m.log2 := log2_lt_pow (Nat.lt_of_le_of_lt h (lt_log2_pow m))

theorem log2_div_pow (n j : Nat) : (n / 2 ^ j).log2 = n.log2 - j := by
  by_cases h : n < 2 ^ j
  · rw [Nat.div_eq_of_lt h]
    by_cases h0 : n = 0
    · subst h0; simp
    · have := (Nat.log2_lt h0).2 h
      simp; omega
  · have hle : 2 ^ j ≤ n := by omega
    have h0 : n ≠ 0 := by have := Nat.two_pow_pos j; omega
    have hj : j ≤ n.log2 := by
      by_cases c : n.log2 < j
      · have := (Nat.log2_lt h0).1 c; omega
      · omega
    refine log2_unique ?_ ?_
    · rw [Nat.le_div_iff_mul_le (Nat.two_pow_pos j), ← Nat.pow_add, Nat.sub_add_cancel hj]; exact pow_log2_le h0
    · rw [Nat.div_lt_iff_lt_mul (Nat.two_pow_pos j), ← Nat.pow_add]
      have : n.log2 - j + 1 + j = n.log2 + 1 := by omega
      rw [this]; exact lt_log2_pow n

theorem cut_even (neg : Bool) (n drop : Nat) : Toward.even.cut neg n drop = RNE n (2 ^ drop) := by
  unfold Toward.cut RNE
  simp only [Nat.one_shiftLeft]
  by_cases h : drop ≤ n.log2 + 2
  · rw [Nat.min_eq_left h]
    generalize 2 ^ drop = g
    generalize n % g = r
    generalize n / g = q
    congr 1
    by_cases c1 : g < 2 * r
    · simp [c1]
    · by_cases c2 : 2 * r = g
      · by_cases c3 : q % 2 = 1
        · simp [c2, c3]
        · simp [c2, c3]
      · have : (g == 2 * r) = false := by simp; omega
        simp [c1, c2, this]
  · rw [Nat.min_eq_right (by omega)]
    have h1 := lt_log2_pow n
    have h2 : 2 ^ (n.log2 + 2) = 2 * 2 ^ (n.log2 + 1) := by rw [Nat.pow_succ]; omega
    have h3 : 2 ^ (n.log2 + 2) ≤ 2 ^ drop := Nat.pow_le_pow_right (by omega) (by omega)
    generalize 2 ^ (n.log2 + 2) = g1 at *
    generalize 2 ^ (n.log2 + 1) = g2 at *
    generalize 2 ^ drop = g at *
    have d1 : n / g1 = 0 := Nat.div_eq_of_lt (by omega)
    have d2 : n / g = 0 := Nat.div_eq_of_lt (by omega)
    have m1 : n % g1 = n := Nat.mod_eq_of_lt (by omega)
    have m2 : n % g = n := Nat.mod_eq_of_lt (by omega)
    rw [d1, d2, m1, m2]
    have e1 : ¬ (g1 < 2 * n) := by omega
    have e2 : ¬ (g < 2 * n) := by omega
    simp [e1, e2]

/-- The rung nearest to 'n / d' units of 2^-1074 (no bound above). -/
def rungQ (n d : Nat) : Nat := ((n / d).log2 - 52) * 2 ^ 52 + RNE n (d * 2 ^ ((n / d).log2 - 52))

theorem rungQ_zero (d : Nat) : rungQ 0 d = 0 := by
  unfold rungQ
  rw [Nat.zero_div, RNE_zero]; simp

theorem rungQ_scale (n d k : Nat) (hk : 0 < k) : rungQ (n * k) (d * k) = rungQ n d := by
  unfold rungQ
  rw [Nat.mul_div_mul_right _ _ hk, Nat.mul_right_comm d k, RNE_scale _ _ _ hk]

theorem infRung_eq : double.infRung = 2047 * 2 ^ 52 := by decide
theorem signWeight_eq : double.signWeight = 2 ^ 63 := by decide
theorem binade_eq : double.binade = 2 ^ 52 := by decide
theorem leastPlace_eq : double.leastPlace = -1074 := by decide

theorem nearest_eq (neg : Bool) (mag : Nat) (place : Int) :
    double.nearest neg mag place = double.word neg (min (rungQ (mag * 2 ^ (place + 1074).toNat) (2 ^ (-1074 - place).toNat)) double.infRung) := by
  unfold Format.nearest
  by_cases h0 : mag = 0
  · subst h0
    rw [if_pos rfl, Nat.zero_mul, rungQ_zero, Nat.zero_min]
  · rw [if_neg h0]
    simp only
    refine congrArg (fun t => double.word neg (min t double.infRung)) ?_
    rw [leastPlace_eq, binade_eq, cut_even, Nat.shiftLeft_eq]
    have hf : (double.fractionBits : Int) = 52 := rfl
    rw [hf]
    unfold rungQ
    by_cases he : 0 ≤ place + 1074
    · obtain ⟨e, he'⟩ := Int.eq_ofNat_of_zero_le he
      have e0 : (-1074 - place).toNat = 0 := by omega
      have e1 : (place + 1074).toNat = e := by omega
      rw [e0, e1, Nat.pow_zero, Nat.div_one, Nat.one_mul, log2_mul_pow _ _ h0]
      generalize hl : mag.log2 = l
      have e2 : (max (place + (l : Int) - 52) (-1074) - -1074).toNat = l + e - 52 := by omega
      rw [e2]
      congr 1
      generalize hL : l + e - 52 = L
      have e3 : (place - max (place + (l : Int) - 52) (-1074)).toNat = e - L := by omega
      have e4 : (max (place + (l : Int) - 52) (-1074) - place).toNat = L - e := by omega
      rw [e3, e4]
      by_cases c : L ≤ e
      · have : L - e = 0 := by omega
        rw [this, Nat.pow_zero, RNE_one]
        have : e = (e - L) + L := by omega
        conv => rhs; rw [this, Nat.pow_add, ← Nat.mul_assoc]
        rw [RNE_mul _ _ (Nat.two_pow_pos _)]
      · have : e - L = 0 := by omega
        rw [this, Nat.pow_zero, Nat.mul_one]
        have : L = (L - e) + e := by omega
        conv => rhs; rw [this, Nat.pow_add]
        rw [RNE_scale _ _ _ (Nat.two_pow_pos _)]
    · obtain ⟨j, hj⟩ := Int.eq_ofNat_of_zero_le (a := -1074 - place) (by omega)
      have e0 : (-1074 - place).toNat = j := by omega
      have e1 : (place + 1074).toNat = 0 := by omega
      rw [e0, e1, Nat.pow_zero, Nat.mul_one, log2_div_pow]
      generalize hl : mag.log2 = l
      have e2 : (max (place + (l : Int) - 52) (-1074) - -1074).toNat = l - j - 52 := by omega
      rw [e2]
      congr 1
      generalize hL : l - j - 52 = L
      have e3 : (place - max (place + (l : Int) - 52) (-1074)).toNat = 0 := by omega
      have e4 : (max (place + (l : Int) - 52) (-1074) - place).toNat = j + L := by omega
      rw [e3, e4, Nat.pow_zero, Nat.mul_one, Nat.pow_add]

/-- A rung's magnitude, in units of 2^-1074. -/
def valR (r : Nat) : Nat := if r < 2 ^ 52 then r else (2 ^ 52 + r % 2 ^ 52) * 2 ^ (r / 2 ^ 52 - 1)

theorem valR_mk (L k : Nat) (h : k ≤ 2 ^ 53) (h' : L = 0 ∨ 2 ^ 52 ≤ k) : valR (L * 2 ^ 52 + k) = k * 2 ^ L := by
  unfold valR
  by_cases c : k < 2 ^ 52
  · have : L = 0 := by omega
    subst this
    rw [if_pos (by omega)]; simp
  · rw [if_neg (by omega)]
    by_cases c2 : k = 2 ^ 53
    · subst c2
      have e1 : (L * 2 ^ 52 + 2 ^ 53) / 2 ^ 52 = L + 2 := by omega
      have e2 : (L * 2 ^ 52 + 2 ^ 53) % 2 ^ 52 = 0 := by omega
      rw [e1, e2]
      have : L + 2 - 1 = L + 1 := by omega
      rw [this, Nat.pow_succ]; omega
    · have e1 : (L * 2 ^ 52 + k) / 2 ^ 52 = L + 1 := by omega
      have e2 : (L * 2 ^ 52 + k) % 2 ^ 52 = k - 2 ^ 52 := by omega
      rw [e1, e2]
      have e3 : 2 ^ 52 + (k - 2 ^ 52) = k := by omega
      rw [e3]; rfl

/-- every rung is of that form. -/
theorem rung_form (r : Nat) : ∃ L k, r = L * 2 ^ 52 + k ∧ k < 2 ^ 53 ∧ (L = 0 ∨ 2 ^ 52 ≤ k) := by
  by_cases c : r < 2 ^ 52
  · exact ⟨0, r, by omega, by omega, .inl rfl⟩
  · exact ⟨r / 2 ^ 52 - 1, 2 ^ 52 + r % 2 ^ 52, by omega, by omega, .inr (by omega)⟩

/-- the parts of rungQ: its last place, and what is kept. -/
theorem rungQ_parts (n d : Nat) : ∃ L k, rungQ n d = L * 2 ^ 52 + k ∧ L = (n / d).log2 - 52 ∧ k = RNE n (d * 2 ^ L) ∧ k ≤ 2 ^ 53 ∧ (L = 0 ∨ 2 ^ 52 ≤ k) := by
  refine ⟨_, _, rfl, rfl, rfl, ?_, ?_⟩
  · generalize hL : (n / d).log2 - 52 = L
    refine Nat.le_trans (RNE_hi _ _) ?_
    have : n / (d * 2 ^ L) < 2 ^ 53 := by
      rw [← Nat.div_div_eq_div_mul, Nat.div_lt_iff_lt_mul (Nat.two_pow_pos L), ← Nat.pow_add]
      refine Nat.lt_of_lt_of_le (lt_log2_pow _) (Nat.pow_le_pow_right (by omega) (by omega))
    omega
  · generalize hL : (n / d).log2 - 52 = L
    by_cases c : L = 0
    · exact .inl c
    · right
      refine Nat.le_trans ?_ (RNE_lo _ _)
      rw [← Nat.div_div_eq_div_mul, Nat.le_div_iff_mul_le (Nat.two_pow_pos L), ← Nat.pow_add]
      have h0 : n / d ≠ 0 := by intro h; rw [h] at hL; simp at hL; omega
      have : 52 + L = (n / d).log2 := by omega
      rw [this]; exact pow_log2_le h0

theorem valR_rungQ (n d : Nat) : valR (rungQ n d) = RNE n (d * 2 ^ ((n / d).log2 - 52)) * 2 ^ ((n / d).log2 - 52) := by
  obtain ⟨L, k, e, eL, ek, h1, h2⟩ := rungQ_parts n d
  rw [e, valR_mk _ _ h1 h2, ek, eL]

theorem div_mono_cross {n d m k : Nat} (hd : 0 < d) (hk : 0 < k) (h : n * k ≤ m * d) : n / d ≤ m / k := by
  rw [Nat.le_div_iff_mul_le hk]
  have h1 : n / d * d ≤ n := Nat.div_mul_le_self n d
  have h2 : n / d * d * k ≤ m * d := Nat.le_trans (Nat.mul_le_mul_right k h1) h
  rw [Nat.mul_right_comm] at h2
  exact Nat.le_of_mul_le_mul_right h2 hd

theorem rungQ_mono (n d m k : Nat) (hd : 0 < d) (hk : 0 < k) (h : n * k ≤ m * d) : rungQ n d ≤ rungQ m k := by
  obtain ⟨L, a, e, eL, ea, h1, h2⟩ := rungQ_parts n d
  obtain ⟨M, b, e', eM, eb, h1', h2'⟩ := rungQ_parts m k
  have hLM : L ≤ M := by have := log2_mono (div_mono_cross hd hk h); omega
  rw [e, e']
  by_cases c : L = M
  · subst c
    have : a ≤ b := by
      rw [ea, eb]
      refine RNE_mono _ _ _ _ (Nat.mul_pos hd (Nat.two_pow_pos _)) (Nat.mul_pos hk (Nat.two_pow_pos _)) ?_
      rw [← Nat.mul_assoc, ← Nat.mul_assoc]
      exact Nat.mul_le_mul_right _ h
    omega
  · have hb : 2 ^ 52 ≤ b := by omega
    have : (L + 1) * 2 ^ 52 ≤ M * 2 ^ 52 := Nat.mul_le_mul_right _ (by omega)
    omega

theorem rungQ_valR (r d : Nat) (hd : 0 < d) : rungQ (valR r * d) d = r := by
  obtain ⟨L, k, rfl, hk, h⟩ := rung_form r
  rw [valR_mk _ _ (by omega) h]
  unfold rungQ
  rw [Nat.mul_div_cancel _ hd]
  have hL : (k * 2 ^ L).log2 - 52 = L := by
    by_cases h0 : k = 0
    · have : L = 0 := by omega
      subst h0 this; simp
    · rw [log2_mul_pow _ _ h0]
      rcases h with h | h
      · subst h
        have := log2_lt_pow (n := k) (k := 52) hk
        omega
      · have := log2_unique (n := k) (k := 52) h hk
        omega
  rw [hL]
  have : k * 2 ^ L * d = k * (d * 2 ^ L) := by rw [Nat.mul_assoc, Nat.mul_comm (2 ^ L)]
  rw [this, RNE_mul _ _ (Nat.mul_pos hd (Nat.two_pow_pos _))]

theorem valR_zero : valR 0 = 0 := rfl

theorem valR_lt {r s : Nat} (h : r < s) : valR r < valR s := by
  obtain ⟨L, k, rfl, hk, hh⟩ := rung_form r
  obtain ⟨M, m, rfl, hm, hh'⟩ := rung_form s
  rw [valR_mk _ _ (by omega) hh, valR_mk _ _ (by omega) hh']
  by_cases c : L = M
  · subst c
    exact (Nat.mul_lt_mul_right (Nat.two_pow_pos L)).2 (by omega)
  · by_cases c2 : L < M
    · have hm2 : 2 ^ 52 ≤ m := by omega
      have : M = (M - L - 1) + 1 + L := by omega
      rw [this, Nat.pow_add, ← Nat.mul_assoc]
      refine (Nat.mul_lt_mul_right (Nat.two_pow_pos L)).2 ?_
      rw [Nat.pow_succ]
      have h1 := Nat.two_pow_pos (M - L - 1)
      have : 2 ^ 52 * 2 ≤ m * (2 ^ (M - L - 1) * 2) := by
        have := Nat.mul_le_mul hm2 h1
        rw [← Nat.mul_assoc]; omega
      omega
    · exfalso
      have : (M + 1) * 2 ^ 52 ≤ L * 2 ^ 52 := Nat.mul_le_mul_right _ (by omega)
      omega

theorem valR_le {r s : Nat} (h : r ≤ s) : valR r ≤ valR s := by
  by_cases c : r = s
  · subst c; exact Nat.le_refl _
  · exact Nat.le_of_lt (valR_lt (by omega))

theorem valR_lt_iff {r s : Nat} : valR r < valR s ↔ r < s :=
  ⟨fun h => by
    by_cases c : r < s
    · exact c
    · have := valR_le (r := s) (s := r) (by omega); omega, valR_lt⟩

theorem valR_inj {r s : Nat} (h : valR r = valR s) : r = s := by
  by_cases c : r < s
  · have := valR_lt c; omega
  · by_cases c2 : s < r
    · have := valR_lt c2; omega
    · omega

theorem valR_le_iff {r s : Nat} : valR r ≤ valR s ↔ r ≤ s :=
  ⟨fun h => by
    by_cases c : r ≤ s
    · exact c
    · have := valR_lt (r := s) (s := r) (by omega); omega, valR_le⟩

/-- what is at most a rung's value rounds to at most that rung. -/
theorem rungQ_le {n d r : Nat} (hd : 0 < d) (h : n ≤ valR r * d) : rungQ n d ≤ r := by
  have := rungQ_mono n d (valR r * d) d hd hd (Nat.mul_le_mul_right _ h)
  rwa [rungQ_valR _ _ hd] at this

theorem le_rungQ {n d r : Nat} (hd : 0 < d) (h : valR r * d ≤ n) : r ≤ rungQ n d := by
  have := rungQ_mono (valR r * d) d n d hd hd (Nat.mul_le_mul_right _ h)
  rwa [rungQ_valR _ _ hd] at this

/-- within half a unit of the last place that is kept. -/
theorem rungQ_near (n d : Nat) (hd : 0 < d) :
    2 * (valR (rungQ n d) * d) ≤ 2 * n + d * 2 ^ ((n / d).log2 - 52) ∧ 2 * n ≤ 2 * (valR (rungQ n d) * d) + d * 2 ^ ((n / d).log2 - 52) := by
  rw [valR_rungQ]
  generalize (n / d).log2 - 52 = L
  have := RNE_near n (d * 2 ^ L) (Nat.mul_pos hd (Nat.two_pow_pos _))
  have e : RNE n (d * 2 ^ L) * 2 ^ L * d = RNE n (d * 2 ^ L) * (d * 2 ^ L) := by rw [Nat.mul_assoc, Nat.mul_comm (2 ^ L)]
  rw [e]; exact this

end Fl
