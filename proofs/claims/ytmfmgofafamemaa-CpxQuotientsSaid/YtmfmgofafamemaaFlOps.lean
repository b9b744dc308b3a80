/- Plain laws of binary64, second part: words, and what + - * / and the order do to finite ones. No conditions. -/
import Derived.Test.YtmfmgofafamemaaFl
namespace Fl
open Ieee

abbrev D : Format := Ieee.double

/-- sign and rung of a word. -/
def sg (x : Nat) : Bool := x / 2 ^ 63 % 2 == 1
def rg (x : Nat) : Nat := x % 2 ^ 63
/-- infinity's rung. -/
def INF : Nat := 2047 * 2 ^ 52
def wd (s : Bool) (r : Nat) : Nat := if s then 2 ^ 63 + r else r

theorem word_eq (s : Bool) (r : Nat) : D.word s r = wd s r := by
  unfold Format.word wd; rw [signWeight_eq]

theorem sg_wd (s : Bool) (r : Nat) (h : r < 2 ^ 63) : sg (wd s r) = s := by
  unfold sg wd
  cases s
  · have : r / 2 ^ 63 = 0 := Nat.div_eq_of_lt h
    simp [this]
  · have : (2 ^ 63 + r) / 2 ^ 63 = 1 := by omega
    simp [this]

theorem rg_wd (s : Bool) (r : Nat) (h : r < 2 ^ 63) : rg (wd s r) = r := by
  unfold rg wd
  cases s
  · simp; omega
  · simp only [if_true]; omega

theorem wd_lt (s : Bool) (r : Nat) (h : r < 2 ^ 63) : wd s r < 2 ^ 64 := by
  unfold wd; cases s
  · simp; omega
  · simp only [if_true]; omega

theorem wd_sg_rg (x : Nat) (h : x < 2 ^ 64) : wd (sg x) (rg x) = x := by
  unfold wd sg rg
  by_cases c : x / 2 ^ 63 % 2 = 1
  · simp [c]; omega
  · simp [c]; omega

theorem rg_lt (x : Nat) : rg x < 2 ^ 63 := Nat.mod_lt _ (by decide)

theorem INF_lt : INF < 2 ^ 63 := by decide

def isNan (x : Nat) : Prop := INF < rg x
def fin (x : Nat) : Prop := rg x < INF
instance (x : Nat) : Decidable (isNan x) := inferInstanceAs (Decidable (INF < rg x))
instance (x : Nat) : Decidable (fin x) := inferInstanceAs (Decidable (rg x < INF))

/-- a finite word's magnitude and value, in units of 2^-1074. -/
def mv (x : Nat) : Nat := valR (rg x)
def iv (x : Nat) : Int := if sg x then -(mv x : Int) else (mv x : Int)

theorem read_fin (x : Nat) (h : fin x) : ∃ m i, D.read x = .number (sg x) m i ∧ -1074 ≤ i ∧ m * 2 ^ (i + 1074).toNat = mv x ∧ m < 2 ^ 53 := by
  unfold fin INF at h
  unfold Format.read
  simp only
  rw [signWeight_eq, binade_eq, infRung_eq, leastPlace_eq]
  have hr : x % 2 ^ 63 = rg x := rfl
  have hs : (x / 2 ^ 63 % 2 == 1) = sg x := rfl
  rw [hr, hs]
  unfold mv valR
  by_cases c : rg x < 2 ^ 52
  · rw [if_pos c, if_pos c]
    exact ⟨_, _, rfl, by omega, by simp, by omega⟩
  · rw [if_neg c, if_neg c, if_pos h]
    refine ⟨_, _, rfl, by omega, ?_, by omega⟩
    congr 2
    omega

theorem read_inf (x : Nat) (h : rg x = INF) : D.read x = .infinity (sg x) := by
  unfold INF at h
  unfold Format.read
  simp only
  rw [signWeight_eq, binade_eq, infRung_eq]
  have hr : x % 2 ^ 63 = rg x := rfl
  rw [hr, if_neg (by omega), if_neg (by omega), if_pos h]; rfl

theorem read_nan (x : Nat) (h : isNan x) : ∃ t, D.read x = .nan (sg x) t := by
  unfold isNan INF at h
  unfold Format.read
  simp only
  rw [signWeight_eq, binade_eq, infRung_eq]
  have hr : x % 2 ^ 63 = rg x := rfl
  rw [hr, if_neg (by omega), if_neg (by omega), if_neg (by omega)]
  exact ⟨_, rfl⟩

/-- 2 ^ 1074, the units in 1. -/
def UE : Nat := 1074
theorem UE_eq : UE = 1074 := rfl
def UN : Nat := 2 ^ UE
theorem UN_pos : 0 < UN := Nat.two_pow_pos _
theorem UN_def : UN = 2 ^ UE := rfl
theorem UN_eq (k : Nat) (h : k = 1074) : 2 ^ k = UN := by
  have : k = UE := h
  rw [this]; rfl

theorem wd_congr {s t : Bool} {a b : Nat} (h : s = t) (g : a = b) : wd s a = wd t b := by rw [h, g]

/-- rounding of the rational n/d units, capped at infinity. -/
def rq (n d : Nat) : Nat := min (rungQ n d) INF

theorem rq_le (n d : Nat) : rq n d ≤ INF := Nat.min_le_right ..

theorem nearest_wd (neg : Bool) (mag : Nat) (place : Int) :
    D.nearest neg mag place = wd neg (rq (mag * 2 ^ (place + 1074).toNat) (2 ^ (-1074 - place).toNat)) := by
  rw [nearest_eq, word_eq]; rfl

theorem signed_eq (s : Bool) (m u : Nat) : signed s m u = if s then -((m * 2 ^ u : Nat) : Int) else ((m * 2 ^ u : Nat) : Int) := by
  unfold signed; rw [Nat.shiftLeft_eq]

theorem two_pow_add_toNat (i j : Int) (hj : j ≤ i) (hb : -1074 ≤ j) : (2 : Nat) ^ (i + 1074).toNat = 2 ^ (i - j).toNat * 2 ^ (j + 1074).toNat := by
  rw [← Nat.pow_add]; congr 1; omega

theorem add_fin (x y : Nat) (hx : fin x) (hy : fin y) :
    D.add x y = some (wd (if iv x + iv y = 0 then sg x && sg y else decide (iv x + iv y < 0)) (rq (iv x + iv y).natAbs 1)) := by
  obtain ⟨m, i, ex, hi, hm, _⟩ := read_fin x hx
  obtain ⟨n, j, ey, hj, hn, _⟩ := read_fin y hy
  unfold Format.add
  rw [ex, ey]
  simp only [Datum.sum, Option.map_some, Format.write, Option.some.injEq]
  rw [nearest_wd]
  generalize hb : min i j = b
  have hb' : -1074 ≤ b := by omega
  have e0 : (-1074 - b).toNat = 0 := by omega
  rw [e0, Nat.pow_zero]
  have key : (signed (sg x) m (i - b).toNat + signed (sg y) n (j - b).toNat) * ((2 ^ (b + 1074).toNat : Nat) : Int) = iv x + iv y := by
    rw [signed_eq, signed_eq, Int.add_mul]
    unfold iv
    rw [← hm, ← hn, two_pow_add_toNat i b (by omega) hb', two_pow_add_toNat j b (by omega) hb']
    generalize 2 ^ (b + 1074).toNat = B
    congr 1
    · split <;> simp only [Int.neg_mul, ← Int.natCast_mul, Nat.mul_assoc]
    · split <;> simp only [Int.neg_mul, ← Int.natCast_mul, Nat.mul_assoc]
  have hB := Nat.two_pow_pos (b + 1074).toNat
  generalize 2 ^ (b + 1074).toNat = B at *
  generalize signed (sg x) m (i - b).toNat + signed (sg y) n (j - b).toNat = T at *
  rw [← key]
  have hBi : (0 : Int) < (B : Int) := by omega
  refine wd_congr ?_ ?_
  · have e1 : (T * (B : Int) = 0) ↔ (T = 0) := by
      constructor
      · intro h; rcases Int.mul_eq_zero.1 h with h | h <;> omega
      · intro h; rw [h]; simp
    have e2 : (T * (B : Int) < 0) ↔ (T < 0) := by
      constructor
      · intro h
        by_cases c : T < 0
        · exact c
        · have : 0 ≤ T * (B : Int) := Int.mul_nonneg (by omega) (by omega)
          omega
      · intro h; exact Int.mul_neg_of_neg_of_pos h hBi
    simp only [e1, e2]
  · rw [Int.natAbs_mul, Int.natAbs_natCast]

theorem mul_fin (x y : Nat) (hx : fin x) (hy : fin y) :
    D.mul x y = some (wd (sg x ^^ sg y) (rq (mv x * mv y) UN)) := by
  obtain ⟨m, i, ex, hi, hm, _⟩ := read_fin x hx
  obtain ⟨n, j, ey, hj, hn, _⟩ := read_fin y hy
  unfold Format.mul
  rw [ex, ey]
  simp only [Datum.product, Option.map_some, Format.write, Option.some.injEq]
  rw [nearest_wd]
  refine wd_congr rfl ?_
  unfold rq
  refine congrArg (fun t => min t INF) ?_
  rw [← hm, ← hn]
  by_cases c : 0 ≤ i + j + 1074
  · have e0 : (-1074 - (i + j)).toNat = 0 := by omega
    rw [e0, Nat.pow_zero]
    rw [← rungQ_scale (m * n * 2 ^ (i + j + 1074).toNat) 1 UN UN_pos, Nat.one_mul]
    refine congrArg (fun t => rungQ t UN) ?_
    have e1 : m * 2 ^ (i + 1074).toNat * (n * 2 ^ (j + 1074).toNat) = m * n * (2 ^ (i + 1074).toNat * 2 ^ (j + 1074).toNat) := by
      ac_rfl
    have hU := UE_eq
    rw [e1, Nat.mul_assoc, UN_def, ← Nat.pow_add, ← Nat.pow_add]
    have e2 : (i + j + 1074).toNat + UE = (i + 1074).toNat + (j + 1074).toNat := by omega
    rw [e2]
  · have e0 : (i + j + 1074).toNat = 0 := by omega
    rw [e0, Nat.pow_zero, Nat.mul_one]
    rw [← rungQ_scale (m * n) _ (2 ^ (i + j + 2148).toNat) (Nat.two_pow_pos _)]
    refine congr (congrArg rungQ ?_) ?_
    · have e1 : m * 2 ^ (i + 1074).toNat * (n * 2 ^ (j + 1074).toNat) = m * n * (2 ^ (i + 1074).toNat * 2 ^ (j + 1074).toNat) := by
        ac_rfl
      rw [e1, ← Nat.pow_add]
      have e2 : (i + 1074).toNat + (j + 1074).toNat = (i + j + 2148).toNat := by omega
      rw [e2]
    · rw [← Nat.pow_add]
      exact UN_eq _ (by omega)

theorem compare_mul_pos (a b : Int) (c : Int) (hc : 0 < c) : compare (a * c) (b * c) = compare a b := by
  rcases Int.lt_trichotomy a b with h | h | h
  · have := Int.mul_lt_mul_of_pos_right h hc
    rw [Int.compare_eq_lt.2 h, Int.compare_eq_lt.2 this]
  · subst h; rw [Int.compare_eq_eq.2 rfl, Int.compare_eq_eq.2 rfl]
  · have := Int.mul_lt_mul_of_pos_right h hc
    rw [Int.compare_eq_gt.2 h, Int.compare_eq_gt.2 this]

theorem order_fin (x y : Nat) (hx : fin x) (hy : fin y) : D.order x y = some (compare (iv x) (iv y)) := by
  obtain ⟨m, i, ex, hi, hm, _⟩ := read_fin x hx
  obtain ⟨n, j, ey, hj, hn, _⟩ := read_fin y hy
  unfold Format.order
  rw [ex, ey]
  simp only [Datum.order, Option.some.injEq]
  generalize hb : min i j = b
  have hb' : -1074 ≤ b := by omega
  have hB := Nat.two_pow_pos (b + 1074).toNat
  have k1 : signed (sg x) m (i - b).toNat * ((2 ^ (b + 1074).toNat : Nat) : Int) = iv x := by
    rw [signed_eq]
    unfold iv
    rw [← hm, two_pow_add_toNat i b (by omega) hb']
    generalize 2 ^ (b + 1074).toNat = B
    split <;> simp only [Int.neg_mul, ← Int.natCast_mul, Nat.mul_assoc]
  have k2 : signed (sg y) n (j - b).toNat * ((2 ^ (b + 1074).toNat : Nat) : Int) = iv y := by
    rw [signed_eq]
    unfold iv
    rw [← hn, two_pow_add_toNat j b (by omega) hb']
    generalize 2 ^ (b + 1074).toNat = B
    split <;> simp only [Int.neg_mul, ← Int.natCast_mul, Nat.mul_assoc]
  rw [← k1, ← k2]
  refine (compare_mul_pos _ _ _ ?_).symm
  omega

/-- the rounding of '(n / d) * 2 ^ p' units. -/
def rungZ (n d : Nat) (p : Int) : Nat := rungQ (n * 2 ^ p.toNat) (d * 2 ^ (-p).toNat)

/-- floor of the binary logarithm of a fraction. -/
theorem log2_div_unique {n d k : Nat} (hd : 0 < d) (h1 : 2 ^ k * d ≤ n) (h2 : n < 2 ^ (k + 1) * d) : (n / d).log2 = k :=
  log2_unique ((Nat.le_div_iff_mul_le hd).2 h1) ((Nat.div_lt_iff_lt_mul hd).2 h2)

theorem log2_div_bounds {n d : Nat} (hd : 0 < d) (h : n / d ≠ 0) : 2 ^ (n / d).log2 * d ≤ n ∧ n < 2 ^ ((n / d).log2 + 1) * d :=
  ⟨(Nat.le_div_iff_mul_le hd).1 (pow_log2_le h), (Nat.div_lt_iff_lt_mul hd).1 (lt_log2_pow _)⟩

/-- the last place of a fraction that is at least 2^54, times 2^p. -/
theorem log2_Z (n d : Nat) (p : Int) (hd : 0 < d) (k : Nat) (h1 : 2 ^ k * d ≤ n) (h2 : n < 2 ^ (k + 1) * d) (_hk : 0 ≤ (k : Int) + p) :
    (n * 2 ^ p.toNat / (d * 2 ^ (-p).toNat)).log2 = ((k : Int) + p).toNat := by
  have hp := Nat.two_pow_pos p.toNat
  have hq := Nat.two_pow_pos (-p).toNat
  refine log2_div_unique (Nat.mul_pos hd hq) ?_ ?_
  · have : 2 ^ ((k : Int) + p).toNat * (d * 2 ^ (-p).toNat) = 2 ^ k * d * 2 ^ p.toNat := by
      have e : 2 ^ ((k : Int) + p).toNat * 2 ^ (-p).toNat = 2 ^ k * 2 ^ p.toNat := by
        rw [← Nat.pow_add, ← Nat.pow_add]; congr 1; omega
      calc _ = d * (2 ^ ((k : Int) + p).toNat * 2 ^ (-p).toNat) := by ac_rfl
        _ = _ := by rw [e]; ac_rfl
    rw [this]; exact Nat.mul_le_mul_right _ h1
  · have : 2 ^ (((k : Int) + p).toNat + 1) * (d * 2 ^ (-p).toNat) = 2 ^ (k + 1) * d * 2 ^ p.toNat := by
      have e : 2 ^ (((k : Int) + p).toNat + 1) * 2 ^ (-p).toNat = 2 ^ (k + 1) * 2 ^ p.toNat := by
        rw [← Nat.pow_add, ← Nat.pow_add]; congr 1; omega
      calc _ = d * (2 ^ (((k : Int) + p).toNat + 1) * 2 ^ (-p).toNat) := by ac_rfl
        _ = _ := by rw [e]; ac_rfl
    rw [this]; exact (Nat.mul_lt_mul_right hp).2 h2

/-- a quotient with a sticky digit rounds as the exact one, where at least one whole digit more is dropped. -/
theorem RNE_sticky (N n h : Nat) (hn : 0 < n) (hh : h % 2 = 0) (h0 : 0 < h) :
    RNE (2 * (N / n) + (N % n != 0).toNat) (2 * h) = RNE N (n * h) := by
  have hN := Nat.div_add_mod N n
  have hr := Nat.mod_lt N hn
  generalize hQ : N / n = Q at *
  generalize hR : N % n = r at *
  have hQh := Nat.div_add_mod Q h
  have hqh := Nat.mod_lt Q h0
  have d1 : N / (n * h) = Q / h := by rw [← Nat.div_div_eq_div_mul, hQ]
  have m1 : N % (n * h) = n * (Q % h) + r := by
    rw [Nat.mod_mul, hR, hQ]; omega
  generalize hs : (r != 0).toNat = s
  have s1 : s ≤ 1 := by rw [← hs]; cases (r != 0) <;> decide
  have s2 : s = 1 ↔ r ≠ 0 := by
    rw [← hs]; by_cases c : r = 0 <;> simp [c]
  have d2 : (2 * Q + s) / (2 * h) = Q / h := by
    rw [← Nat.div_div_eq_div_mul]; congr 1; omega
  have m2 : (2 * Q + s) % (2 * h) = 2 * (Q % h) + s := by
    rw [Nat.mod_mul]
    have e1 : (2 * Q + s) % 2 = s := by omega
    have e2 : (2 * Q + s) / 2 = Q := by omega
    rw [e1, e2]; omega
  unfold RNE
  rw [d1, d2, m1, m2]
  generalize Q % h = q at *
  congr 1
  -- the two tests are one
  have t1 : (2 * h < 2 * (2 * q + s)) ↔ (n * h < 2 * (n * q + r)) := by
    by_cases c : h ≤ 2 * q
    · by_cases c2 : h = 2 * q
      · subst c2
        have : n * (2 * q) = 2 * (n * q) := by ac_rfl
        rw [this]; omega
      · have : n * (h + 1) ≤ n * (2 * q) := Nat.mul_le_mul_left _ (by omega)
        rw [Nat.mul_add, Nat.mul_one] at this
        have e : n * (2 * q) = 2 * (n * q) := by ac_rfl
        omega
    · have : n * (2 * q + 2) ≤ n * h := Nat.mul_le_mul_left _ (by omega)
      rw [Nat.mul_add] at this
      have e : n * (2 * q) = 2 * (n * q) := by ac_rfl
      omega
  have t2 : (2 * (2 * q + s) = 2 * h) ↔ (2 * (n * q + r) = n * h) := by
    by_cases c : h ≤ 2 * q
    · by_cases c2 : h = 2 * q
      · subst c2
        have : n * (2 * q) = 2 * (n * q) := by ac_rfl
        rw [this]; omega
      · have : n * (h + 1) ≤ n * (2 * q) := Nat.mul_le_mul_left _ (by omega)
        rw [Nat.mul_add, Nat.mul_one] at this
        have e : n * (2 * q) = 2 * (n * q) := by ac_rfl
        omega
    · have : n * (2 * q + 2) ≤ n * h := Nat.mul_le_mul_left _ (by omega)
      rw [Nat.mul_add] at this
      have e : n * (2 * q) = 2 * (n * q) := by ac_rfl
      omega
  simp only [t1, t2]

theorem rungZ_sticky (N n : Nat) (p : Int) (hn : 0 < n) (hN : 2 ^ 53 * n ≤ N) :
    rungZ (2 * (N / n) + (N % n != 0).toNat) 1 p = rungZ (2 * N) n p := by
  have hQ0 : N / n ≠ 0 := by
    have := (Nat.le_div_iff_mul_le hn).2 hN
    omega
  obtain ⟨b1, b2⟩ := log2_div_bounds hn hQ0
  have hk53 : 53 ≤ (N / n).log2 := by
    have := (Nat.le_div_iff_mul_le hn).2 hN
    by_cases c : (N / n).log2 < 53
    · have := (Nat.log2_lt hQ0).1 c; omega
    · omega
  generalize hk : (N / n).log2 = k at *
  generalize hA : 2 * (N / n) + (N % n != 0).toNat = A
  have s1 : (N % n != 0).toNat ≤ 1 := by cases (N % n != 0) <;> decide
  have a1 : 2 ^ (k + 1) * 1 ≤ A := by
    have := (Nat.le_div_iff_mul_le hn).2 b1
    rw [Nat.pow_succ]; omega
  have a2 : A < 2 ^ (k + 1 + 1) * 1 := by
    have := (Nat.div_lt_iff_lt_mul hn).2 b2
    rw [Nat.pow_succ]; omega
  have c1 : 2 ^ (k + 1) * n ≤ 2 * N := by rw [Nat.pow_succ, Nat.mul_right_comm]; omega
  have c2 : 2 * N < 2 ^ (k + 1 + 1) * n := by rw [Nat.pow_succ, Nat.mul_right_comm]; omega
  unfold rungZ
  have hp := Nat.two_pow_pos p.toNat
  have hq := Nat.two_pow_pos (-p).toNat
  -- the last place is one
  by_cases hlow : 0 ≤ ((k + 1 : Nat) : Int) + p
  · have l1 := log2_Z A 1 p (by omega) (k + 1) a1 a2 hlow
    have l2 := log2_Z (2 * N) n p hn (k + 1) c1 c2 hlow
    unfold rungQ
    rw [l1, l2]
    generalize hL : (((k + 1 : Nat) : Int) + p).toNat - 52 = L
    congr 1
    -- divide both by 2^p
    obtain ⟨h, hh⟩ : ∃ h : Nat, (L : Int) - p = h + 2 := ⟨((L : Int) - p - 2).toNat, by omega⟩
    have e : 2 ^ (-p).toNat * 2 ^ L = 2 * 2 ^ (h + 1) * 2 ^ p.toNat := by
      rw [← Nat.pow_add, ← Nat.pow_add_one', ← Nat.pow_add]; congr 1; omega
    rw [Nat.one_mul, e, RNE_scale _ _ _ hp, Nat.mul_assoc n, e, ← Nat.mul_assoc n, RNE_scale _ _ _ hp, ← hA]
    rw [RNE_sticky _ _ _ hn (by rw [Nat.pow_succ]; omega) (Nat.two_pow_pos _)]
    have e2 : n * (2 * 2 ^ (h + 1)) = n * 2 ^ (h + 1) * 2 := by ac_rfl
    rw [e2, Nat.mul_comm 2 N, RNE_scale _ _ _ (by omega)]
  · -- the value is below one unit
    have hp0 : p.toNat = 0 := by omega
    have z : ∀ (m d : Nat), m < 2 ^ (k + 1 + 1) * d → 0 < d → m * 2 ^ p.toNat / (d * 2 ^ (-p).toNat) = 0 := by
      intro m d hm hd
      rw [hp0, Nat.pow_zero, Nat.mul_one]
      refine Nat.div_eq_of_lt (Nat.lt_of_lt_of_le hm ?_)
      rw [Nat.mul_comm]
      refine Nat.mul_le_mul_left _ (Nat.pow_le_pow_right (by omega) (by omega))
    unfold rungQ
    rw [z A 1 a2 (by omega), z (2 * N) n c2 hn]
    simp only [Nat.log2_zero, Nat.zero_sub, Nat.pow_zero, Nat.mul_one, Nat.zero_mul, Nat.zero_add, hp0, Nat.one_mul]
    obtain ⟨h, hh⟩ : ∃ h : Nat, (-p).toNat = h + 2 := ⟨(-p).toNat - 2, by omega⟩
    rw [hh]
    have e : (2 : Nat) ^ (h + 2) = 2 * 2 ^ (h + 1) := by rw [← Nat.pow_add_one']
    rw [e, ← hA, RNE_sticky _ _ _ hn (by rw [Nat.pow_succ]; omega) (Nat.two_pow_pos _)]
    have e2 : n * (2 * 2 ^ (h + 1)) = n * 2 ^ (h + 1) * 2 := by ac_rfl
    rw [e2, Nat.mul_comm 2 N, RNE_scale _ _ _ (by omega)]

theorem nearest_rungZ (neg : Bool) (mag : Nat) (place : Int) : D.nearest neg mag place = wd neg (min (rungZ mag 1 (place + 1074)) INF) := by
  rw [nearest_wd]; unfold rq rungZ
  have : (-1074 - place) = -(place + 1074) := by omega
  rw [this, Nat.one_mul]

theorem div_fin (x y : Nat) (hx : fin x) (hy : fin y) (h0 : mv y ≠ 0) :
    D.div x y = some (wd (sg x ^^ sg y) (rq (mv x * UN) (mv y))) := by
  obtain ⟨m, i, ex, hi, hm, hm53⟩ := read_fin x hx
  obtain ⟨n, j, ey, hj, hn, hn53⟩ := read_fin y hy
  have hn0 : n ≠ 0 := by intro h; subst h; rw [Nat.zero_mul] at hn; omega
  unfold Format.div
  rw [ex, ey]
  simp only [Datum.quotient, if_neg hn0, Option.map_some, Format.write, Option.some.injEq]
  by_cases hm0 : m = 0
  · subst hm0
    rw [Nat.zero_mul] at hm
    rw [← hm]
    simp only [Nat.zero_shiftLeft, Nat.zero_div, Nat.zero_mod]
    rw [nearest_wd]
    refine wd_congr rfl ?_
    unfold rq
    simp [rungQ_zero]
  · rw [nearest_rungZ]
    have hf : double.fractionBits + 2 = 54 := rfl
    rw [hf]
    have lm : m.log2 ≤ 52 := log2_lt_pow (by omega)
    generalize hmore : 54 + n.log2 - m.log2 = more
    rw [Nat.shiftLeft_eq]
    have big : 2 ^ 53 * n ≤ m * 2 ^ more := by
      have a := pow_log2_le hm0
      have b := lt_log2_pow n
      calc 2 ^ 53 * n ≤ 2 ^ 53 * 2 ^ (n.log2 + 1) := Nat.mul_le_mul_left _ (by omega)
        _ = 2 ^ m.log2 * 2 ^ more := by rw [← Nat.pow_add, ← Nat.pow_add]; congr 1; omega
        _ ≤ m * 2 ^ more := Nat.mul_le_mul_right _ a
    rw [rungZ_sticky _ _ _ (by omega) big]
    refine wd_congr rfl ?_
    unfold rq
    refine congrArg (fun t => min t INF) ?_
    unfold rungZ
    rw [← hm, ← hn]
    generalize hp : i - j - (more : Int) - 1 + 1074 = p
    -- both are one fraction
    have hp1 := Nat.two_pow_pos (-p).toNat
    have hj1 := Nat.two_pow_pos (j + 1074).toNat
    have cross : 2 * (m * 2 ^ more) * 2 ^ p.toNat * (n * 2 ^ (j + 1074).toNat) = m * 2 ^ (i + 1074).toNat * UN * (n * 2 ^ (-p).toNat) := by
      have e : 2 ^ (more + 1) * 2 ^ p.toNat * 2 ^ (j + 1074).toNat = 2 ^ (i + 1074).toNat * UN * 2 ^ (-p).toNat := by
        have hU := UE_eq
        rw [UN_def, ← Nat.pow_add, ← Nat.pow_add, ← Nat.pow_add, ← Nat.pow_add]
        have e0 : more + 1 + p.toNat + (j + 1074).toNat = (i + 1074).toNat + UE + (-p).toNat := by omega
        rw [e0]
      have e2 : 2 ^ (more + 1) = 2 * 2 ^ more := Nat.pow_succ'
      rw [e2] at e
      clear hp big
      generalize UN = U at *
      calc _ = m * n * (2 * 2 ^ more * 2 ^ p.toNat * 2 ^ (j + 1074).toNat) := by ac_rfl
        _ = _ := by rw [e]; ac_rfl
    refine Nat.le_antisymm (rungQ_mono _ _ _ _ (Nat.mul_pos (by omega) hp1) (Nat.mul_pos (by omega) hj1) (Nat.le_of_eq cross)) (rungQ_mono _ _ _ _ (Nat.mul_pos (by omega) hj1) (Nat.mul_pos (by omega) hp1) (Nat.le_of_eq cross.symm))

end Fl
