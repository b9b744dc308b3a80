/- The error of one operation on words. No program in sight. -/
import Derived.Test.YtmfmgofafamemaaFlErr
namespace Fl
open Go

def eta : Rat := 1 / (UN : Rat)
theorem UNr_pos : (0 : Rat) < (UN : Rat) := by
  have := UN_pos
  have h := (Rat.natCast_lt_natCast (a := 0) (b := UN)).2 this
  exact h
theorem eta_UN : eta * (UN : Rat) = 1 := by
  have := UNr_pos
  unfold eta; generalize (UN : Rat) = z at *; grind
theorem eta_pos : 0 < eta := by
  have h := eta_UN
  have g := UNr_pos
  generalize (UN : Rat) = z at *
  rcases Rat.le_total (a := eta) (b := 0) with c | c
  · have := Rat.mul_nonneg (a := -eta) (b := z) (by grind) (by grind)
    grind
  · rcases Rat.le_iff_lt_or_eq.1 c with c | c
    · exact c
    · rw [← c] at h; grind

/-- 2^90 and 2^-90. -/
def big : Rat := 1237940039285380274899124224
def small : Rat := 1 / 1237940039285380274899124224
theorem big_small : big * small = 1 := by unfold big small; grind
theorem small_pos : 0 < small := by unfold small; grind

def tp (k : Nat) : Nat := 2 ^ k
theorem tp_add (a b : Nat) : tp (a + b) = tp a * tp b := Nat.pow_add ..
theorem tp_le {a b : Nat} (h : a ≤ b) : tp a ≤ tp b := Nat.pow_le_pow_right (by decide) h
theorem tp_pos (a : Nat) : 0 < tp a := Nat.two_pow_pos _
theorem UN_tp : UN = tp UE := rfl

theorem UN_split : UN = 1237940039285380274899124224 * (1237940039285380274899124224 * tp 894) := by
  rw [UN_tp, UE_eq]
  have h1 : tp 90 = 1237940039285380274899124224 := by decide
  rw [← h1, ← tp_add, ← tp_add]

/-- eta is far below. -/
theorem eta_small : eta * big ≤ small * (1 / 4503599627370496) := by
  have h := eta_UN
  have hp := eta_pos
  have e : (UN : Rat) = big * (big * ((tp 894 : Nat) : Rat)) := by
    rw [UN_split, Rat.natCast_mul, Rat.natCast_mul]
    rfl
  have g : (4503599627370496 : Rat) ≤ ((tp 894 : Nat) : Rat) := by
    have : tp 52 ≤ tp 894 := tp_le (by decide)
    exact (Rat.natCast_le_natCast (a := tp 52) (b := tp 894)).2 this
  rw [e] at h
  generalize ((tp 894 : Nat) : Rat) = Z at *
  have bs := big_small
  have sp := small_pos
  have k1 : eta * big * Z = small := by
    have : eta * (big * (big * Z)) * small = small := by rw [h]; grind
    grind
  have k2 := Rat.mul_nonneg (a := eta * big) (b := Z - 4503599627370496) (Rat.mul_nonneg (by grind) (by unfold big; grind)) (by grind)
  grind

theorem valR_tp (L : Nat) : valR (L * 2 ^ 52 + 2 ^ 52) = tp 52 * tp L := valR_mk L (2 ^ 52) (by decide) (.inr (Nat.le_refl _))
theorem rq_small (n d : Nat) (hd : 0 < d) (h : n ≤ tp 180 * UN * d) : rungQ n d < INF ∧ rq n d = rungQ n d := by
  have e : valR (1300 * 2 ^ 52 + 2 ^ 52) = tp 52 * tp 1300 := valR_tp 1300
  have hb : n ≤ valR (1300 * 2 ^ 52 + 2 ^ 52) * d := by
    rw [e]
    refine Nat.le_trans h (Nat.mul_le_mul_right _ ?_)
    rw [UN_tp, UE_eq, ← tp_add, ← tp_add]
    exact tp_le (by decide)
  have := rungQ_le hd hb
  have h2 : rungQ n d < INF := Nat.lt_of_le_of_lt this (by unfold INF; decide)
  exact ⟨h2, Nat.min_eq_left (Nat.le_of_lt h2)⟩

/-- the value, as a rational number. -/
def qv (x : Nat) : Rat := (iv x : Rat) * eta
def av (x : Nat) : Rat := (mv x : Rat) * eta
def sgn (s : Bool) (x : Rat) : Rat := if s then -x else x
theorem sgn_zero (s : Bool) : sgn s 0 = 0 := by unfold sgn; cases s <;> simp
theorem iv_sgn (x : Nat) : ((iv x : Int) : Rat) = sgn (sg x) (mv x : Rat) := by
  unfold iv sgn; cases sg x <;> simp <;> rfl
theorem qv_av (x : Nat) : qv x = sgn (sg x) (av x) := by
  unfold qv av; rw [iv_sgn]; unfold sgn; cases sg x <;> simp <;> grind
theorem av_nonneg (x : Nat) : 0 ≤ av x := Rat.mul_nonneg (Rat.natCast_nonneg) (by have := eta_pos; grind)
theorem sgn_bd {s : Bool} {x m : Rat} (h : Bd x m) : Bd (sgn s x) m := by unfold sgn; split; exact h.neg; exact h
theorem sgn_bd' {s : Bool} {x m : Rat} (h : Bd (sgn s x) m) : Bd x m := by
  unfold sgn at h; split at h
  · have := h.neg; rwa [Rat.neg_neg] at this
  · exact h
theorem sgn_sub (s : Bool) (x y : Rat) : sgn s x - sgn s y = sgn s (x - y) := by unfold sgn; split <;> grind
theorem sgn_mul (s t : Bool) (x y : Rat) : sgn s x * sgn t y = sgn (s ^^ t) (x * y) := by unfold sgn; cases s <;> cases t <;> simp <;> grind

theorem fin_wdq (s : Bool) (n d : Nat) (h : rungQ n d < INF) : fin (wd s (rungQ n d)) ∧ sg (wd s (rungQ n d)) = s ∧ mv (wd s (rungQ n d)) = valR (rungQ n d) := by
  have h63 : rungQ n d < 2 ^ 63 := Nat.lt_trans h INF_lt
  refine ⟨?_, sg_wd s _ h63, ?_⟩
  · unfold fin; rw [rg_wd s _ h63]; exact h
  · unfold mv; rw [rg_wd s _ h63]

/-- n parts of size k, with the sign s, were rounded to a word. -/
theorem round_bd (s : Bool) (n d : Nat) (k m : Rat) (hd : 0 < d) (hk : 0 ≤ k) (hn : (n : Rat) * k ≤ m) (hm : (d : Rat) * k ≤ m * (1 / 4503599627370496)) (h : n ≤ tp 180 * UN * d) :
    fin (wd s (rq n d)) ∧ mv (wd s (rq n d)) = valR (rungQ n d) ∧ sg (wd s (rq n d)) = s ∧ Bd (sgn s ((valR (rungQ n d) : Rat) * d * k) - sgn s (n * k)) (uu * m) := by
  obtain ⟨h1, h2⟩ := rq_small n d hd h
  rw [h2]
  obtain ⟨f, g, e⟩ := fin_wdq s n d h1
  refine ⟨f, e, g, ?_⟩
  rw [sgn_sub]
  exact sgn_bd (rungQ_bd n d hd k m hk hn hm)

/-- a bound on a number of parts, from one on its value. -/
theorem nat_le_of (n d : Nat) (k c : Rat) (hk : 0 < k) (h : (n : Rat) * k ≤ c) (g : c ≤ (d : Rat) * k) : n ≤ d := by
  have : (n : Rat) * k ≤ (d : Rat) * k := Rat.le_trans h g
  exact Rat.natCast_le_natCast.1 (Rat.le_of_mul_le_mul_right this hk)

theorem big_tp : big = ((tp 90 : Nat) : Rat) := by rfl

theorem FAdd.err {x y r : Nat} (h : FAdd x y r) (hx : fin x) (hy : fin y) {m : Rat} (hm : Bd (qv x + qv y) m) (h1 : small ≤ m) (h2 : m ≤ big) :
    fin r ∧ Bd (qv r - (qv x + qv y)) (uu * m) := by
  have hr := h.eq (add_fin x y hx hy)
  have hp := eta_pos
  have hs := eta_small
  have e0 : qv x + qv y = (((iv x + iv y : Int)) : Rat) * eta := by unfold qv; rw [Rat.intCast_add]; grind
  rw [e0] at hm ⊢
  generalize hT : iv x + iv y = T at *
  have eN : sgn (if T = 0 then sg x && sg y else decide (T < 0)) ((T.natAbs : Rat)) = (T : Rat) := by
    by_cases c0 : T = 0
    · have z : ((0 : Nat) : Rat) = 0 := rfl
      rw [c0, Int.natAbs_zero, z, sgn_zero]; rfl
    · rw [if_neg c0]
      unfold sgn
      by_cases c : T < 0
      · rw [if_pos (by simpa using c)]
        have : T = -(T.natAbs : Int) := by omega
        have g : (T : Rat) = ((-(T.natAbs : Int) : Int) : Rat) := congrArg _ this
        rw [g, Rat.intCast_neg]; rfl
      · rw [if_neg (by simpa using c)]
        have : T = (T.natAbs : Int) := by omega
        have g : (T : Rat) = (((T.natAbs : Int) : Int) : Rat) := congrArg _ this
        rw [g]; rfl
  generalize (if T = 0 then sg x && sg y else decide (T < 0)) = s at *
  have em : (T : Rat) * eta = sgn s ((T.natAbs : Rat) * eta) := by
    rw [← eN]; unfold sgn; split <;> grind
  rw [em] at hm ⊢
  generalize T.natAbs = N at *
  have hm' := sgn_bd' hm
  have hN : (N : Rat) * eta ≤ m := hm'.2
  have hd : ((1 : Nat) : Rat) * eta ≤ m * (1 / 4503599627370496) := by
    have : ((1 : Nat) : Rat) = 1 := rfl
    rw [this]
    have b1 : (1 : Rat) ≤ big := by unfold big; grind
    have := Rat.mul_le_mul_of_nonneg_left b1 (Rat.le_of_lt hp)
    grind
  have hle : N ≤ tp 180 * UN * 1 := by
    refine nat_le_of N _ eta m hp hN ?_
    rw [Nat.mul_one, Rat.natCast_mul]
    have e := eta_UN
    have b : big ≤ ((tp 180 : Nat) : Rat) := by
      rw [big_tp]; exact Rat.natCast_le_natCast.2 (tp_le (by decide))
    generalize ((tp 180 : Nat) : Rat) = A at *
    have e2 : A * (UN : Rat) * eta = A * (eta * (UN : Rat)) := by rw [Rat.mul_assoc, Rat.mul_comm (UN : Rat)]
    rw [e2, e, Rat.mul_one]
    exact Rat.le_trans h2 b
  obtain ⟨f, g, gs, q⟩ := round_bd s N 1 eta m (by decide) (Rat.le_of_lt hp) hN hd hle
  rw [← hr] at f g gs
  refine ⟨f, ?_⟩
  have : qv r = sgn s ((valR (rungQ N 1) : Rat) * ((1 : Nat) : Rat) * eta) := by
    rw [qv_av, gs]; unfold av; rw [g]
    have : ((1 : Nat) : Rat) = 1 := rfl
    rw [this, Rat.mul_one]
  rw [this]; exact q

theorem sgn_bdw (s : Bool) (x m : Rat) : Bd (sgn s x) m ↔ Bd x m := ⟨sgn_bd', sgn_bd⟩

theorem FMul.err {x y r : Nat} (h : FMul x y r) (hx : fin x) (hy : fin y) {m : Rat} (hm : Bd (qv x * qv y) m) (h1 : small ≤ m) (h2 : m ≤ big) :
    fin r ∧ Bd (qv r - qv x * qv y) (uu * m) := by
  have hr := h.eq (mul_fin x y hx hy)
  have hp := eta_pos
  have hs := eta_small
  have e := eta_UN
  have e0 : qv x * qv y = sgn (sg x ^^ sg y) (((mv x * mv y : Nat) : Rat) * (eta * eta)) := by
    rw [qv_av, qv_av, sgn_mul, Rat.natCast_mul]; unfold av; congr 1; grind
  rw [e0] at hm ⊢
  generalize mv x * mv y = N at *
  have hN : (N : Rat) * (eta * eta) ≤ m := (sgn_bd' hm).2
  have hpp : 0 < eta * eta := Rat.mul_pos hp hp
  have hd : (UN : Rat) * (eta * eta) ≤ m * (1 / 4503599627370496) := by
    have : (UN : Rat) * (eta * eta) = eta := by rw [← Rat.mul_assoc, Rat.mul_comm (UN : Rat), e, Rat.one_mul]
    rw [this]
    have b1 : (1 : Rat) ≤ big := by unfold big; grind
    have := Rat.mul_le_mul_of_nonneg_left b1 (Rat.le_of_lt hp)
    grind
  have hle : N ≤ tp 180 * UN * UN := by
    refine nat_le_of N _ (eta * eta) m hpp hN ?_
    rw [Rat.natCast_mul, Rat.natCast_mul]
    have b : big ≤ ((tp 180 : Nat) : Rat) := by
      rw [big_tp]; exact Rat.natCast_le_natCast.2 (tp_le (by decide))
    generalize ((tp 180 : Nat) : Rat) = A at *
    have e2 : A * (UN : Rat) * (UN : Rat) * (eta * eta) = A * (eta * (UN : Rat)) * (eta * (UN : Rat)) := by
      generalize (UN : Rat) = Z; grind
    rw [e2, e, Rat.mul_one, Rat.mul_one]
    exact Rat.le_trans h2 b
  obtain ⟨f, g, gs, q⟩ := round_bd (sg x ^^ sg y) N UN (eta * eta) m UN_pos (Rat.le_of_lt hpp) hN hd hle
  rw [← hr] at f g gs
  refine ⟨f, ?_⟩
  have : qv r = sgn (sg x ^^ sg y) ((valR (rungQ N UN) : Rat) * (UN : Rat) * (eta * eta)) := by
    rw [qv_av, gs]; unfold av; rw [g]
    congr 1
    have : ∀ V : Rat, V * (UN : Rat) * (eta * eta) = V * eta * (eta * (UN : Rat)) := by intro V; generalize (UN : Rat) = Z; grind
    rw [this, e, Rat.mul_one]
  rw [this]; exact q

/-- a quotient, by what it is times its divisor. -/
theorem FDiv.err {x y r : Nat} (h : FDiv x y r) (hx : fin x) (hy : fin y) {m : Rat} (hm : Bd (qv x) m) (h1 : small ≤ m) (h2 : m ≤ big)
    (hy1 : small ≤ av y) (hy2 : av y ≤ big) :
    fin r ∧ Bd (qv r * qv y - qv x) (uu * m) := by
  have hp := eta_pos
  have hs := eta_small
  have e := eta_UN
  have y0 : mv y ≠ 0 := by
    intro c
    have z : ((0 : Nat) : Rat) = 0 := rfl
    have sp := small_pos
    unfold av at hy1; rw [c, z, Rat.zero_mul] at hy1
    grind
  have hr := h.eq (div_fin x y hx hy y0)
  have hpp : 0 < eta * eta := Rat.mul_pos hp hp
  have ex : av x = ((mv x * UN : Nat) : Rat) * (eta * eta) := by
    unfold av; rw [Rat.natCast_mul]
    have : ∀ V : Rat, V * (UN : Rat) * (eta * eta) = V * eta * (eta * (UN : Rat)) := by intro V; generalize (UN : Rat) = Z; grind
    rw [this, e, Rat.mul_one]
  have e0 : qv x = sgn (sg x) (((mv x * UN : Nat) : Rat) * (eta * eta)) := by rw [qv_av, ex]
  have hN : ((mv x * UN : Nat) : Rat) * (eta * eta) ≤ m := by rw [e0] at hm; exact (sgn_bd' hm).2
  have hd : (mv y : Rat) * (eta * eta) ≤ m * (1 / 4503599627370496) := by
    have a1 : (mv y : Rat) * (eta * eta) = av y * eta := by unfold av; rw [Rat.mul_assoc]
    rw [a1]
    have := Rat.mul_le_mul_of_nonneg_right hy2 (Rat.le_of_lt hp)
    grind
  have hle : mv x * UN ≤ tp 180 * UN * mv y := by
    refine nat_le_of _ _ (eta * eta) big hpp (Rat.le_trans hN h2) ?_
    rw [Rat.natCast_mul, Rat.natCast_mul]
    have b : ((tp 180 : Nat) : Rat) = big * big := by
      rw [big_tp, ← Rat.natCast_mul, ← tp_add]
    have : ∀ A : Rat, A * (UN : Rat) * (mv y : Rat) * (eta * eta) = A * av y * (eta * (UN : Rat)) := by intro A; unfold av; generalize (UN : Rat) = Z; generalize (mv y : Rat) = Y; grind
    rw [this, e, Rat.mul_one, b]
    have bs := big_small
    have bp : 0 ≤ big * big := by unfold big; grind
    have := Rat.mul_le_mul_of_nonneg_left hy1 bp
    have e5 : big * big * small = big := by rw [Rat.mul_assoc, bs, Rat.mul_one]
    rw [e5] at this
    exact this
  obtain ⟨f, g, gs, q⟩ := round_bd (sg x ^^ sg y) (mv x * UN) (mv y) (eta * eta) m (Nat.pos_of_ne_zero y0) (Rat.le_of_lt hpp) hN hd hle
  rw [← hr] at f g gs
  refine ⟨f, ?_⟩
  have e6 : qv r * qv y = sgn (sg x) ((valR (rungQ (mv x * UN) (mv y)) : Rat) * (mv y : Rat) * (eta * eta)) := by
    rw [qv_av r, qv_av y, gs, sgn_mul]; unfold av; rw [g]
    have : ((sg x ^^ sg y) ^^ sg y) = sg x := by cases sg x <;> cases sg y <;> rfl
    rw [this]
    have : ∀ V Y : Rat, V * eta * (Y * eta) = V * Y * (eta * eta) := by intro V Y; grind
    exact congrArg (sgn (sg x)) (this _ _)
  rw [e6]
  have e7 : qv x = sgn (sg x) (((mv x * UN : Nat) : Rat) * (eta * eta)) := e0
  rw [e7, sgn_sub, sgn_bdw]
  have q' := q
  rw [sgn_sub, sgn_bdw] at q'
  exact q'

end Fl
