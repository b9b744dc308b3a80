/- A quotient times its divisor, on words. No program in sight. -/
import Derived.Test.YtmfmgofafamemaaFlQuo2
namespace Fl
open Go

theorem mul_back {a b c d x y X Y : Nat} {S : Rat} (hS : 1 / 16 ≤ S) (hS2 : S ≤ 16) (fx : fin x) (fy : fin y) (fc : fin c) (fd : fin d)
    (ha : Bd (qv a) S) (hb : Bd (qv b) S)
    (xc : Bd (qv x * qv c) (3 * S)) (yd : Bd (qv y * qv d) (3 * S)) (xd : Bd (qv x * qv d) (3 * S)) (yc : Bd (qv y * qv c) (3 * S))
    (h1 : Bd (qv x * qv c - qv y * qv d - qv a) (25 * (S * uu))) (h2 : Bd (qv x * qv d + qv y * qv c - qv b) (25 * (S * uu)))
    (h : MulR x y c d X Y) : fin X ∧ fin Y ∧ Bd (qv X - qv a) (33 * (S * uu)) ∧ Bd (qv Y - qv b) (33 * (S * uu)) := by
  obtain ⟨p, q, r, s, o1, o2, o3, o4, o5, o6⟩ := h
  have u0 := uu_pos
  have u1 := uu_le
  have kS : S * uu ≤ S * (1 / 1000000) := Rat.mul_le_mul_of_nonneg_left u1 (by grind)
  have k0 : 0 ≤ S * uu := Rat.mul_nonneg (by grind) (Rat.le_of_lt u0)
  obtain ⟨fp, e1⟩ := o1.err fx fc (m := 3 * S) xc (small_le (by grind)) (le_big (by grind))
  obtain ⟨fq, e2⟩ := o2.err fy fd (m := 3 * S) yd (small_le (by grind)) (le_big (by grind))
  obtain ⟨fr, e4⟩ := o4.err fx fd (m := 3 * S) xd (small_le (by grind)) (le_big (by grind))
  obtain ⟨fs, e5⟩ := o5.err fy fc (m := 3 * S) yc (small_le (by grind)) (le_big (by grind))
  have e1' : Bd (qv p - qv x * qv c) (3 * (S * uu)) := e1.mono (by grind)
  have e2' : Bd (qv q - qv y * qv d) (3 * (S * uu)) := e2.mono (by grind)
  have e4' : Bd (qv r - qv x * qv d) (3 * (S * uu)) := e4.mono (by grind)
  have e5' : Bd (qv s - qv y * qv c) (3 * (S * uu)) := e5.mono (by grind)
  have d1 : Bd (qv p - qv q - qv a) (31 * (S * uu)) := by
    have := (e1'.sub e2').add h1
    have e : qv p - qv x * qv c - (qv q - qv y * qv d) + (qv x * qv c - qv y * qv d - qv a) = qv p - qv q - qv a := by grind
    rw [e] at this; exact this.mono (by grind)
  have d2 : Bd (qv r + qv s - qv b) (31 * (S * uu)) := by
    have := (e4'.add e5').add h2
    have e : qv r - qv x * qv d + (qv s - qv y * qv c) + (qv x * qv d + qv y * qv c - qv b) = qv r + qv s - qv b := by grind
    rw [e] at this; exact this.mono (by grind)
  have n1 : Bd (qv p - qv q) (2 * S) := by
    have := d1.add ha
    have e : qv p - qv q - qv a + qv a = qv p - qv q := by grind
    rw [e] at this; exact this.mono (by grind)
  have n2 : Bd (qv r + qv s) (2 * S) := by
    have := d2.add hb
    have e : qv r + qv s - qv b + qv b = qv r + qv s := by grind
    rw [e] at this; exact this.mono (by grind)
  obtain ⟨fX, e3⟩ := o3.err o2.lt fp fq n1 (small_le (by grind)) (le_big (by grind))
  obtain ⟨fY, e6⟩ := o6.err fr fs n2 (small_le (by grind)) (le_big (by grind))
  refine ⟨fX, fY, ?_, ?_⟩
  · have := e3.add d1
    have e : qv X - (qv p - qv q) + (qv p - qv q - qv a) = qv X - qv a := by grind
    rw [e] at this; exact this.mono (by grind)
  · have := e6.add d2
    have e : qv Y - (qv r + qv s) + (qv r + qv s - qv b) = qv Y - qv b := by grind
    rw [e] at this; exact this.mono (by grind)

theorem av_mul (x y : Nat) : av x * av y = sgn (sg x ^^ sg y) (qv x * qv y) := by
  rw [qv_av x, qv_av y]; unfold sgn; cases sg x <;> cases sg y <;> simp <;> grind
theorem av_mul_bd {x y : Nat} {m : Rat} : Bd (qv x * qv y) m ↔ av x * av y ≤ m := by
  constructor
  · intro h; rw [av_mul]; exact (sgn_bd h).2
  · intro h
    have := Rat.mul_nonneg (av_nonneg x) (av_nonneg y)
    refine sgn_bd' (s := sg x ^^ sg y) ?_
    rw [← av_mul]; exact ⟨by grind, h⟩
theorem smaller_mul {x c d : Nat} {m : Rat} (h : Bd (qv x * qv c) m) (hd : av d ≤ av c) : Bd (qv x * qv d) m := by
  rw [av_mul_bd] at *
  exact Rat.le_trans (Rat.mul_le_mul_of_nonneg_left hd (av_nonneg x)) h

/-- a part of plain size. -/
def Plain (x : Nat) : Prop := x < 2 ^ 64 ∧ fin x ∧ 1 / 16 ≤ av x ∧ av x ≤ 16

theorem ofNat_ne_gt {a b : Nat} (h : a < b) : (compare (a : Int) (b : Int) == .gt) = false ∧ (compare (a : Int) (b : Int) == .eq) = false := by
  have : compare (a : Int) (b : Int) = .lt := by rw [Int.compare_eq_lt]; omega
  rw [this]; exact ⟨rfl, rfl⟩

theorem rg_rg (x : Nat) : rg (rg x) = rg x := by unfold rg; exact Nat.mod_mod _ _
theorem sg_rg (x : Nat) : sg (rg x) = false := by
  unfold sg rg; have : x % 2 ^ 63 / 2 ^ 63 = 0 := Nat.div_eq_of_lt (Nat.mod_lt _ (by decide)); rw [this]; rfl
theorem iv_rg (x : Nat) : iv (rg x) = (mv x : Int) := by
  unfold iv; rw [sg_rg]; unfold mv; rw [rg_rg]; rfl

theorem geB_rg (c d : Nat) (hc : fin c) (hd : fin d) : geB (rg c) (rg d) = decide (av d ≤ av c) := by
  unfold geB
  have e : FloatKind.f64.format.order (rg c) (rg d) = some (compare (iv (rg c)) (iv (rg d))) := order_fin _ _ (by unfold fin; rw [rg_rg]; exact hc) (by unfold fin; rw [rg_rg]; exact hd)
  rw [e, iv_rg, iv_rg]
  have hp := eta_pos
  have key : av d ≤ av c ↔ mv d ≤ mv c := by
    unfold av
    constructor
    · intro h; exact Rat.natCast_le_natCast.1 (Rat.le_of_mul_le_mul_right h hp)
    · intro h; exact Rat.mul_le_mul_of_nonneg_right (Rat.natCast_le_natCast.2 h) (Rat.le_of_lt hp)
  rw [decide_eq_decide.2 key]
  rcases Nat.lt_trichotomy (mv c) (mv d) with h | h | h
  · have : compare (mv c : Int) (mv d : Int) = .lt := by rw [Int.compare_eq_lt]; omega
    rw [this, decide_eq_false (by omega)]; rfl
  · have : compare (mv c : Int) (mv d : Int) = .eq := by rw [Int.compare_eq_eq]; omega
    rw [this, decide_eq_true (by omega)]; rfl
  · have : compare (mv c : Int) (mv d : Int) = .gt := by rw [Int.compare_eq_gt]; omega
    rw [this, decide_eq_true (by omega)]; rfl

/-- a quotient times its divisor is near what was divided. -/
theorem quo_back {a b c d x y X Y : Nat} {S : Rat} (pa : Plain a) (pb : Plain b) (pc : Plain c) (pd : Plain d)
    (ha : av a ≤ S) (hb : av b ≤ S) (hS : S ≤ 16) (hD : DivR a b c d x y) (hM : MulR x y c d X Y) :
    fin X ∧ fin Y ∧ Bd (qv X - qv a) (33 * (S * uu)) ∧ Bd (qv Y - qv b) (33 * (S * uu)) := by
  obtain ⟨a1, a2, a3, a4⟩ := pa
  obtain ⟨b1, b2, b3, b4⟩ := pb
  obtain ⟨c1, c2, c3, c4⟩ := pc
  obtain ⟨d1, d2, d3, d4⟩ := pd
  have S16 : 1 / 16 ≤ S := by grind
  rcases hD with ⟨g, r, m, t, m1, n1, m2, n2, o1, o2, o3, o4, o5, o6, o7, o8, o9⟩ | ⟨g, r, m, t, m1, n1, m2, n2, o1, o2, o3, o4, o5, o6, o7, o8, o9⟩
  · rw [geB_rg c d c2 d2] at g
    have g' : av d ≤ av c := of_decide_eq_true g
    obtain ⟨fx, fy, h1, h2, h3, h4⟩ := quo_words false a2 b2 c2 d2 b1 o7.lt (qv_bd ha) (qv_bd hb) S16 hS c3 c4 g' o1 o2 o3 o4 o5 o6 o7 (by rw [if_neg (by decide)]; exact o8) o9
    have e : sgn false (qv y) = qv y := rfl
    rw [e] at h1 h2
    have e2 : qv y * qv c + qv x * qv d - qv b = qv x * qv d + qv y * qv c - qv b := by grind
    rw [e2] at h2
    exact mul_back S16 hS fx fy c2 d2 (qv_bd ha) (qv_bd hb) h3 (smaller_mul h4 g') (smaller_mul h3 g') h4 h1 h2 hM
  · rw [geB_rg c d c2 d2] at g
    have g0 : ¬ av d ≤ av c := of_decide_eq_false g
    have g' : av c ≤ av d := by grind
    obtain ⟨fx, fy, h1, h2, h3, h4⟩ := quo_words true b2 a2 d2 c2 a1 o7.lt (qv_bd hb) (qv_bd ha) S16 hS d3 d4 g' o1 o2 o3.comm o4 o5.comm o6 o7 (by rw [if_pos rfl]; exact o8) o9
    have e : sgn true (qv y) = -(qv y) := rfl
    rw [e] at h1 h2
    have e1 : qv x * qv d - -qv y * qv c - qv b = qv x * qv d + qv y * qv c - qv b := by grind
    have e2 : -qv y * qv d + qv x * qv c - qv a = qv x * qv c - qv y * qv d - qv a := by grind
    rw [e1] at h1; rw [e2] at h2
    exact mul_back S16 hS fx fy c2 d2 (qv_bd ha) (qv_bd hb) (smaller_mul h3 g') h4 h3 (smaller_mul h4 g') h2 h1 hM
end Fl
