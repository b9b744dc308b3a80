/- The scaled division on words: its errors. No program in sight. -/
import Derived.Test.YtmfmgofafamemaaFlErr2
import Derived.Test.YtmfmgofafamemaaFlQuo
namespace Fl
open Go

theorem mv_neg (x : Nat) (h : x < 2 ^ 64) : mv (neg x) = mv x := by unfold mv; rw [rg_neg x h]
theorem sgn_not (s : Bool) (x : Rat) : sgn (!s) x = -(sgn s x) := by unfold sgn; cases s <;> simp
theorem qv_neg (x : Nat) (h : x < 2 ^ 64) : qv (neg x) = -(qv x) := by
  rw [qv_av, qv_av, sg_neg x h, sgn_not]; unfold av; rw [mv_neg x h]

theorem FSub.err {x y r : Nat} (h : FSub x y r) (hy64 : y < 2 ^ 64) (hx : fin x) (hy : fin y) {m : Rat} (hm : Bd (qv x - qv y) m) (h1 : small ≤ m) (h2 : m ≤ big) :
    fin r ∧ Bd (qv r - (qv x - qv y)) (uu * m) := by
  have e : qv x + qv (neg y) = qv x - qv y := by rw [qv_neg y hy64, Rat.sub_eq_add_neg]
  have := (h.add hy64).err hx ((fin_neg y hy64).2 hy) (m := m) (by rw [e]; exact hm) h1 h2
  rw [e] at this; exact this

theorem av_le {x : Nat} {m : Rat} (h : Bd (qv x) m) : av x ≤ m := by
  rw [qv_av] at h; exact (sgn_bd' h).2
theorem qv_bd {x : Nat} {m : Rat} (h : av x ≤ m) : Bd (qv x) m := by
  rw [qv_av]; refine sgn_bd ⟨?_, h⟩; have := av_nonneg x; grind
theorem qv_pm (x : Nat) : qv x = av x ∨ qv x = -av x := by rw [qv_av]; unfold sgn; cases sg x <;> simp
/-- a bound on a product by one factor gives one on the other. -/
theorem Bd.of_mul {e c g k : Rat} (hc : c = g ∨ c = -g) (hg : 0 < g) (h : Bd (e * c) (k * g)) : Bd e k := by
  have key : Bd (e * g) (k * g) := by
    rcases hc with h' | h' <;> rw [h'] at h
    · exact h
    · have := h.neg; have e2 : -(e * -g) = e * g := by grind
      rwa [e2] at this
  have e3 : -(k * g) = -k * g := by grind
  exact ⟨Rat.le_of_mul_le_mul_right (c := g) (by rw [← e3]; exact key.1) hg, Rat.le_of_mul_le_mul_right key.2 hg⟩

theorem small_le {m : Rat} (h : 1 / 1000000 ≤ m) : small ≤ m := by unfold small; grind
theorem le_big {m : Rat} (h : m ≤ 1000000) : m ≤ big := by unfold big; grind

/-- the scaled division of a + bi by c + di, where c is the larger. f turns the last difference. -/
theorem quo_words (f : Bool) {a b c d r m t m1 n1 x m2 n2 y : Nat} {S : Rat}
    (fa : fin a) (fb : fin b) (fc : fin c) (fd : fin d)
    (hb64 : b < 2 ^ 64) (hm264 : m2 < 2 ^ 64)
    (ha : Bd (qv a) S) (hb : Bd (qv b) S) (hS : 1 / 16 ≤ S) (hS2 : S ≤ 16) (hc : 1 / 16 ≤ av c) (hc2 : av c ≤ 16) (hd : av d ≤ av c)
    (o1 : FDiv d c r) (o2 : FMul d r m) (o3 : FAdd c m t) (o4 : FMul b r m1) (o5 : FAdd a m1 n1) (o6 : FDiv n1 t x)
    (o7 : FMul a r m2) (o8 : if f then FSub m2 b n2 else FSub b m2 n2) (o9 : FDiv n2 t y) :
    fin x ∧ fin y ∧ Bd (qv x * qv c - sgn f (qv y) * qv d - qv a) (25 * (S * uu)) ∧ Bd (sgn f (qv y) * qv c + qv x * qv d - qv b) (25 * (S * uu)) ∧
      Bd (qv x * qv c) (3 * S) ∧ Bd (qv y * qv c) (3 * S) := by
  have u0 := uu_pos
  have u1 := uu_le
  have g0 : 0 < av c := by grind
  have hcpm := qv_pm c
  -- r
  obtain ⟨fr, e1⟩ := o1.err fd fc (m := av c) (qv_bd hd) (small_le (by grind)) (le_big (by grind)) (small_le (by grind)) (le_big (by grind))
  have hD : Bd (qv d) (av c) := qv_bd hd
  have hC : Bd (qv c) (av c) := qv_bd Rat.le_refl
  generalize hDD : qv d = D at *
  generalize hAA : qv a = A at *
  generalize hBB : qv b = B at *
  have hC0 : qv c ≠ 0 := by
    intro e; rw [e] at hcpm; grind
  generalize hCC : qv c = C at *
  generalize hgg : av c = g at *
  have ci : ∃ i : Rat, C * i = 1 := ⟨C⁻¹, Rat.mul_inv_cancel C hC0⟩
  obtain ⟨i, hi⟩ := ci
  have hrho : Bd (D * i) 1 := by
    refine Bd.of_mul hcpm g0 ?_
    have : D * i * C = D := by grind
    rw [this, Rat.one_mul]; exact hD
  have b1 : Bd (qv r - D * i) uu := by
    refine Bd.of_mul hcpm g0 ?_
    have : (qv r - D * i) * C = qv r * C - D := by grind
    rw [this]; exact e1
  generalize hRR : qv r = R at *
  have hR : Bd R (1 + uu) := by
    have := hrho.add b1
    have e : D * i + (R - D * i) = R := by grind
    rwa [e] at this
  -- m
  have bDR : Bd (D * R) (g * (1 + uu)) := hD.mul hR
  obtain ⟨fm, e2⟩ := o2.err fd fr (m := 2 * g) (by rw [hDD, hRR]; refine bDR.mono ?_; have := Rat.mul_le_mul_of_nonneg_left u1 (Rat.le_of_lt g0); grind) (small_le (by grind)) (le_big (by grind))
  rw [hDD, hRR] at e2
  generalize hMM : qv m = M at *
  have b2 : Bd (M * i - D * i * R) (2 * uu) := by
    refine Bd.of_mul hcpm g0 ?_
    have : (M * i - D * i * R) * C = M - D * R := by grind
    rw [this]; exact e2.mono (by grind)
  have ug : uu * g ≤ 1 / 1000000 * g := Rat.mul_le_mul_of_nonneg_right u1 (Rat.le_of_lt g0)
  have bM : Bd M (2 * g) := by
    have := bDR.add e2
    have e : D * R + (M - D * R) = M := by grind
    rw [e] at this; exact this.mono (by grind)
  -- t
  obtain ⟨ft, e3⟩ := o3.err fc fm (m := 3 * g) (by rw [hCC, hMM]; exact (hC.add bM).mono (by grind)) (small_le (by grind)) (le_big (by grind))
  rw [hCC, hMM] at e3
  generalize hTT : qv t = T at *
  have b3 : Bd (T * i - 1 - M * i) (3 * uu) := by
    refine Bd.of_mul hcpm g0 ?_
    have : (T * i - 1 - M * i) * C = T - (C + M) := by grind
    rw [this]; exact e3.mono (by grind)
  have bT : Bd T (4 * g) := by
    have := (hC.add bM).add e3
    have e : C + M + (T - (C + M)) = T := by grind
    rw [e] at this; exact this.mono (by grind)
  -- t is not small
  have sq : 0 ≤ (D * i) * (D * i) := by
    rcases Rat.le_total (a := 0) (b := D * i) with h | h
    · exact Rat.mul_nonneg h h
    · have := Rat.mul_nonneg (a := -(D * i)) (b := -(D * i)) (by grind) (by grind)
      grind
  have bt : Bd (D * i * (R - D * i)) (1 * uu) := hrho.mul b1
  have t99 : 99 / 100 ≤ T * i := by
    generalize D * i = rho at *
    have e : T * i = 1 + rho * rho + (rho * (R - rho) + (M * i - rho * R) + (T * i - 1 - M * i)) := by grind
    have := (bt.add b2).add b3
    rw [e]
    generalize rho * (R - rho) + (M * i - rho * R) + (T * i - 1 - M * i) = q at *
    grind [Bd]
  have at1 : av t ≤ 4 * g := by have : Bd (qv t) (4 * g) := by rw [hTT]; exact bT
                                exact av_le this
  have at2 : 1 / 100 ≤ av t := by
    have pm := qv_pm t
    rw [hTT] at pm
    have gi : g * i = 1 ∨ g * i = -1 := by rcases hcpm with h | h <;> rw [h] at hi <;> grind
    have ag : 99 / 100 * g ≤ av t := by
      have n0 := av_nonneg t
      have tc : T * i * C = T := by grind
      generalize T * i = tau at *
      have k1 := Rat.mul_nonneg (a := tau - 99 / 100) (b := g) (by grind) (by grind)
      rcases hcpm with h | h <;> rw [h] at tc <;> rcases pm with p | p <;> grind
    grind
  have k0 : 0 ≤ S * uu := Rat.mul_nonneg (by grind) (Rat.le_of_lt u0)
  have kS : S * uu ≤ S * (1 / 1000000) := Rat.mul_le_mul_of_nonneg_left u1 (by grind)
  generalize hk : S * uu = k at *
  -- m1, n1, x
  have bBR : Bd (B * R) (S * (1 + uu)) := hb.mul hR
  obtain ⟨fm1, e4⟩ := o4.err fb fr (m := 2 * S) (by rw [hBB, hRR]; exact bBR.mono (by grind)) (small_le (by grind)) (le_big (by grind))
  rw [hBB, hRR] at e4
  generalize hM1 : qv m1 = M1 at *
  have e4' : Bd (M1 - B * R) (2 * k) := e4.mono (by grind)
  have bM1 : Bd M1 (S + 3 * k) := by
    have := bBR.add e4'
    have e : B * R + (M1 - B * R) = M1 := by grind
    rw [e] at this; exact this.mono (by grind)
  obtain ⟨fn1, e5⟩ := o5.err fa fm1 (m := 3 * S) (by rw [hAA, hM1]; exact (ha.add bM1).mono (by grind)) (small_le (by grind)) (le_big (by grind))
  rw [hAA, hM1] at e5
  generalize hN1 : qv n1 = N1 at *
  have e5' : Bd (N1 - (A + M1)) (3 * k) := e5.mono (by grind)
  have bN1 : Bd N1 (3 * S) := by
    have := (ha.add bM1).add e5'
    have e : A + M1 + (N1 - (A + M1)) = N1 := by grind
    rw [e] at this; exact this.mono (by grind)
  obtain ⟨fx, e6⟩ := o6.err fn1 ft (m := 3 * S) (by rw [hN1]; exact bN1) (small_le (by grind)) (le_big (by grind)) (small_le (by grind)) (le_big (by grind))
  rw [hN1, hTT] at e6
  have e6' : Bd (qv x * T - N1) (3 * k) := e6.mono (by grind)
  -- m2, n2, y
  have bAR : Bd (A * R) (S * (1 + uu)) := ha.mul hR
  obtain ⟨fm2, e7⟩ := o7.err fa fr (m := 2 * S) (by rw [hAA, hRR]; exact bAR.mono (by grind)) (small_le (by grind)) (le_big (by grind))
  rw [hAA, hRR] at e7
  generalize hM2 : qv m2 = M2 at *
  have e7' : Bd (M2 - A * R) (2 * k) := e7.mono (by grind)
  have bM2 : Bd M2 (S + 3 * k) := by
    have := bAR.add e7'
    have e : A * R + (M2 - A * R) = M2 := by grind
    rw [e] at this; exact this.mono (by grind)
  have p8 : fin n2 ∧ Bd (sgn f (qv n2) - (B - M2)) (3 * k) := by
    cases f
    · rw [if_neg (by decide)] at o8
      obtain ⟨fn, e⟩ := o8.err hm264 fb fm2 (m := 3 * S) (by rw [hBB, hM2]; exact (hb.sub bM2).mono (by grind)) (small_le (by grind)) (le_big (by grind))
      rw [hBB, hM2] at e
      exact ⟨fn, e.mono (by grind)⟩
    · rw [if_pos rfl] at o8
      obtain ⟨fn, e⟩ := o8.err hb64 fm2 fb (m := 3 * S) (by rw [hBB, hM2]; exact (bM2.sub hb).mono (by grind)) (small_le (by grind)) (le_big (by grind))
      rw [hBB, hM2] at e
      have e' := e.neg
      have e2 : -(qv n2 - (M2 - B)) = sgn true (qv n2) - (B - M2) := by unfold sgn; rw [if_pos rfl]; grind
      rw [e2] at e'
      exact ⟨fn, e'.mono (by grind)⟩
  obtain ⟨fn2, e8'⟩ := p8
  have bN2 : Bd (sgn f (qv n2)) (3 * S) := by
    have := (hb.sub bM2).add e8'
    have e : B - M2 + (sgn f (qv n2) - (B - M2)) = sgn f (qv n2) := by grind
    rw [e] at this; exact this.mono (by grind)
  obtain ⟨fy, e9⟩ := o9.err fn2 ft (m := 3 * S) (sgn_bd' bN2) (small_le (by grind)) (le_big (by grind)) (small_le (by grind)) (le_big (by grind))
  rw [hTT] at e9
  have e9' : Bd (sgn f (qv y) * T - sgn f (qv n2)) (3 * k) := by
    have e : sgn f (qv y) * T - sgn f (qv n2) = sgn f (qv y * T - qv n2) := by unfold sgn; split <;> grind
    rw [e]; exact sgn_bd (e9.mono (by grind))
  -- together
  have core := quo_core (u := uu) (k := k) (S := S) (rho := D * i) (a := A) (b := B) (r := R) (m := M * i) (t := T * i) (m1 := M1) (n1 := N1) (U := qv x * C)
    (m2 := M2) (n2 := sgn f (qv n2)) (V := sgn f (qv y) * C) (Rat.le_of_lt u0) u1 hk.symm (by grind) hrho ha hb b1 b2 b3 e4' e5' e6' e7' e8' e9'
    (by grind) (by grind) (by grind) (by grind) (by grind) (by grind) (by grind) (by grind) (by grind)
  obtain ⟨c1, c2, c3, c4, _⟩ := core
  refine ⟨fx, fy, ?_, ?_, c3, ?_⟩
  · have e : qv x * C - sgn f (qv y) * D - A = qv x * C - D * i * (sgn f (qv y) * C) - A := by grind
    rw [e]; exact c1
  · have e : sgn f (qv y) * C + qv x * D - B = sgn f (qv y) * C + D * i * (qv x * C) - B := by grind
    rw [e]; exact c2
  · have e : sgn f (qv y) * C = sgn f (qv y * C) := by unfold sgn; split <;> grind
    rw [e] at c4; exact sgn_bd' c4
end Fl
