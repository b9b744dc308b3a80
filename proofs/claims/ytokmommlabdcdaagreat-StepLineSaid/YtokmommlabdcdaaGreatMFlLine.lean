/- A line with a whole root at a whole point: no step is rounded. -/
import Derived.Test.YtokmommlabdcdaaGreatMHorner2
import Derived.Test.YtokmommlabdcdaaGreatMFlUnit
set_option linter.unusedVariables false
set_option linter.unusedSimpArgs false
set_option linter.unusedVariables false
namespace Fl
theorem IsI.isV {x : Nat} {m : Int} (h : IsI x m) : IsV x (m * (UN : Int)) := ⟨h.1, h.2.2, h.2.1⟩
theorem IsV.isI {x : Nat} {m : Int} (h : IsV x (m * (UN : Int))) : IsI x m := ⟨h.1, h.2.2, h.2.1⟩
theorem rep_un {k : Int} (hk : k.natAbs ≤ 2 ^ 53) : Rep (k * (UN : Int)) := by
  obtain ⟨r, h1, h2⟩ := exists_rung k.natAbs hk
  exact ⟨r, h1, by rw [h2, Int.natAbs_mul, Int.natAbs_natCast]⟩
theorem un_ne : (UN : Int) ≠ 0 := by
  have h : 0 < UN := Nat.two_pow_pos _
  omega
theorem IsI.div {x y r : Nat} {k n : Int} (hx : IsI x (n * k)) (hy : IsI y n) (h : FDiv x y r) (hn : n ≠ 0) (hk : k.natAbs ≤ 2 ^ 53) : IsI r k := by
  refine IsV.isI (IsV.div hx.isV hy.isV h ?_ ?_ (rep_un hk))
  · intro e
    rcases Int.mul_eq_zero.1 e with e | e
    · exact hn e
    · exact un_ne e
  · rw [Int.mul_comm n k, Int.mul_assoc, Int.mul_assoc, Int.mul_assoc]
    congr 1
    rw [Int.mul_left_comm]
theorem IsI.eq {x : Nat} {m n : Int} (h : IsI x m) (e : m = n) : IsI x n := e ▸ h
theorem small {m a : Int} (hm : m.natAbs ≤ 1024) (ha : a.natAbs ≤ 2048) : (m * a).natAbs ≤ 2 ^ 21 := by
  rw [Int.natAbs_mul]
  exact Nat.le_trans (Nat.mul_le_mul hm ha) (by decide)
theorem geB_zero {c d : Nat} {m : Int} (hc : IsI c m) (hd : IsI d 0) : geB (rg c) (rg d) = true := by
  rw [geB_mv hc.isV hd.isV]
  simp
/-- a whole line's quotient: v / m -/
theorem line_div {a b c d x y : Nat} {m p q : Int} (ha : IsI a (m * p)) (hb : IsI b (m * q)) (hc : IsI c m) (hd : IsI d 0) (hm0 : m ≠ 0) (hm : m.natAbs ≤ 1024) (hp : p.natAbs ≤ 2048) (hq : q.natAbs ≤ 2048) (h : DivR a b c d x y) : IsI x p ∧ IsI y q := by
  have sp := small hm hp
  have sq := small hm hq
  rcases h with ⟨_, r, m', t, m1, n1, m2, n2, e1, e2, e3, e4, e5, e6, e7, e8, e9⟩ | ⟨g, _⟩
  · have hr : IsI r 0 := IsI.div (k := 0) (n := m) (hd.eq (by rw [Int.mul_zero])) hc e1 hm0 (by decide)
    have hm' : IsI m' 0 := (hd.mul hr e2 (by decide)).eq (by decide)
    have ht : IsI t m := (hc.add hm' e3 (by rw [Int.add_zero]; omega)).eq (Int.add_zero _)
    have h1 : IsI m1 0 := (hb.mul hr e4 (by rw [Int.mul_zero]; decide)).eq (Int.mul_zero _)
    have h2 : IsI n1 (m * p) := (ha.add h1 e5 (by rw [Int.add_zero]; omega)).eq (Int.add_zero _)
    have h3 : IsI m2 0 := (ha.mul hr e7 (by rw [Int.mul_zero]; decide)).eq (Int.mul_zero _)
    have h4 : IsI n2 (m * q) := (hb.sub h3 e8 (by rw [Int.sub_zero]; omega)).eq (Int.sub_zero _)
    exact ⟨h2.div ht e6 hm0 (by omega), h4.div ht e9 hm0 (by omega)⟩
  · rw [geB_zero hc hd] at g; cases g
theorem line_mul {a b c d x y : Nat} {m p q : Int} (ha : IsI a m) (hb : IsI b 0) (hc : IsI c p) (hd : IsI d q) (hm : m.natAbs ≤ 1024) (hp : p.natAbs ≤ 2048) (hq : q.natAbs ≤ 2048) (h : MulR a b c d x y) : IsI x (m * p) ∧ IsI y (m * q) := by
  have sp := small hm hp
  have sq := small hm hq
  obtain ⟨u, v, r, s, e1, e2, e3, e4, e5, e6⟩ := h
  have h1 := ha.mul hc e1 (by omega)
  have h2 : IsI v 0 := (hb.mul hd e2 (by rw [Int.zero_mul]; decide)).eq (Int.zero_mul _)
  have h3 := ha.mul hd e4 (by omega)
  have h4 : IsI s 0 := (hb.mul hc e5 (by rw [Int.zero_mul]; decide)).eq (Int.zero_mul _)
  exact ⟨(h1.sub h2 e3 (by rw [Int.sub_zero]; omega)).eq (Int.sub_zero _), (h3.add h4 e6 (by rw [Int.add_zero]; omega)).eq (Int.add_zero _)⟩
end Fl
namespace Go.Proofs.YtokmommlabdcdaaGreat
open Fl
/-- the value and the slope of the line -/
theorem line_value {v z c x : Cpx} {m p q r : Int} (hv : IsI v.1 m) (hv2 : IsI v.2 0) (hz : IsI z.1 p) (hz2 : IsI z.2 q) (hc : IsI c.1 (-m * r)) (hc2 : IsI c.2 0) (hm : m.natAbs ≤ 1024) (hp : p.natAbs ≤ 1024) (hq : q.natAbs ≤ 1024) (hr : r.natAbs ≤ 1024) (h : StepR v z c x) : IsI x.1 (m * (p - r)) ∧ IsI x.2 (m * q) := by
  obtain ⟨s, t, h1, h2⟩ := h
  have ⟨a, b⟩ := line_mul hv hv2 hz hz2 hm (by omega) (by omega) h1
  have s1 := small (a := p - r) hm (by omega)
  have s2 := small (a := q) hm (by omega)
  have e : m * p + -m * r = m * (p - r) := by rw [Int.mul_sub, Int.neg_mul]; omega
  exact ⟨(a.add hc h2.1 (by rw [e]; omega)).eq e, (b.add hc2 h2.2 (by rw [Int.add_zero]; omega)).eq (Int.add_zero _)⟩
theorem line_slope {z c x : Cpx} {m p q : Int} (hz : IsI z.1 p) (hz2 : IsI z.2 q) (hc : IsI c.1 m) (hc2 : IsI c.2 0) (hm : m.natAbs ≤ 1024) (hp : p.natAbs ≤ 1024) (hq : q.natAbs ≤ 1024) (h : StepR (0, 0) z c x) : IsI x.1 m ∧ IsI x.2 0 := by
  obtain ⟨s, t, h1, h2⟩ := h
  have ⟨a, b⟩ := line_mul (m := 0) IsI.zero IsI.zero hz hz2 (by decide) (by omega) (by omega) h1
  have a := a.eq (Int.zero_mul _)
  have b := b.eq (Int.zero_mul _)
  exact ⟨(a.add hc h2.1 (by rw [Int.zero_add]; omega)).eq (Int.zero_add _), (b.add hc2 h2.2 (by decide)).eq (by decide)⟩
theorem line_sub {z q x : Cpx} {p r b : Int} (hz : IsI z.1 p) (hz2 : IsI z.2 b) (hq : IsI q.1 (p - r)) (hq2 : IsI q.2 b) (hp : p.natAbs ≤ 1024) (hb : b.natAbs ≤ 1024) (hr : r.natAbs ≤ 1024) (h : SubR z.1 z.2 q.1 q.2 x.1 x.2) : IsI x.1 r ∧ IsI x.2 0 :=
  ⟨(hz.sub hq h.1 (by omega)).eq (by omega), (hz2.sub hq2 h.2 (by omega)).eq (by omega)⟩
theorem line_newton {k c z x : Cpx} {m p q r : Int} (hk : IsI k.1 (-m * r)) (hk2 : IsI k.2 0) (hc : IsI c.1 m) (hc2 : IsI c.2 0) (hz : IsI z.1 p) (hz2 : IsI z.2 q) (hm0 : m ≠ 0) (hm : m.natAbs ≤ 1024) (hp : p.natAbs ≤ 1024) (hq : q.natAbs ≤ 1024) (hr : r.natAbs ≤ 1024) (h : NewtonR [k, c] z x) : IsI x.1 r ∧ IsI x.2 0 := by
  obtain ⟨v, s, d, ⟨v0, s0, ⟨rfl, rfl⟩, h1, h2⟩, h3, h4⟩ := h
  have ⟨a1, a2⟩ := line_value hc hc2 hz hz2 hk hk2 hm hp hq hr h1
  have ⟨b1, b2⟩ := line_slope hz hz2 hc hc2 hm hp hq h2
  have ⟨d1, d2⟩ := line_div a1 a2 b1 b2 hm0 hm (by omega) (by omega) h3
  exact line_sub hz hz2 d1 d2 hp hq hr h4
theorem line_weier {k c z x : Cpx} {m p q r : Int} (hk : IsI k.1 (-m * r)) (hk2 : IsI k.2 0) (hc : IsI c.1 m) (hc2 : IsI c.2 0) (hz : IsI z.1 p) (hz2 : IsI z.2 q) (hm0 : m ≠ 0) (hm : m.natAbs ≤ 1024) (hp : p.natAbs ≤ 1024) (hq : q.natAbs ≤ 1024) (hr : r.natAbs ≤ 1024) (h : WeierR [k, c] [z] 0 x) : IsI x.1 r ∧ IsI x.2 0 := by
  obtain ⟨d, v, t, ⟨y, rfl, ⟨_, rfl⟩ | ⟨h0, _⟩⟩, ⟨v0, rfl, h1⟩, h3, h4⟩ := h
  · have ⟨a1, a2⟩ := line_value hc hc2 hz hz2 hk hk2 hm hp hq hr h1
    have ⟨d1, d2⟩ := line_div a1 a2 hc hc2 hm0 hm (by omega) (by omega) h3
    exact line_sub hz hz2 d1 d2 hp hq hr h4
  · exact absurd rfl h0
end Go.Proofs.YtokmommlabdcdaaGreat
