/- What is no number never passes for one: through every correction. -/
import Derived.Test.YtokmommlabdcdaaGreatMHorner2
import Derived.Test.YtokmommlabdcdaaGreatMFlRel
set_option linter.unusedVariables false
set_option linter.unusedSimpArgs false
set_option linter.unusedVariables false
namespace Go.Proofs.YtokmommlabdcdaaGreat
open Fl
def isN (p : Cpx) : Prop := isNan p.1 ∨ isNan p.2
theorem nanAdd {x y r : Nat} (h : FAdd x y r) (n : isNan x ∨ isNan y) : isNan r := Res.nan h (add_nan x y n)
theorem nanSub {x y r : Nat} (h : FSub x y r) (n : isNan x ∨ isNan y) : isNan r := Res.nan h (sub_nan x y n)
theorem nanMul {x y r : Nat} (h : FMul x y r) (n : isNan x ∨ isNan y) : isNan r := Res.nan h (mul_nan x y n)
theorem nanDiv {x y r : Nat} (h : FDiv x y r) (n : isNan x ∨ isNan y) : isNan r := Res.nan h (div_nan x y n)
theorem addN {a b x : Cpx} (h : AddR a.1 a.2 b.1 b.2 x.1 x.2) (n : isN a ∨ isN b) : isN x := by
  rcases n with (n | n) | (n | n)
  · exact .inl (nanAdd h.1 (.inl n))
  · exact .inr (nanAdd h.2 (.inl n))
  · exact .inl (nanAdd h.1 (.inr n))
  · exact .inr (nanAdd h.2 (.inr n))
theorem subN {a b x : Cpx} (h : SubR a.1 a.2 b.1 b.2 x.1 x.2) (n : isN a ∨ isN b) : isN x := by
  rcases n with (n | n) | (n | n)
  · exact .inl (nanSub h.1 (.inl n))
  · exact .inr (nanSub h.2 (.inl n))
  · exact .inl (nanSub h.1 (.inr n))
  · exact .inr (nanSub h.2 (.inr n))
theorem mulN {a b x : Cpx} (h : MulR a.1 a.2 b.1 b.2 x.1 x.2) (n : isN a ∨ isN b) : isN x := by
  obtain ⟨p, q, r, s, e1, e2, e3, e4, e5, e6⟩ := h
  rcases n with (n | n) | (n | n)
  · exact .inl (nanSub e3 (.inl (nanMul e1 (.inl n))))
  · exact .inl (nanSub e3 (.inr (nanMul e2 (.inl n))))
  · exact .inl (nanSub e3 (.inl (nanMul e1 (.inr n))))
  · exact .inl (nanSub e3 (.inr (nanMul e2 (.inr n))))
theorem divN {a b x : Cpx} (h : DivR a.1 a.2 b.1 b.2 x.1 x.2) (n : isN a) : isN x := by
  rcases h with ⟨_, r, m, t, m1, n1, m2, n2, e1, e2, e3, e4, e5, e6, e7, e8, e9⟩ | ⟨_, r, m, t, m1, n1, m2, n2, e1, e2, e3, e4, e5, e6, e7, e8, e9⟩
  · rcases n with n | n
    · exact .inl (nanDiv e6 (.inl (nanAdd e5 (.inl n))))
    · exact .inl (nanDiv e6 (.inl (nanAdd e5 (.inr (nanMul e4 (.inl n))))))
  · rcases n with n | n
    · exact .inl (nanDiv e6 (.inl (nanAdd e5 (.inl (nanMul e4 (.inl n))))))
    · exact .inl (nanDiv e6 (.inl (nanAdd e5 (.inr n))))
theorem stepN {v z c x : Cpx} (h : StepR v z c x) (n : isN v ∨ isN c) : isN x := by
  obtain ⟨p, q, h1, h2⟩ := h
  rcases n with n | n
  · exact addN (a := (p, q)) h2 (.inl (mulN (x := (p, q)) h1 (.inl n)))
  · exact addN (a := (p, q)) h2 (.inr n)
/-- every coefficient that is passed -/
theorem valN {cs : List Cpx} {z : Cpx} {j : Nat} (hj : isN (nth cs j)) (hl : j < cs.length) : ∀ {n : Nat} {v : Cpx}, ValN cs z n v → n < cs.length → cs.length - 1 - n ≤ j → isN v
  | 0, v, h, _, hn => by
    obtain rfl := h
    rw [show cs.length - 1 = j by omega]
    exact hj
  | n + 1, v, ⟨v0, h, g⟩, hc, hn => by
    by_cases e : cs.length - 1 - n ≤ j
    · exact stepN g (.inl (valN hj hl h (by omega) e))
    · refine stepN g (.inr ?_)
      rw [show cs.length - 2 - n = j by omega]
      exact hj
theorem bothN {cs : List Cpx} {z : Cpx} {j : Nat} (hj : isN (nth cs j)) (hl : j < cs.length) {v s : Cpx} (h : BothN cs z (cs.length - 1) v s) : isN v := valN hj hl h.val (by omega) (by omega)
/-- a NaN point, or a NaN coefficient -/
theorem wayN {way : Int} {cs zs : List Cpx} {i : Int} {x : Cpx} (h : WayR way cs zs i x) (n : isN (nth zs i.toNat) ∨ ∃ j, j < cs.length ∧ isN (nth cs j)) : isN x := by
  rcases h with ⟨_, v, s, q, h0, h1, h2⟩ | ⟨_, d, v, q, h0, h1, h2, h3⟩ | ⟨_, v, s, q, a, p, r, t, h0, h1, h2, h3, h4, h5, h6⟩
  · rcases n with n | ⟨j, hj, n⟩
    · exact subN h2 (.inl n)
    · exact subN h2 (.inr (divN h1 (bothN n hj h0)))
  · rcases n with n | ⟨j, hj, n⟩
    · exact subN h3 (.inl n)
    · exact subN h3 (.inr (divN h2 (valN n hj h1 (by omega) (by omega))))
  · rcases n with n | ⟨j, hj, n⟩
    · exact subN h6 (.inl n)
    · exact subN h6 (.inr (divN h5 (divN h1 (bothN n hj h0))))
end Go.Proofs.YtokmommlabdcdaaGreat
