/- How arguments of the laws' types are opened: structs of two words, integers. -/
import Derived.ProofKit
import Derived.OpenShut
import Derived.Lib.SmallJoins
set_option linter.unusedVariables false
set_option linter.unusedSimpArgs false
namespace Fl
open Go Go.ChangeShapes Go.WideShapes Go.RowKit Go.Joins Go.Deep
section
variable {H : Type} {enc : TypeId × Value → H} {P : Program} {w : World} {base : Nat} {spare : Nat → Bool} {held : Bool}

theorem u64_nat {n : Int} (h : (Lit.int .u64 n).wf = true) : ∃ m : Nat, n = m ∧ m < 2 ^ 64 := by
  simp only [Lit.wf, IntKind.min, IntKind.max, IntKind.signed, IntKind.bits, Bool.and_eq_true] at h
  exact ⟨n.toNat, by simp at h; omega, by simp at h; omega⟩
theorem int_bounds {n : Int} (h : (Lit.int .i64 n).wf = true) : -9223372036854775808 ≤ n ∧ n < 9223372036854775808 := by
  simp only [Lit.wf, IntKind.min, IntKind.max, IntKind.signed, IntKind.bits, Bool.and_eq_true, decide_eq_true_eq] at h
  simp at h; omega

theorem open_bits {r : Reach} {b0 : Nat} {t u : TypeId} {f0 f1 : Field} {v : Value} {d : DataW H} {p : List MemPlace} (hs : P.underlying t = some (.struct #[f0, f1])) (hu : P.underlying u = some (.int .u64))
    (hone : oneCellFields P #[f0, f1] = true) (hC : P.cellsOf t = 2)
    (hv : Value.okWide P w r b0 t v) (h : DataW.Trod enc P w base spare held t v d p) (h0 : f0.type = u := by rfl) (h1 : f1.type = u := by rfl) :
    ∃ a b : Nat, v = .agg #[.int .u64 a, .int .u64 b] ∧ a < 2 ^ 64 ∧ b < 2 ^ 64 := by
  obtain ⟨c0, c1, y0, y1, m, rfl, _, _, hy0, hy1⟩ := open_agg2 hs hone hC hv h
  rw [h0] at hy0
  rw [h1] at hy1
  obtain ⟨a, e0, _, wa⟩ := DataW.trod_int hu hy0
  obtain ⟨b, e1, _, wb⟩ := DataW.trod_int hu hy1
  simp at e0 e1
  subst e0 e1
  obtain ⟨a, rfl, ha⟩ := u64_nat wa
  obtain ⟨b, rfl, hb⟩ := u64_nat wb
  exact ⟨a, b, rfl, ha, hb⟩
end
end Fl
