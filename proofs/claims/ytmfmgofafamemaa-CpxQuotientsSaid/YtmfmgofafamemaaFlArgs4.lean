/- An argument of four 64-bit words in an array, opened. -/
import Derived.Test.YtmfmgofafamemaaFlArgs
namespace Fl
open Go Go.ChangeShapes Go.WideShapes Go.RowKit Go.Joins Go.Deep
section
variable {H : Type} {enc : TypeId × Value → H} {P : Program} {w : World} {base : Nat} {spare : Nat → Bool} {held : Bool}
theorem open_arr4 {r : Reach} {b0 : Nat} {t u : TypeId} {v : Value} {d : DataW H} {p : List MemPlace} (ht : P.underlying t = some (.array 4 u)) (hu : P.underlying u = some (.int .u64))
    (hC : P.cellsOf t = 4) (hE : P.cellsOf u = 1) (hv : Value.okWide P w r b0 t v) (h : DataW.Trod enc P w base spare held t v d p) :
    ∃ a b c e : Nat, v = .agg #[.int .u64 (a : Int), .int .u64 (b : Int), .int .u64 (c : Int), .int .u64 (e : Int)] ∧ a < 2 ^ 64 ∧ b < 2 ^ 64 ∧ c < 2 ^ 64 ∧ e < 2 ^ 64 := by
  simp only [Value.okWide, ht] at hv
  obtain ⟨cs, rfl, hs, _⟩ := hv
  obtain ⟨c0, c1, c2, c3, rfl⟩ := array4 (hs.trans hC)
  obtain ⟨fuel, hf⟩ := h
  obtain ⟨xs, m, _, _, _, hl, hi⟩ := DataW.trod_array ht hf
  match xs, hl with
  | [y0, y1, y2, y3], _ =>
    have g0 := hi 0 (by decide)
    have g1 := hi 1 (by decide)
    have g2 := hi 2 (by decide)
    have g3 := hi 3 (by decide)
    simp [hE, Value.cells] at g0 g1 g2 g3
    obtain ⟨n0, e0, _, w0⟩ := DataW.trod_int hu g0
    obtain ⟨n1, e1, _, w1⟩ := DataW.trod_int hu g1
    obtain ⟨n2, e2, _, w2⟩ := DataW.trod_int hu g2
    obtain ⟨n3, e3, _, w3⟩ := DataW.trod_int hu g3
    simp at e0 e1 e2 e3
    subst e0 e1 e2 e3
    obtain ⟨n0, rfl, h0⟩ := u64_nat w0
    obtain ⟨n1, rfl, h1⟩ := u64_nat w1
    obtain ⟨n2, rfl, h2⟩ := u64_nat w2
    obtain ⟨n3, rfl, h3⟩ := u64_nat w3
    exact ⟨n0, n1, n2, n3, rfl, h0, h1, h2, h3⟩
end
end Fl
