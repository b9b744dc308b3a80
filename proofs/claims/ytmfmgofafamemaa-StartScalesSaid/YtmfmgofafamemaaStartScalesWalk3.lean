/- The walk of StartScales, for all counts and scales. -/
import Derived.Test.YtmfmgofafamemaaStartScalesWalk2
namespace Go.Proofs.Ytmfmgofafamemaa
open Fl Go.RowKit
theorem startScales_walk (c k : Int) (_ : -9223372036854775808 ≤ c) (_ : c < 9223372036854775808) (_ : -9223372036854775808 ≤ k) (_ : k < 9223372036854775808) (w : World) :
    Calls Try.prog 4 #[.int .i64 c, .int .i64 k] w fun e w' => e = .returned (.bool true) ∧ Below w.heap.size w w' := by
  by_cases h : c < 1 ∨ 64 < c
  · exact StartScales.many c k w h
  · obtain ⟨n, rfl⟩ : ∃ n : Nat, c = n := ⟨c.toNat, by omega⟩
    by_cases h2 : k < -1000 ∨ 1000 < k
    · exact StartScales.noScale n k w (by omega) (by omega) h2
    · exact StartScales.main n k w (by omega) (by omega) (by omega) (by omega)
end Go.Proofs.Ytmfmgofafamemaa
