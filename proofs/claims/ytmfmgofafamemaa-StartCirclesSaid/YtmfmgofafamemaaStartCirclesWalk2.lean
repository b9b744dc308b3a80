/- The walk of StartCircles, for all counts and scales. -/
import Derived.Test.YtmfmgofafamemaaStartCirclesWalk
namespace Go.Proofs.Ytmfmgofafamemaa
open Fl Go.RowKit
theorem startCircles_walk (c k : Int) (_ : -9223372036854775808 ≤ c) (_ : c < 9223372036854775808) (_ : -9223372036854775808 ≤ k) (_ : k < 9223372036854775808) (w : World) :
    Calls Try.prog 3 #[.int .i64 c, .int .i64 k] w fun e w' => e = .returned (.bool true) ∧ Below w.heap.size w w' := StartCircles.walk c k w
end Go.Proofs.Ytmfmgofafamemaa
