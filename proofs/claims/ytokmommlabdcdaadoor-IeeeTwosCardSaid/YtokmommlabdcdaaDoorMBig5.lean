/- Contract of surdbig.product where the shorter list has fewer than 48 words. -/
import Derived.Test.YtokmommlabdcdaaDoorMBig3
import Derived.Laws.OwnMore
set_option linter.unusedVariables false
set_option linter.unusedSimpArgs false
set_option linter.unusedVariables false
set_option linter.unusedSimpArgs false
namespace Go.Proofs.YtokmommlabdcdaaDoor
open Wd Fl Go.RowKit
theorem made_words (n : Nat) : (madeCells #[.int .u32 0] n).toList = (List.replicate n 0).map wv := by
  rw [toList_madeCells_one, List.map_replicate]; rfl
/-- the two lists by their lengths -/
theorem longer (la lb : List Nat) : (¬ (la.length : Int) < (lb.length : Int) ∧ lb.length ≤ la.length) ∨ ((la.length : Int) < (lb.length : Int) ∧ la.length ≤ lb.length) := by omega
end Go.Proofs.YtokmommlabdcdaaDoor
