/- What memory a complex number takes. -/
import Derived.Test.YtokmommlabdcdaaSCpx
import Derived.Test.YtokmommlabdcdaaSFlArgs2
import Derived.Deep.RegionHeld3
import Derived.Deep.AppendLies
import Derived.OwnWalk
import Derived.Deep.DeepMust
set_option linter.unusedVariables false
set_option linter.unusedSimpArgs false
namespace Go.Proofs.Ytokmommlabdcdaa
open Fl Go.RowKit

theorem infoC : (Try.prog.info? 38).map (fun i => (i.zero, i.size, i.bytes)) = some (some (.complex .f64 0 0), 1, 16) := by kernel_rfl
end Go.Proofs.Ytokmommlabdcdaa
