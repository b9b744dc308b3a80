/- The two tables that FormatUint and TrailingZeros64 read, out of the rows' listed tables. -/
import Derived.Test.YtokmommlabdcdaaGreatDoorVDLaid
import Derived.Test.YtokmommlabdcdaaGreatDoorVFmt
set_option linter.unusedVariables false
set_option linter.unusedSimpArgs false
namespace Go.Proofs.YtokmommlabdcdaaGreatDoor
open Go.ChangeShapes Go.WideShapes Go.ChangeAt Go.RowKit
theorem tab64_same : ∀ j, j < 64 → tab64.getD j 0 = ((Lib.deBruijn64tab.getD j 0 : Nat) : Int) := by decide +kernel
theorem tabs_of_laid {W : World} (h : laidMetH Tryz.prog laid3 W) : Tabs W := by
  rw [MakeChecks.laidMetH_plain _ _ _ (by kernel_rfl)] at h
  have h2 : laidMet Tryz.prog (("math/bits.deBruijn64tab", Lib.tabData .u8 tab64) :: [("internal/strconv.uint64pow10", Rows.laid_internal_strconv_uint64pow10)]) W := h.tail
  have t := Lib.tabIs_of_head (P := Tryz.prog) (g := 1) (t := 83) (e := 5) (n := 64) (by kernel_rfl) (by kernel_rfl) Tryz.underlying83 Tryz.underlying5 (by kernel_rfl) (by kernel_rfl) h2
  have h3 : laidMet Tryz.prog (("internal/strconv.uint64pow10", Lib.tabData .u64 Lib.pow10Tab) :: []) W := h2.tail
  have t3 := Lib.tabIs_of_head (P := Tryz.prog) (g := 2) (t := 109) (e := 22) (n := 20) (by kernel_rfl) (by kernel_rfl) Tryz.underlying109 Tryz.underlying22 (by kernel_rfl) (by kernel_rfl) h3
  refine ⟨fun j hj => ?_, t3⟩
  rw [← tab64_same j hj]
  exact t.cell (g := 1) (by kernel_rfl) j (by simpa [tab64] using hj)
end Go.Proofs.YtokmommlabdcdaaGreatDoor
