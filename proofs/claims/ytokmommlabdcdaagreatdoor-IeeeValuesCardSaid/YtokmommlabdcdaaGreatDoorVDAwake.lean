/- surdlaw2.awake answers true, where the library's table of trailing zeros is what it was laid as. -/
import Derived.Test.YtokmommlabdcdaaGreatDoorVDBase
import Derived.WalkSpells
import Derived.Laws.ResultCell
import Derived.Lib.SmallJoins
set_option linter.unusedVariables false
set_option linter.unusedSimpArgs false
namespace Go.Proofs.YtokmommlabdcdaaGreatDoor
open Fl Go.RowKit Go.Joins
namespace DAwake
theorem size_c (w : World) : Calls Tryz.prog 32 #[.float .f64 13841813454723219456] w fun e w' => e = .returned (.int .u64 4618441417868443648) ∧ w = w' := by
  refine (size_any _ (by decide) w).mono ?_
  rintro e w' ⟨rfl, rfl⟩
  exact ⟨rfl, rfl⟩
theorem parts_c (w : World) : Calls Tryz.prog 33 #[.float .f64 13841813454723219456] w fun e w' => e = .returned (.tuple #[.int .u64 6755399441055744, .int .i64 (-50)]) ∧ w = w' := by
  go_enter Tryz.func33, Tryz.ntmps33
  go_wp2_with (go_at_call 32; refine (size_c _).mono ?_; rintro e w' ⟨rfl, rfl⟩)
  go_ret2
  exact ⟨rfl, rfl⟩
/-- the one cell of the library's table that this call reads -/
def Cell (w : World) : Prop := w.cell? ⟨1, 22, none⟩ = some (.int .u8 51)
theorem tz_c (w : World) (h : Cell w) : Calls Tryz.prog 34 #[.int .u64 6755399441055744] w fun e w' => e = .returned (.int .i64 51) ∧ w = w' := by
  unfold Cell at h
  have e1 : bits .and .u64 6755399441055744 (IntKind.u64.wrap (-6755399441055744)) = 2251799813685248 := by decide +kernel
  have e2 : IntKind.u64.wrap (2251799813685248 * 285870213051353865) = 6361334473660825600 := by decide +kernel
  have e3 : IntKind.u64.wrap 643722492487200784356841378283520 = 6361334473660825600 := by decide +kernel
  go_enter Tryz.func34, Tryz.ntmps34
  go_wp2
  go_ret
  exact ⟨rfl, rfl⟩
theorem small_c (w : World) : Calls Tryz.prog 93 #[.int .i64 3] w fun e w' => e = .returned (.string ⟨#[51]⟩) ∧ w = w' := by
  go_enter Tryz.func93, Tryz.ntmps93
  go_wp2
  go_ret
  exact ⟨rfl, rfl⟩
theorem fmt_c (w : World) : Calls Tryz.prog 35 #[.int .u64 3, .int .i64 10] w fun e w' => e = .returned (.string ⟨#[51]⟩) ∧ w = w' := by
  go_enter Tryz.func35, Tryz.ntmps35
  go_wp2_with fail
  go_enter Tryz.func70, Tryz.ntmps70
  go_wp2_with fail
  refine (small_c _).mono ?_
  rintro e w' ⟨rfl, rfl⟩
  go_wp2_with fail
  go_ret
  exact ⟨rfl, rfl⟩
theorem exact_c (w : World) (h : Cell w) : Calls Tryz.prog 6 #[.float .f64 13841813454723219456] w fun e w' => e = .returned (.tuple #[.agg #[.string ⟨#[45, 51]⟩, .int .i64 1], .int .i64 0]) ∧ Below w.heap.size w w' := by
  have h2 := f64bits_run
  go_enter Tryz.func6, Tryz.ntmps6
  go_wp2_with fail
  refine (size_c _).mono ?_
  rintro e w' ⟨rfl, rfl⟩
  go_wp2_with fail
  refine (parts_c _).mono ?_
  rintro e w' ⟨rfl, rfl⟩
  go_wp2_with fail
  refine (tz_c _ (cell_later (below_alloc w _) h)).mono ?_
  rintro e w' ⟨rfl, rfl⟩
  go_wp2_with fail
  refine (fmt_c _).mono ?_
  rintro e w' ⟨rfl, rfl⟩
  go_wp2_with fail
  refine bodyPost_ret (v := .tuple #[.agg #[.string ⟨#[45, 51]⟩, .int .i64 1], .int .i64 0]) ?_ rfl ⟨rfl, below_alloc w _⟩
  rw [results_cell_tmp rfl]
  go_simp
  rfl
theorem awake_any (w : World) (h : Cell w) : Calls Tryz.prog 9 #[] w fun e w' => e = .returned (.bool true) ∧ Below w.heap.size w w' := by
  go_enter Tryz.func9, Tryz.ntmps9
  go_wp2_with fail
  refine (exact_c _ h).mono ?_
  rintro e w1 ⟨rfl, hb⟩
  have HB := Lib.hid hb; clear hb
  go_wp2_with fail
  refine (same_any _ _ (by decide) (by decide) _).mono ?_
  rintro e w' ⟨rfl, rfl⟩
  rw [show sameB 4607182418800017408 4607182418800017408 = true by decide +kernel]
  go_wp2_with fail
  refine (same_any _ _ (by decide) (by decide) _).mono ?_
  rintro e w' ⟨rfl, rfl⟩
  rw [show sameB 4607182418800017408 4611686018427387904 = false by decide +kernel]
  go_wp2_with fail
  refine (order_any _ _ (by decide) (by decide) _).mono ?_
  rintro e w' ⟨rfl, rfl⟩
  rw [show ordI 4607182418800017408 4611686018427387904 = -1 by decide +kernel]
  go_wp2_with fail
  refine (next_any _ (by decide) _).mono ?_
  rintro e w' ⟨rfl, rfl⟩
  rw [show nxt 4607182418800017408 = 4607182418800017409 by decide +kernel]
  go_wp2_with fail
  refine (sameF_any _ _ _).mono ?_
  rintro e w' ⟨rfl, rfl⟩
  rw [show sameB 4607182418800017409 4607182418800017409 = true by decide +kernel]
  go_wp2_with fail
  refine (prev_any _ (by decide) _).mono ?_
  rintro e w' ⟨rfl, rfl⟩
  rw [show prv 4607182418800017408 = 4607182418800017407 by decide +kernel]
  go_wp2_with fail
  refine (sameF_any _ _ _).mono ?_
  rintro e w' ⟨rfl, rfl⟩
  rw [show sameB 4607182418800017407 4607182418800017407 = true by decide +kernel]
  go_wp2_with fail
  refine (min_any _ _ (by decide) (by decide) _).mono ?_
  rintro e w' ⟨rfl, rfl⟩
  rw [show fmin 4607182418800017408 4611686018427387904 = 4607182418800017408 by decide +kernel]
  go_wp2_with fail
  refine (sameF_any _ _ _).mono ?_
  rintro e w' ⟨rfl, rfl⟩
  rw [show sameB 4607182418800017408 4607182418800017408 = true by decide +kernel]
  go_wp2_with fail
  refine (max_any _ _ (by decide) (by decide) _).mono ?_
  rintro e w' ⟨rfl, rfl⟩
  rw [show fmax 4607182418800017408 4611686018427387904 = 4611686018427387904 by decide +kernel]
  go_wp2_with fail
  refine (sameF_any _ _ _).mono ?_
  rintro e w' ⟨rfl, rfl⟩
  rw [show sameB 4611686018427387904 4611686018427387904 = true by decide +kernel]
  go_wp2_with fail
  refine (ulp_any _ (by decide) _).mono ?_
  rintro e w' ⟨rfl, rfl⟩
  rw [show ulpW 4607182418800017408 = 4372995238176751616 by decide +kernel]
  go_wp2_with fail
  refine (sameF_any _ _ _).mono ?_
  rintro e w' ⟨rfl, rfl⟩
  rw [show sameB 4372995238176751616 4372995238176751616 = true by decide +kernel]
  go_wp2_with fail
  refine (class_any _ (by decide) _).mono ?_
  rintro e w' ⟨rfl, rfl⟩
  rw [show clsF 4607182418800017408 = 5 by decide +kernel]
  go_wp2_with fail
  refine (num_any _ _).mono ?_
  rintro e w' ⟨rfl, rfl⟩
  go_wp2_with fail
  go_ret
  exact ⟨rfl, HB.out.alloc HB.out.size _⟩
end DAwake
end Go.Proofs.YtokmommlabdcdaaGreatDoor
