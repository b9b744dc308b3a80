/- The walk of IeeeTwos: of any two words the law answers true, where the library's table of trailing zeros is as it was laid. -/
import Derived.Test.YtokmommlabdcdaaDoorMDAwake
import Derived.Test.YtokmommlabdcdaaDoorMBig11
set_option linter.unusedVariables false
set_option linter.unusedSimpArgs false
set_option linter.unusedVariables false
set_option linter.unusedSimpArgs false
namespace Go.Proofs.YtokmommlabdcdaaDoor
open Wd Fl Go.RowKit Go.Joins
@[go_sem] theorem run_store_floatT {P : Program} (w : World) (ad : Addr) (m : Mode) (k : FloatKind) (a : Nat) : (store ad (.float k a) m).run P w = stored P w ad (.float k a) m := run_store P w ad _ m rfl
theorem fnT_any (a : Nat) (w : World) :
    Calls Tryd.prog 5 #[.int .u64 (a : Int)] w fun e w' => e = .returned (.float .f64 a) ∧ w = w' := f_any a w
theorem sameB_refl (x : Nat) : sameB x x = true := sameB_true (.refl x)
/-- two floats in one block -/
def Two (a b g : Nat) (wr : World) : Prop := wr.cell? ⟨g, 0, none⟩ = some (.float .f64 a) ∧ wr.cell? ⟨g, 1, none⟩ = some (.float .f64 b)
theorem Two.at {a b g i : Nat} {wr : World} (h : Two a b g wr) (hi : i < 2) (ha : a < 2 ^ 64) (hb : b < 2 ^ 64) : ∃ x, wr.cell? ⟨g, i, none⟩ = some (.float .f64 x) ∧ x < 2 ^ 64 := by
  match i, hi with
  | 0, _ => exact ⟨a, h.1, ha⟩
  | 1, _ => exact ⟨b, h.2, hb⟩
theorem Two.below {a b g : Nat} {wr w' : World} (h : Two a b g wr) (hb : Below wr.heap.size wr w') : Two a b g w' := by
  have hl : g < wr.heap.size := World.block_lt_of_cell? wr _ h.1
  exact ⟨(hb.cell (p := ⟨g, 0, none⟩) hl).trans h.1, (hb.cell (p := ⟨g, 1, none⟩) hl).trans h.2⟩
theorem Two.start (a b : Nat) (w : World) (t : TypeId) : Two a b w.heap.size (w.alloc (.cells #[.float .f64 a, .float .f64 b] t)) := by
  have h := heap_alloc_new w (.cells #[.float .f64 a, .float .f64 b] t)
  exact ⟨by rw [cell_of_row _ _ _ _ _ _ h]; rfl, by rw [cell_of_row _ _ _ _ _ _ h]; rfl⟩
set_option maxRecDepth 100000 in
set_option maxHeartbeats 8000000 in
theorem ieeeTwos_walk (a b : Nat) (ha : a < 2 ^ 64) (hb : b < 2 ^ 64) (w : World) (HW : DAwake.Cell w) :
    Calls Tryd.prog 3 #[.int .u64 a, .int .u64 b] w fun e w' => e = .returned (.bool true) ∧ Below w.heap.size w w' := by
  have LA := Lib.hid ha
  have LB := Lib.hid hb
  have AW := Lib.hid (DAwake.awake_any w HW)
  clear ha hb HW
  go_enter Tryd.func3, Tryd.ntmps3
  go_wp2_with fail
  refine AW.out.mono ?_
  rintro e w1 ⟨rfl, hb⟩
  have B1 := Lib.hid hb
  clear hb AW
  go_wp2_with fail
  refine (fnT_any a _).mono ?_
  rintro e w' ⟨rfl, rfl⟩
  go_wp2_with fail
  refine (fnT_any b _).mono ?_
  rintro e w' ⟨rfl, rfl⟩
  go_wp2_with fail
  go_loopw [6] (fun si wr => ∃ i : Nat, i ≤ 2 ∧ si = .int .i64 i ∧ Two a b w1.heap.size wr ∧ Below w.heap.size w wr) (fun si _ => 2 - (intOf si).toNat)
  case atStart => exact ⟨0, by omega, rfl, Two.start a b w1 _, ibal B1.out⟩
  case round =>
    obtain ⟨i, hi, rfl, htwo, hbr⟩ := hrel
    have TW1 := Lib.hid htwo
    have BR := Lib.hid hbr
    clear htwo hbr
    by_cases hlt : i < 2
    · have hlt' : (i : Int) < 2 := by omega
      go_wp2_with fail
      go_loopw [7] (fun sk wk => ∃ k : Nat, k ≤ 2 ∧ sk = .int .i64 k ∧ Two a b w1.heap.size wk ∧ Below w.heap.size w wk) (fun sk _ => 2 - (intOf sk).toNat)
      case atStart => exact ⟨0, by omega, rfl, TW1.out, BR.out⟩
      case round =>
        obtain ⟨k, hk, rfl, htwo, hbk⟩ := hrel
        have TWk := Lib.hid htwo
        have BK := Lib.hid hbk
        clear htwo hbk
        by_cases hlk : k < 2
        · have hlk' : (k : Int) < 2 := by omega
          obtain ⟨x, cx, hx⟩ := TWk.out.at hlt LA.out LB.out
          obtain ⟨y, cy, hy⟩ := TWk.out.at hlk LA.out LB.out
          have HX := Lib.hid hx
          have HY := Lib.hid hy
          clear hx hy
          go_wp2_with fail
          refine (same_any x y HX.out HY.out wr).mono ?_
          rintro e w' ⟨rfl, rfl⟩
          go_wp2_with fail
          refine (rsame_any x y HX.out HY.out wr).mono ?_
          rintro e w' ⟨rfl, rfl⟩
          generalize sameB x y = sm at *
          go_wp2_with fail
          refine (order_any x y HX.out HY.out wr).mono ?_
          rintro e w' ⟨rfl, rfl⟩
          go_wp2_with fail
          refine (rorder_any x y HX.out HY.out wr).mono ?_
          rintro e v1 ⟨rfl, hb⟩
          have C1 := Lib.hid (BK.out.trans (hb.mono BK.out.size))
          have T1 := Lib.hid (TWk.out.below hb)
          clear hb
          generalize ordI x y = o at *
          go_wp2_with fail
          refine (min_any x y HX.out HY.out v1).mono ?_
          rintro e w' ⟨rfl, rfl⟩
          go_wp2_with fail
          refine (rmin_any x y HX.out HY.out v1).mono ?_
          intro e v2 h2
          rcases h2 with ⟨g2, rfl, hs2, hb⟩
          have S2 := Lib.hid hs2
          have C2 := Lib.hid (C1.out.trans (hb.mono C1.out.size))
          have T2 := Lib.hid (T1.out.below hb)
          clear hb hs2
          generalize fmin x y = f2 at *
          go_wp2_with fail
          refine (sameF_any f2 g2 v2).mono ?_
          rintro e w' ⟨rfl, rfl⟩
          rw [S2.out]
          go_wp2_with fail
          refine (max_any x y HX.out HY.out v2).mono ?_
          rintro e w' ⟨rfl, rfl⟩
          go_wp2_with fail
          refine (rmax_any x y HX.out HY.out v2).mono ?_
          intro e v3 h3
          rcases h3 with ⟨g3, rfl, hs3, hb⟩
          have S3 := Lib.hid hs3
          have C3 := Lib.hid (C2.out.trans (hb.mono C2.out.size))
          have T3 := Lib.hid (T2.out.below hb)
          clear hb hs3
          generalize fmax x y = f3 at *
          go_wp2_with fail
          refine (sameF_any f3 g3 v3).mono ?_
          rintro e w' ⟨rfl, rfl⟩
          rw [S3.out]
          go_wp2_with fail
          go_roundw
          case rel => exact ⟨k + 1, by omega, by go_num, T3.out, C3.out⟩
          case measure => simp [intOf]; omega
        · obtain rfl : k = 2 := by omega
          go_wp2_with fail
          go_roundw
          case rel => exact ⟨i + 1, by omega, by go_num, TWk.out, BK.out⟩
          case measure => simp [intOf]; omega
    · obtain rfl : i = 2 := by omega
      go_wp2_with fail
      go_ret
      exact ⟨rfl, BR.out⟩
end Go.Proofs.YtokmommlabdcdaaDoor
