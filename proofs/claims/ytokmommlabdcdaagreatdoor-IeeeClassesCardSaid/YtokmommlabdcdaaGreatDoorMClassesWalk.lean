/- The walk of surdlaw2.IeeeClasses: for any word it answers true, where the library's two tables are as they were laid. -/
import Derived.Test.YtokmommlabdcdaaGreatDoorMBDy
import Derived.Test.YtokmommlabdcdaaGreatDoorMBig11
import Derived.Test.YtokmommlabdcdaaGreatDoorMDBase
import Derived.Test.YtokmommlabdcdaaGreatDoorMDAwake
import Derived.Deep.RegionHeld3
set_option linter.unusedVariables false
set_option linter.unusedSimpArgs false
set_option linter.unusedVariables false
set_option linter.unusedSimpArgs false
namespace Go.Proofs.YtokmommlabdcdaaGreatDoor
open Wd Fl Go.RowKit
theorem fw_any (a : Nat) (w : World) : Calls Tryz.prog 5 #[.int .u64 (a : Int)] w fun e w' => e = .returned (.float .f64 a) ∧ w = w' := by
  have := f_any (a : Int) w
  rwa [Int.toNat_natCast] at this
set_option maxRecDepth 100000 in
set_option maxHeartbeats 4000000 in
theorem ieeeClasses_walk (x : Nat) (hx : x < 2 ^ 64) (w : World) (hT : Tabs w) :
    Calls Tryz.prog 4 #[.int .u64 x] w fun e w' => e = .returned (.bool true) ∧ Below w.heap.size w w' := by
  have HX := Lib.hid hx
  have TB := Lib.hid hT
  clear hx hT
  go_enter Tryz.func4, Tryz.ntmps4
  go_wp2_with fail
  refine (DAwake.awake_any _ TB.out.cell).mono ?_
  rintro e w1 ⟨rfl, hb⟩
  have B1 := Lib.hid hb; clear hb
  go_wp2_with fail
  refine (fw_any x _).mono ?_
  rintro e w' ⟨rfl, rfl⟩
  have IE := Lib.hid (fun W h => iexact_any x HX.out W h)
  have RE := Lib.hid (fun W => rexact_any x HX.out W)
  have IC := Lib.hid (fun W => class_any x HX.out W)
  have RC := Lib.hid (fun W => rclass_any x HX.out W)
  have IN := Lib.hid (fun W => next_any x HX.out W)
  have RN := Lib.hid (fun W => rnext_any x HX.out W)
  have IP := Lib.hid (fun W => prev_any x HX.out W)
  have RP := Lib.hid (fun W => rprev_any x HX.out W)
  have IU := Lib.hid (fun W => ulp_any x HX.out W)
  have RU := Lib.hid (fun W => rulp_any x HX.out W)
  have NXL : Hid (sameB (nxt x) (nxt x) = true) := Lib.hid (sameB_self _)
  have PXL : Hid (sameB (prv x) (prv x) = true) := Lib.hid (sameB_self _)
  go_wp2_with fail
  go_loopw [4] (fun si wr => ∃ k : Nat, k ≤ 2 ∧ si = .int .i64 (k : Int) ∧ Below w.heap.size w wr) (fun si _ => 3 - (intOf si).toNat)
  case atStart => exact ⟨0, by omega, rfl, B1.out⟩
  case round =>
    obtain ⟨k, hk, rfl, hb⟩ := hrel
    have B2 := Lib.hid hb
    clear hb
    by_cases hk2 : k < 2
    · have f1 : decide ((k : Int) < 2) = true := decide_eq_true (by omega)
      have HK := Lib.hid hk2
      clear hk hk2
      go_wp2_with fail
      refine (IE.out wr (TB.out.below B2.out)).mono ?_
      rintro e w2 ⟨s1, e1, c1, S1, rfl, hb⟩
      have B3 := Lib.hid (B2.out.trans (hb.mono B2.out.size))
      have ES1 := Lib.hid S1
      clear S1 hb
      go_wp2_with fail
      refine (RE.out _).mono ?_
      rintro e w3 ⟨s2, e2, c2, S2, rfl, hb⟩
      obtain ⟨rfl, rfl, rfl⟩ := ExS.unique ES1.out S2
      clear S2
      have HR3 : Hid (w3.heap[w2.heap.size]? = some (.cells #[.string s1, .int .i64 e1] 26 (0, 0))) := Lib.hid ((hb.block w2.heap.size (by simp)).trans (heap_alloc_new w2 _))
      have B4 := Lib.hid ((B3.out.alloc B3.out.size _).trans (hb.mono (B3.out.alloc B3.out.size _).size))
      have L3 : Hid (w2.heap.size < w3.heap.size) := Lib.hid (by have := hb.size; simp at this; omega)
      have C0 : (w3.alloc (.cells #[.string s1, .int .i64 e1] 26)).cell? ⟨w2.heap.size, 0, none⟩ = some (.string s1) := ((bnew w3 _).cell (p := ⟨w2.heap.size, 0, none⟩) L3.out).trans (by rw [cell_of_row _ _ _ _ _ _ HR3.out]; rfl)
      have C1 : (w3.alloc (.cells #[.string s1, .int .i64 e1] 26)).cell? ⟨w2.heap.size, 1, none⟩ = some (.int .i64 e1) := ((bnew w3 _).cell (p := ⟨w2.heap.size, 1, none⟩) L3.out).trans (by rw [cell_of_row _ _ _ _ _ _ HR3.out]; rfl)
      clear hb
      have B5 := Lib.hid (B4.out.alloc B4.out.size (.cells #[.string s1, .int .i64 e1] 26))
      go_wp2_with fail
      refine (num_any c1 _).mono ?_
      rintro e w' ⟨rfl, rfl⟩
      go_wp2_with fail
      refine (IC.out _).mono ?_
      rintro e w' ⟨rfl, rfl⟩
      go_wp2_with fail
      refine (RC.out _).mono ?_
      rintro e w' ⟨rfl, rfl⟩
      go_wp2_with fail
      refine (IN.out _).mono ?_
      rintro e w' ⟨rfl, rfl⟩
      go_wp2_with fail
      refine (RN.out _).mono ?_
      rintro e w5 ⟨rfl, hb⟩
      have B6 := Lib.hid (B5.out.trans (hb.mono B5.out.size))
      clear hb C0 C1
      go_wp2_with fail
      refine (sameF_any _ _ _).mono ?_
      rintro e w' ⟨rfl, rfl⟩
      rw [NXL.out]
      go_wp2_with fail
      refine (IP.out _).mono ?_
      rintro e w' ⟨rfl, rfl⟩
      go_wp2_with fail
      refine (RP.out _).mono ?_
      rintro e w6 ⟨rfl, hb⟩
      have B7 := Lib.hid (B6.out.trans (hb.mono B6.out.size))
      clear hb
      go_wp2_with fail
      refine (sameF_any _ _ _).mono ?_
      rintro e w' ⟨rfl, rfl⟩
      rw [PXL.out]
      go_wp2_with fail
      refine (IU.out _).mono ?_
      rintro e w' ⟨rfl, rfl⟩
      go_wp2_with fail
      refine (RU.out _).mono ?_
      rintro e w7 ⟨g, rfl, hg, hb⟩
      have B8 := Lib.hid (B7.out.trans (hb.mono B7.out.size))
      have HG := Lib.hid hg
      clear hb hg
      go_wp2_with fail
      refine (sameF_any _ _ _).mono ?_
      rintro e w' ⟨rfl, rfl⟩
      rw [HG.out]
      have W1 : Hid (RowKit.wrap64 ((k : Int) + 1) = ((k + 1 : Nat) : Int)) := Lib.hid (wrapS1 (by have := HK.out; omega))
      go_wp2_with fail
      go_roundw
      case rel => (try rw [W1.out]); exact ⟨k + 1, by have := HK.out; omega, by first | rfl | (rw [Int.natCast_add]; rfl), B8.out⟩
      case measure => (try rw [W1.out]); have := HK.out; simp only [intOf]; omega
    · have f1 : decide ((k : Int) < 2) = false := decide_eq_false (by omega)
      clear hk hk2
      go_wp2_with fail
      go_ret
      exact ⟨rfl, B2.out⟩
end Go.Proofs.YtokmommlabdcdaaGreatDoor
