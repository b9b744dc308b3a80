/- The walk of StepNaN, joined. -/
import Derived.Test.YtokmommlabdcdaaGreatMStepNaNWalk
set_option linter.unusedVariables false
set_option linter.unusedSimpArgs false
set_option linter.unusedVariables false
set_option linter.unusedSimpArgs false
namespace Go.Proofs.YtokmommlabdcdaaGreat
open Wd Fl Go.RowKit
theorem cs_len (bs : List Cpx) (n : Nat) (hn : bs.length = n) (v : Value) (w : World) (hv : BitsAt w v bs) (hok : BitsOk bs) : Calls Tryz.prog 25 #[v] w fun e w' => ∃ a cap, e = .returned (.slice a n cap) ∧ Below w.heap.size w w' := by
  subst hn
  refine (cs_any bs v w hv hok).mono ?_
  rintro e w' ⟨u, rfl, ho, hb⟩
  obtain ⟨a, cap, rfl⟩ := own_slice ho
  exact ⟨a, cap, rfl, hb⟩
set_option maxRecDepth 100000 in
set_option maxHeartbeats 4000000 in
theorem stepNaN_bad1 (bs : List Cpx) (v : Value) (ls : List Cpx) (v2 : Value) (i wh way : Int) (w : World) (hv : BitsAt w v bs ∧ BitsOk bs) (hv2 : BitsAt w v2 ls ∧ BitsOk ls) (n m : Nat) (hn : bs.length = n) (hm : ls.length = m) (hc : n < 2) :
    Calls Tryz.prog 8 #[v, v2, .int .i64 i, .int .i64 wh, .int .i64 way] w fun e w' => e = .returned (.bool true) ∧ Below w.heap.size w w' := by
  have HV2 := Lib.hid hv2
  have HV := Lib.hid hv
  have HN := Lib.hid hn
  have HM := Lib.hid hm
  have d1 : decide ((n : Int) < 2) = true := decide_eq_true (by omega)
  clear hv hv2 hn hm hc
  go_enter Tryz.func8, Tryz.ntmps8
  go_wp2_with fail
  refine (StepAwake.awake_any _).mono ?_
  intro e w1 hh
  rcases hh with ⟨rfl, hb⟩
  have B1 := Lib.hid hb
  clear hb
  go_wp2_with fail
  refine (cs_len bs n HN.out v w1 (HV.out.1.below B1.out) HV.out.2).mono ?_
  intro e w2 hh
  rcases hh with ⟨a, cap, rfl, hb⟩
  have B2 := Lib.hid (B1.out.trans (hb.mono B1.out.size))
  clear hb
  go_wp2_with fail
  refine (cs_len ls m HM.out v2 w2 (HV2.out.1.below B2.out) HV2.out.2).mono ?_
  intro e w3 hh
  rcases hh with ⟨a2, cap2, rfl, hb⟩
  have B3 := Lib.hid (B2.out.trans (hb.mono B2.out.size))
  clear hb
  go_wp2_with fail
  go_ret
  exact ⟨rfl, B3.out⟩
set_option maxRecDepth 100000 in
set_option maxHeartbeats 4000000 in
theorem stepNaN_bad2 (bs : List Cpx) (v : Value) (ls : List Cpx) (v2 : Value) (i wh way : Int) (w : World) (hv : BitsAt w v bs ∧ BitsOk bs) (hv2 : BitsAt w v2 ls ∧ BitsOk ls) (n m : Nat) (hn : bs.length = n) (hm : ls.length = m) (hc : ¬ n < 2 ∧ m + 1 ≠ n) :
    Calls Tryz.prog 8 #[v, v2, .int .i64 i, .int .i64 wh, .int .i64 way] w fun e w' => e = .returned (.bool true) ∧ Below w.heap.size w w' := by
  have HV2 := Lib.hid hv2
  have HV := Lib.hid hv
  have HN := Lib.hid hn
  have HM := Lib.hid hm
  have d1 : decide ((n : Int) < 2) = false := decide_eq_false (by omega)
  have w1 : IntKind.i64.wrap ((n : Int) - 1) = ((n - 1 : Nat) : Int) := by have := hv.2.2; rw [show ((n - 1 : Nat) : Int) = (n : Int) - 1 by omega]; exact IntWalk.i64_in _ (by omega)
  have d3 : ¬ (m : Int) = ((n - 1 : Nat) : Int) := by omega
  clear hv hv2 hn hm hc
  go_enter Tryz.func8, Tryz.ntmps8
  go_wp2_with fail
  refine (StepAwake.awake_any _).mono ?_
  intro e w1 hh
  rcases hh with ⟨rfl, hb⟩
  have B1 := Lib.hid hb
  clear hb
  go_wp2_with fail
  refine (cs_len bs n HN.out v w1 (HV.out.1.below B1.out) HV.out.2).mono ?_
  intro e w2 hh
  rcases hh with ⟨a, cap, rfl, hb⟩
  have B2 := Lib.hid (B1.out.trans (hb.mono B1.out.size))
  clear hb
  go_wp2_with fail
  refine (cs_len ls m HM.out v2 w2 (HV2.out.1.below B2.out) HV2.out.2).mono ?_
  intro e w3 hh
  rcases hh with ⟨a2, cap2, rfl, hb⟩
  have B3 := Lib.hid (B2.out.trans (hb.mono B2.out.size))
  clear hb
  go_wp2_with fail
  go_ret
  exact ⟨rfl, B3.out⟩
set_option maxRecDepth 100000 in
set_option maxHeartbeats 4000000 in
theorem stepNaN_bad3 (bs : List Cpx) (v : Value) (ls : List Cpx) (v2 : Value) (i wh way : Int) (w : World) (hv : BitsAt w v bs ∧ BitsOk bs) (hv2 : BitsAt w v2 ls ∧ BitsOk ls) (n m : Nat) (hn : bs.length = n) (hm : ls.length = m) (hc : 65 < n ∧ m + 1 = n) :
    Calls Tryz.prog 8 #[v, v2, .int .i64 i, .int .i64 wh, .int .i64 way] w fun e w' => e = .returned (.bool true) ∧ Below w.heap.size w w' := by
  have HV2 := Lib.hid hv2
  have HV := Lib.hid hv
  have HN := Lib.hid hn
  have HM := Lib.hid hm
  have d1 : decide ((n : Int) < 2) = false := decide_eq_false (by omega)
  have w1 : IntKind.i64.wrap ((n : Int) - 1) = (m : Int) := by have := hv.2.2; rw [show (n : Int) - 1 = (m : Int) by omega]; exact IntWalk.i64_in _ (by omega)
  have d2 : decide (65 < (n : Int)) = true := decide_eq_true (by omega)
  clear hv hv2 hn hm hc
  go_enter Tryz.func8, Tryz.ntmps8
  go_wp2_with fail
  refine (StepAwake.awake_any _).mono ?_
  intro e w1 hh
  rcases hh with ⟨rfl, hb⟩
  have B1 := Lib.hid hb
  clear hb
  go_wp2_with fail
  refine (cs_len bs n HN.out v w1 (HV.out.1.below B1.out) HV.out.2).mono ?_
  intro e w2 hh
  rcases hh with ⟨a, cap, rfl, hb⟩
  have B2 := Lib.hid (B1.out.trans (hb.mono B1.out.size))
  clear hb
  go_wp2_with fail
  refine (cs_len ls m HM.out v2 w2 (HV2.out.1.below B2.out) HV2.out.2).mono ?_
  intro e w3 hh
  rcases hh with ⟨a2, cap2, rfl, hb⟩
  have B3 := Lib.hid (B2.out.trans (hb.mono B2.out.size))
  clear hb
  go_wp2_with fail
  go_ret
  exact ⟨rfl, B3.out⟩
theorem stepNaN_walk (bs : List Cpx) (v : Value) (ls : List Cpx) (v2 : Value) (i wh way : Int) (w : World) (hv : BitsAt w v bs ∧ BitsOk bs) (hv2 : BitsAt w v2 ls ∧ BitsOk ls) :
    Calls Tryz.prog 8 #[v, v2, .int .i64 i, .int .i64 wh, .int .i64 way] w fun e w' => e = .returned (.bool true) ∧ Below w.heap.size w w' := by
  by_cases h2 : bs.length < 2
  · exact stepNaN_bad1 bs v ls v2 i wh way w hv hv2 _ _ rfl rfl h2
  by_cases hl : ls.length + 1 = bs.length
  · by_cases h65 : 65 < bs.length
    · exact stepNaN_bad3 bs v ls v2 i wh way w hv hv2 _ _ rfl rfl ⟨h65, hl⟩
    cases hb1 : (bits .and .i64 wh 1 == 1)
    · cases hb2 : (bits .and .i64 wh 2 == 2)
      · exact stepNaN_c0 bs v ls v2 i wh way w hv hv2 (by omega) (by omega) hl hb1 hb2
      · exact stepNaN_z0 bs v ls v2 i wh way w hv hv2 (by omega) (by omega) hl hb1 hb2
    · cases hb2 : (bits .and .i64 wh 2 == 2)
      · exact stepNaN_c1 bs v ls v2 i wh way w hv hv2 (by omega) (by omega) hl hb1 hb2
      · exact stepNaN_z1 bs v ls v2 i wh way w hv hv2 (by omega) (by omega) hl hb1 hb2
  · exact stepNaN_bad2 bs v ls v2 i wh way w hv hv2 _ _ rfl rfl ⟨h2, hl⟩
end Go.Proofs.YtokmommlabdcdaaGreat
