/- The walk of CpxDivs: of any two complex numbers the law answers true. (Printed by wip/gen44.py.) -/
import Derived.Test.YtokmommlabdcdaaGreatMBig39
import Derived.Test.YtokmommlabdcdaaGreatMSum
import Derived.Test.YtokmommlabdcdaaGreatMFlRel
import Derived.Test.YtokmommlabdcdaaGreatMCpxRingsWalk
set_option linter.unusedVariables false
set_option linter.unusedSimpArgs false
set_option linter.unusedVariables false
set_option linter.unusedSimpArgs false
namespace Go.Proofs.YtokmommlabdcdaaGreat
open Wd Fl Go.RowKit
set_option maxRecDepth 100000 in
set_option maxHeartbeats 4000000 in
theorem cpxDivs_walk (a b c d : Nat) (ha : a < 2 ^ 64) (hb : b < 2 ^ 64) (hc : c < 2 ^ 64) (hd : d < 2 ^ 64) (w : World) :
    Calls Tryz.prog 4 #[.agg #[.int .u64 a, .int .u64 b], .agg #[.int .u64 c, .int .u64 d]] w fun e w' => e = .returned (.bool true) ∧ Below w.heap.size w w' := by
  have La := Lib.hid ha
  have Lb := Lib.hid hb
  have Lc := Lib.hid hc
  have Ld := Lib.hid hd
  clear ha hb hc hd
  have Q := Lib.hid (box2 w 24 (.int .u64 a) (.int .u64 b) (.int .u64 c) (.int .u64 d))
  go_enter Tryz.func4, Tryz.ntmps4
  go_wp2_with fail
  refine (CpxAwake.awake_any _).mono ?_
  rintro e w1 ⟨rfl, hb⟩
  obtain ⟨q1, q2, q3, q4, hbw⟩ := Q.out w1 hb
  have B0 := Lib.hid hbw
  clear hb hbw
  go_wp2_with fail
  refine (c_any _ _ _).mono ?_
  rintro e w' ⟨rfl, rfl⟩
  go_wp2_with fail
  refine (c_any _ _ _).mono ?_
  rintro e w' ⟨rfl, rfl⟩
  go_wp2_with fail
  refine (div_any a b c d Lc.out Ld.out w1).mono ?_
  intro e u1 h1
  rcases h1 with ⟨x1, y1, n1, r1, rfl, hu1⟩
  have R1 := Lib.hid r1
  have B1 : Hid (Below w.heap.size w u1) := Lib.hid (by rw [hu1]; exact below_drewN B0.out _)
  clear r1 hu1
  go_wp2_with fail
  refine (refdiv_any a b c d u1 La.out Lb.out Lc.out Ld.out).mono ?_
  intro e v1 h1
  rcases h1 with ⟨p1, q1, r1, rfl, hb1⟩
  have T1 := Lib.hid (DivR.same R1.out r1)
  have C1 : Hid (Below w.heap.size w v1) := Lib.hid (B1.out.trans (hb1.mono B1.out.size))
  clear r1 hb1 R1 B1
  go_wp2_with fail
  refine (sameC_any x1 y1 p1 q1 v1).mono ?_
  rintro e w' ⟨rfl, rfl⟩
  rw [T1.out]
  clear T1
  go_wp2_with fail
  refine (div_any c d a b La.out Lb.out v1).mono ?_
  intro e u2 h2
  rcases h2 with ⟨x2, y2, n2, r2, rfl, hu2⟩
  have R2 := Lib.hid r2
  have B2 : Hid (Below w.heap.size w u2) := Lib.hid (by rw [hu2]; exact below_drewN C1.out _)
  clear r2 hu2
  go_wp2_with fail
  refine (refdiv_any c d a b u2 Lc.out Ld.out La.out Lb.out).mono ?_
  intro e v2 h2
  rcases h2 with ⟨p2, q2, r2, rfl, hb2⟩
  have T2 := Lib.hid (DivR.same R2.out r2)
  have C2 : Hid (Below w.heap.size w v2) := Lib.hid (B2.out.trans (hb2.mono B2.out.size))
  clear r2 hb2 R2 B2
  go_wp2_with fail
  refine (sameC_any x2 y2 p2 q2 v2).mono ?_
  rintro e w' ⟨rfl, rfl⟩
  rw [T2.out]
  clear T2
  go_wp2_with fail
  refine (div_any a b a b La.out Lb.out v2).mono ?_
  intro e u3 h3
  rcases h3 with ⟨x3, y3, n3, r3, rfl, hu3⟩
  have R3 := Lib.hid r3
  have B3 : Hid (Below w.heap.size w u3) := Lib.hid (by rw [hu3]; exact below_drewN C2.out _)
  clear r3 hu3
  go_wp2_with fail
  refine (refdiv_any a b a b u3 La.out Lb.out La.out Lb.out).mono ?_
  intro e v3 h3
  rcases h3 with ⟨p3, q3, r3, rfl, hb3⟩
  have T3 := Lib.hid (DivR.same R3.out r3)
  have C3 : Hid (Below w.heap.size w v3) := Lib.hid (B3.out.trans (hb3.mono B3.out.size))
  clear r3 hb3 R3 B3
  go_wp2_with fail
  refine (sameC_any x3 y3 p3 q3 v3).mono ?_
  rintro e w' ⟨rfl, rfl⟩
  rw [T3.out]
  clear T3
  go_wp2_with fail
  go_ret
  exact ⟨rfl, C3.out⟩
end Go.Proofs.YtokmommlabdcdaaGreat
