/- The walk of StepNewtons. -/
import Derived.Test.YtokmommlabdcdaaGreatMStepSameWalk
import Derived.Test.YtokmommlabdcdaaGreatMLend
set_option linter.unusedVariables false
set_option linter.unusedSimpArgs false
set_option linter.unusedVariables false
set_option linter.unusedSimpArgs false
namespace Go.Proofs.YtokmommlabdcdaaGreat
open Wd Fl Go.RowKit
theorem box1 (w : World) (t : TypeId) (a b : Value) (w1 : World) (hb : Below (w.alloc (.cells #[a, b] t)).heap.size (w.alloc (.cells #[a, b] t)) w1) :
    w1.cell? ⟨w.heap.size, 0, none⟩ = some a ∧ w1.cell? ⟨w.heap.size, 1, none⟩ = some b := by
  have h1 : (w.alloc (.cells #[a, b] t)).heap[w.heap.size]? = some (.cells #[a, b] t) := heap_alloc_new _ _
  have l1 : w.heap.size < (w.alloc (.cells #[a, b] t)).heap.size := by simp
  refine ⟨?_, ?_⟩
  · rw [hb.cell (p := ⟨w.heap.size, 0, none⟩) l1, cell_of_row _ _ _ _ _ _ h1]; rfl
  · rw [hb.cell (p := ⟨w.heap.size, 1, none⟩) l1, cell_of_row _ _ _ _ _ _ h1]; rfl
theorem newton_same {n : Nat} {cs : List Cpx} {z x y : Cpx} (h : newtonCode n = 0 → NewtonR cs z x) (h' : newtonCode n ≠ 0 → x = (0, 0)) (g : newtonCode n = 0 → NewtonR cs z y) (g' : newtonCode n ≠ 0 → y = (0, 0)) : sameCB x.1 x.2 y.1 y.2 = true := by
  by_cases h0 : newtonCode n = 0
  · exact ((h h0).same (g h0)).b
  · rw [h' h0, g' h0]; exact same_self _ _
set_option maxRecDepth 100000 in
set_option maxHeartbeats 8000000 in
theorem stepNewtons_walk (bs : List Cpx) (v : Value) (a b : Nat) (w : World) (hv : BitsAt w v bs ∧ BitsOk bs) (ha : a < 2 ^ 64) (hb : b < 2 ^ 64) :
    Calls Tryz.prog 6 #[v, .agg #[.int .u64 a, .int .u64 b]] w fun e w' => e = .returned (.bool true) ∧ Below w.heap.size w w' := by
  have La := Lib.hid ha
  have Lb := Lib.hid hb
  have HV := Lib.hid hv
  have OKC := Lib.hid (csOk_of hv.2)
  have HL := Lib.hid hv.2.2
  have Q := Lib.hid (box1 w 24 (.int .u64 a) (.int .u64 b))
  obtain ⟨c, hcode⟩ : ∃ c, newtonCode bs.length = c := ⟨_, rfl⟩
  have CODE := Lib.hid hcode
  have cc : (c == c) = true := beq_self_eq_true c
  clear ha hb hv hcode
  go_enter Tryz.func6, Tryz.ntmps6
  go_wp2_with fail
  refine (StepAwake.awake_any _).mono ?_
  intro e w1 hh
  rcases hh with ⟨rfl, hb⟩
  have B0 := Lib.hid (show Below w.heap.size w (w.alloc (.cells #[.int .u64 a, .int .u64 b] 24)) from bal (Below.refl _ w))
  have A1 := Lib.hid hb
  have B1 := Lib.hid (B0.out.trans (hb.mono B0.out.size))
  clear hb
  go_wp2_with fail
  refine (cs_sl bs v w1 (HV.out.1.below B1.out) HV.out.2).mono ?_
  intro e w2 hh
  rcases hh with ⟨u, rfl, hs, hb⟩
  have A2 := Lib.hid (A1.out.trans (hb.mono A1.out.size))
  have B2 := Lib.hid (B1.out.trans (hb.mono B1.out.size))
  have S2 := Lib.hid hs
  obtain ⟨q0, q1⟩ := Q.out w2 A2.out
  clear hb hs
  go_wp2_with fail
  refine (c_any _ _ _).mono ?_
  rintro e w' ⟨rfl, rfl⟩
  go_wp2_with fail
  refine (rnewton_any bs (a, b) u w2 S2.out OKC.out ⟨La.out, Lb.out⟩).mono ?_
  intro e w3 hh
  rcases hh with ⟨x, rfl, h0, h1, hb⟩
  have X := Lib.hid (And.intro h0 h1)
  have A3 := Lib.hid (A2.out.trans (hb.mono A2.out.size))
  have B3 := Lib.hid (B2.out.trans (hb.mono B2.out.size))
  have S3 := Lib.hid (S2.out.below hb)
  clear hb h0 h1 q0 q1
  rw [CODE.out]
  go_wp2_with fail
  refine (lendNums_any bs u w3 S3.out HL.out).mono ?_
  intro e w4 hh
  rcases hh with ⟨g, cap, rfl, hlt, hg, hb⟩
  have A4 := Lib.hid (A3.out.trans (hb.mono A3.out.size))
  have B4 := Lib.hid (B3.out.trans (hb.mono B3.out.size))
  have S4 := Lib.hid (S3.out.below hb)
  have L4 := Lib.hid hlt
  have G4 := Lib.hid hg
  obtain ⟨q0, q1⟩ := Q.out w4 A4.out
  clear hb hlt hg
  go_wp2_with fail
  refine (c_any _ _ _).mono ?_
  rintro e w' ⟨rfl, rfl⟩
  go_wp2_with fail
  refine (newton_any bs (a, b) _ w4 L4.out.sl OKC.out ⟨La.out, Lb.out⟩).mono ?_
  intro e w5 hh
  rcases hh with ⟨y, rfl, h0, h1, hb⟩
  have Y := Lib.hid (And.intro h0 h1)
  have B5 := Lib.hid (B4.out.trans (hb.mono B4.out.size))
  have S5 := Lib.hid (S4.out.below hb)
  have L5 := Lib.hid (L4.out.below hb)
  clear hb h0 h1 q0 q1
  rw [CODE.out]
  go_wp2_with fail
  refine (keptNums_any bs u g cap w5 L5.out S5.out HL.out).mono ?_
  intro e w6 hh
  rcases hh with ⟨rfl, hw⟩
  have B6 := Lib.hid (B5.out.trans (hw.below (by have := G4.out; have := B3.out.size; omega) B5.out.size))
  clear hw
  go_wp2_with fail
  refine (sameC_any _ _ _ _ _).mono ?_
  rintro e w' ⟨rfl, rfl⟩
  rw [newton_same Y.out.1 Y.out.2 X.out.1 X.out.2]
  go_wp2_with fail
  refine (num_any _ _).mono ?_
  rintro e w' ⟨rfl, rfl⟩
  go_wp2_with fail
  go_ret
  exact ⟨rfl, B6.out⟩
end Go.Proofs.YtokmommlabdcdaaGreat
