/- The walk of CpxRings: of any two complex numbers the law answers true. (Printed by wip/gen44.py.) -/
import Derived.Test.YtokmommlabdcdaaGreatMBig39
import Derived.Test.YtokmommlabdcdaaGreatMSum
import Derived.Test.YtokmommlabdcdaaGreatMFlRel
set_option linter.unusedVariables false
set_option linter.unusedSimpArgs false
set_option linter.unusedVariables false
set_option linter.unusedSimpArgs false
namespace Go.Proofs.YtokmommlabdcdaaGreat
open Wd Fl Go.RowKit
/-- two boxed pairs, behind what makes new memory alone -/
theorem box2 (w : World) (t : TypeId) (a b c d : Value) (w1 : World) (hb : Below ((w.alloc (.cells #[a, b] t)).alloc (.cells #[c, d] t)).heap.size ((w.alloc (.cells #[a, b] t)).alloc (.cells #[c, d] t)) w1) :
    w1.cell? ⟨w.heap.size, 0, none⟩ = some a ∧ w1.cell? ⟨w.heap.size, 1, none⟩ = some b ∧ w1.cell? ⟨w.heap.size + 1, 0, none⟩ = some c ∧ w1.cell? ⟨w.heap.size + 1, 1, none⟩ = some d ∧ Below w.heap.size w w1 := by
  have h1 : ((w.alloc (.cells #[a, b] t)).alloc (.cells #[c, d] t)).heap[w.heap.size]? = some (.cells #[a, b] t) := by
    have := heap_alloc_old (w.alloc (.cells #[a, b] t)) (.cells #[c, d] t) (r := w.heap.size) (by simp)
    rw [this, heap_alloc_new]
  have h2 : ((w.alloc (.cells #[a, b] t)).alloc (.cells #[c, d] t)).heap[w.heap.size + 1]? = some (.cells #[c, d] t) := by
    have := heap_alloc_new (w.alloc (.cells #[a, b] t)) (.cells #[c, d] t)
    rwa [show (w.alloc (.cells #[a, b] t)).heap.size = w.heap.size + 1 by simp] at this
  have l1 : w.heap.size < ((w.alloc (.cells #[a, b] t)).alloc (.cells #[c, d] t)).heap.size := by simp; omega
  have l2 : w.heap.size + 1 < ((w.alloc (.cells #[a, b] t)).alloc (.cells #[c, d] t)).heap.size := by simp
  refine ⟨?_, ?_, ?_, ?_, (bal (bal (Below.refl _ w))).trans (hb.mono (by simp; omega))⟩
  · rw [hb.cell (p := ⟨w.heap.size, 0, none⟩) l1, cell_of_row _ _ _ _ _ _ h1]; rfl
  · rw [hb.cell (p := ⟨w.heap.size, 1, none⟩) l1, cell_of_row _ _ _ _ _ _ h1]; rfl
  · rw [hb.cell (p := ⟨w.heap.size + 1, 0, none⟩) l2, cell_of_row _ _ _ _ _ _ h2]; rfl
  · rw [hb.cell (p := ⟨w.heap.size + 1, 1, none⟩) l2, cell_of_row _ _ _ _ _ _ h2]; rfl
theorem scale_same {a b x p q p' q' : Nat} (h : FMul a x p ∧ FMul b x q) (g : FMul a x p' ∧ FMul b x q') : sameCB p q p' q' = true := sameCB_true (h.1.cong g.1 (.refl _) (.refl _)) (h.2.cong g.2 (.refl _) (.refl _))
set_option maxRecDepth 100000 in
set_option maxHeartbeats 4000000 in
theorem cpxRings_walk (a b c d : Nat) (ha : a < 2 ^ 64) (hb : b < 2 ^ 64) (hc : c < 2 ^ 64) (hd : d < 2 ^ 64) (w : World) :
    Calls Tryz.prog 3 #[.agg #[.int .u64 a, .int .u64 b], .agg #[.int .u64 c, .int .u64 d]] w fun e w' => e = .returned (.bool true) ∧ Below w.heap.size w w' := by
  have La := Lib.hid ha
  have Lb := Lib.hid hb
  have Lc := Lib.hid hc
  have Ld := Lib.hid hd
  clear ha hb hc hd
  have Q := Lib.hid (box2 w 24 (.int .u64 a) (.int .u64 b) (.int .u64 c) (.int .u64 d))
  go_enter Tryz.func3, Tryz.ntmps3
  go_wp2_with fail
  refine (CpxAwake.awake_any _).mono ?_
  rintro e w1 ⟨rfl, hb⟩
  obtain ⟨q1, q2, q3, q4, hbw⟩ := Q.out w1 hb
  have B0 := Lib.hid hbw
  clear hb hbw
  go_wp2_with fail
  refine (c_any _ _ _).mono ?_
  rintro e w' ⟨rfl, rfl⟩
  go_wp2_with fail
  refine (c_any _ _ _).mono ?_
  rintro e w' ⟨rfl, rfl⟩
  go_wp2_with fail
  go_loopw [5, 6, 7] (fun sz sw si wr => ∃ (j p q r s : Nat), j ≤ 2 ∧ sz = .complex .f64 p q ∧ sw = .complex .f64 r s ∧ si = .int .i64 j ∧ (p < 2 ^ 64 ∧ q < 2 ^ 64 ∧ r < 2 ^ 64 ∧ s < 2 ^ 64) ∧ Below w.heap.size w wr) (fun _ _ si _ => 2 - (intOf si).toNat)
  case atStart => exact ⟨0, a, b, c, d, by omega, rfl, rfl, rfl, ⟨La.out, Lb.out, Lc.out, Ld.out⟩, B0.out⟩
  case round =>
    obtain ⟨j, p, q, r, s, hj, rfl, rfl, rfl, hl, hbr⟩ := hrel
    have BR := Lib.hid hbr
    have Lp := Lib.hid hl.1
    have Lq := Lib.hid hl.2.1
    have Lr := Lib.hid hl.2.2.1
    have Ls := Lib.hid hl.2.2.2
    clear hbr hl La Lb Lc Ld Q q1 q2 q3 q4
    by_cases hlt : j < 2
    · have hlt' : (j : Int) < 2 := by omega
      go_wp2_with fail
      refine (add_any p q r s wr).mono ?_
      intro e u1 h1
      rcases h1 with ⟨x1, y1, n1, r1, rfl, hu1⟩
      have R1 := Lib.hid r1
      have B1 : Hid (Below w.heap.size w u1) := Lib.hid (by rw [hu1]; exact below_drewN BR.out _)
      clear r1 hu1
      go_wp2_with fail
      refine (refadd_any p q r s u1 Lp.out Lq.out Lr.out Ls.out).mono ?_
      intro e v1 h1
      rcases h1 with ⟨p1, q1, r1, rfl, hb1⟩
      have T1 := Lib.hid (AddR.same R1.out r1)
      have C1 : Hid (Below w.heap.size w v1) := Lib.hid (B1.out.trans (hb1.mono B1.out.size))
      clear r1 hb1 R1 B1
      go_wp2_with fail
      refine (sameC_any x1 y1 p1 q1 v1).mono ?_
      rintro e w' ⟨rfl, rfl⟩
      rw [T1.out]
      clear T1
      go_wp2_with fail
      refine (sub_any p q r s v1).mono ?_
      intro e u2 h2
      rcases h2 with ⟨x2, y2, n2, r2, rfl, hu2⟩
      have R2 := Lib.hid r2
      have B2 : Hid (Below w.heap.size w u2) := Lib.hid (by rw [hu2]; exact below_drewN C1.out _)
      clear r2 hu2
      go_wp2_with fail
      refine (refsub_any p q r s u2 Lp.out Lq.out Lr.out Ls.out).mono ?_
      intro e v2 h2
      rcases h2 with ⟨p2, q2, r2, rfl, hb2⟩
      have T2 := Lib.hid (SubR.same R2.out r2)
      have C2 : Hid (Below w.heap.size w v2) := Lib.hid (B2.out.trans (hb2.mono B2.out.size))
      clear r2 hb2 R2 B2
      go_wp2_with fail
      refine (sameC_any x2 y2 p2 q2 v2).mono ?_
      rintro e w' ⟨rfl, rfl⟩
      rw [T2.out]
      clear T2
      go_wp2_with fail
      refine (mul_any p q r s v2).mono ?_
      intro e u3 h3
      rcases h3 with ⟨x3, y3, n3, r3, rfl, hu3⟩
      have R3 := Lib.hid r3
      have B3 : Hid (Below w.heap.size w u3) := Lib.hid (by rw [hu3]; exact below_drewN C2.out _)
      clear r3 hu3
      go_wp2_with fail
      refine (refmul_any p q r s u3 Lp.out Lq.out Lr.out Ls.out).mono ?_
      intro e v3 h3
      rcases h3 with ⟨p3, q3, r3, rfl, hb3⟩
      have T3 := Lib.hid (MulR.same R3.out r3)
      have C3 : Hid (Below w.heap.size w v3) := Lib.hid (B3.out.trans (hb3.mono B3.out.size))
      clear r3 hb3 R3 B3
      go_wp2_with fail
      refine (sameC_any x3 y3 p3 q3 v3).mono ?_
      rintro e w' ⟨rfl, rfl⟩
      rw [T3.out]
      clear T3
      go_wp2_with fail
      refine (scale_any p q r v3).mono ?_
      intro e u4 h4
      rcases h4 with ⟨x4, y4, n4, r4, rfl, hu4⟩
      have R4 := Lib.hid r4
      have B4 : Hid (Below w.heap.size w u4) := Lib.hid (by rw [hu4]; exact below_drewN C3.out _)
      clear r4 hu4
      go_wp2_with fail
      refine (refscale_any p q r u4 Lp.out Lq.out Lr.out).mono ?_
      intro e v4 h4
      rcases h4 with ⟨p4, q4, r4, rfl, hb4⟩
      have T4 := Lib.hid (scale_same R4.out r4)
      have C4 : Hid (Below w.heap.size w v4) := Lib.hid (B4.out.trans (hb4.mono B4.out.size))
      clear r4 hb4 R4 B4
      go_wp2_with fail
      refine (sameC_any x4 y4 p4 q4 v4).mono ?_
      rintro e w' ⟨rfl, rfl⟩
      rw [T4.out]
      clear T4
      go_wp2_with fail
      refine (scale_any p q s v4).mono ?_
      intro e u5 h5
      rcases h5 with ⟨x5, y5, n5, r5, rfl, hu5⟩
      have R5 := Lib.hid r5
      have B5 : Hid (Below w.heap.size w u5) := Lib.hid (by rw [hu5]; exact below_drewN C4.out _)
      clear r5 hu5
      go_wp2_with fail
      refine (refscale_any p q s u5 Lp.out Lq.out Ls.out).mono ?_
      intro e v5 h5
      rcases h5 with ⟨p5, q5, r5, rfl, hb5⟩
      have T5 := Lib.hid (scale_same R5.out r5)
      have C5 : Hid (Below w.heap.size w v5) := Lib.hid (B5.out.trans (hb5.mono B5.out.size))
      clear r5 hb5 R5 B5
      go_wp2_with fail
      refine (sameC_any x5 y5 p5 q5 v5).mono ?_
      rintro e w' ⟨rfl, rfl⟩
      rw [T5.out]
      clear T5
      go_wp2_with fail
      go_roundw
      case rel => exact ⟨j + 1, r, s, p, q, by omega, rfl, rfl, by go_num, ⟨Lr.out, Ls.out, Lp.out, Lq.out⟩, C5.out⟩
      case measure => simp [intOf]; omega
    · obtain rfl : j = 2 := by omega
      go_wp2_with fail
      go_ret
      exact ⟨rfl, BR.out⟩
end Go.Proofs.YtokmommlabdcdaaGreat
