/- The walk of StepPoints. -/
import Derived.Test.YtokmommlabdcdaaGreatMStepNewtonsWalk
set_option linter.unusedVariables false
set_option linter.unusedSimpArgs false
set_option linter.unusedVariables false
set_option linter.unusedSimpArgs false
namespace Go.Proofs.YtokmommlabdcdaaGreat
open Wd Fl Go.RowKit
theorem ret_same {code : Int} {R : Cpx → Prop} {x y : Cpx} (hR : ∀ x y, R x → R y → SP x y) (h : code = 0 → R x) (h' : code ≠ 0 → x = (0, 0)) (g : code = 0 → R y) (g' : code ≠ 0 → y = (0, 0)) : sameCB x.1 x.2 y.1 y.2 = true := by
  by_cases h0 : code = 0
  · exact (hR _ _ (h h0) (g h0)).b
  · rw [h' h0, g' h0]; exact same_self _ _
theorem LentAt.wr {w w' : World} {g cap lo hi b : Nat} {cs : List Cpx} (h : LentAt w g cap cs) (k : Wr b lo hi w w') (hb : g ≠ b) : LentAt w' g cap cs := by
  obtain ⟨cur, h1, h2⟩ := h
  exact ⟨cur, (k.block g (Array.getElem?_eq_some_iff.1 h1).1 hb).trans h1, h2⟩
set_option maxRecDepth 100000 in
set_option maxHeartbeats 8000000 in
theorem stepPoints_walk (bs : List Cpx) (v : Value) (ls : List Cpx) (v2 : Value) (i way : Int) (w : World) (hv : BitsAt w v bs ∧ BitsOk bs) (hv2 : BitsAt w v2 ls ∧ BitsOk ls) :
    Calls Tryz.prog 7 #[v, v2, .int .i64 i, .int .i64 way] w fun e w' => e = .returned (.bool true) ∧ Below w.heap.size w w' := by
  have HV2 := Lib.hid hv2
  have HV := Lib.hid hv
  have OKC := Lib.hid (csOk_of hv.2)
  have OKZ := Lib.hid (csOk_of hv2.2)
  have HLC := Lib.hid hv.2.2
  have HLZ := Lib.hid hv2.2.2
  obtain ⟨c, hcode⟩ : ∃ c, fitCode bs.length ls.length i = c := ⟨_, rfl⟩
  have FIT := Lib.hid hcode
  have cc : (c == c) = true := beq_self_eq_true c
  obtain ⟨d, hcode2⟩ : ∃ c, stepCode way bs.length ls.length i = c := ⟨_, rfl⟩
  have CODE := Lib.hid hcode2
  have dd : (d == d) = true := beq_self_eq_true d
  clear hv hv2 hcode hcode2
  go_enter Tryz.func7, Tryz.ntmps7
  go_wp2_with fail
  refine (StepAwake.awake_any _).mono ?_
  intro e w1 hh
  rcases hh with ⟨rfl, hb⟩
  have B1 := Lib.hid hb
  clear hb
  go_wp2_with fail
  refine (cs_sl bs v w1 (HV.out.1.below B1.out) HV.out.2).mono ?_
  intro e w2 hh
  rcases hh with ⟨u, rfl, hs, hb⟩
  have B2 := Lib.hid (B1.out.trans (hb.mono B1.out.size))
  have S2 := Lib.hid hs
  clear hb hs
  go_wp2_with fail
  refine (cs_sl ls v2 w2 (HV2.out.1.below B2.out) HV2.out.2).mono ?_
  intro e w3 hh
  rcases hh with ⟨u2, rfl, hs, hb⟩
  have B3 := Lib.hid (B2.out.trans (hb.mono B2.out.size))
  have S3 := Lib.hid (S2.out.below hb)
  have T3 := Lib.hid hs
  clear hb hs
  have C0 := Lib.hid (Below.refl w3.heap.size w3)
  go_wp2_with fail
  refine (lendNums_any bs u w3 (S3.out.below C0.out) HLC.out).mono ?_
  intro e w4 hh
  rcases hh with ⟨g1, p1, rfl, hlt, hg, hb⟩
  have C4 := Lib.hid (C0.out.trans (hb.mono C0.out.size))
  have L1 := Lib.hid hlt
  have G1 := Lib.hid (Nat.le_trans C0.out.size hg)
  clear hb hlt hg
  go_wp2_with fail
  refine (lendNums_any ls u2 w4 (T3.out.below C4.out) HLZ.out).mono ?_
  intro e w5 hh
  rcases hh with ⟨h1, r1, rfl, hlt, hg, hb⟩
  have C5 := Lib.hid (C4.out.trans (hb.mono C4.out.size))
  have M1 := Lib.hid hlt
  have L1b := Lib.hid (L1.out.below hb)
  have GL1 := Lib.hid (show g1 < w4.heap.size from by obtain ⟨cur, h, _⟩ := L1.out; exact (Array.getElem?_eq_some_iff.1 h).1)
  have NE1 := Lib.hid (show h1 ≠ g1 from by have := GL1.out; omega)
  have H1 := Lib.hid (Nat.le_trans C4.out.size hg)
  clear hb hlt hg
  go_wp2_with fail
  refine (weier_any bs ls i _ _ w5 L1b.out.sl M1.out.sl OKC.out OKZ.out).mono ?_
  intro e w6 hh
  rcases hh with ⟨x1, rfl, h0, h1, hb⟩
  have X1 := Lib.hid (And.intro h0 h1)
  have C6 := Lib.hid (C5.out.trans (hb.mono C5.out.size))
  have L1c := Lib.hid (L1b.out.below hb)
  have M1c := Lib.hid (M1.out.below hb)
  clear hb h0 h1
  rw [FIT.out]
  go_wp2_with fail
  refine (keptNums_any bs u g1 p1 w6 L1c.out (S3.out.below C6.out) HLC.out).mono ?_
  intro e w7 hh
  rcases hh with ⟨rfl, hw⟩
  have C7 := Lib.hid (C6.out.trans (hw.below G1.out C6.out.size))
  have M1d := Lib.hid (M1c.out.wr hw NE1.out)
  clear hw
  go_wp2_with fail
  refine (keptNums_any ls u2 h1 r1 w7 M1d.out (T3.out.below C7.out) HLZ.out).mono ?_
  intro e w8 hh
  rcases hh with ⟨rfl, hw⟩
  have C8 := Lib.hid (C7.out.trans (hw.below H1.out C7.out.size))
  clear hw
  go_wp2_with fail
  refine (lendNums_any bs u w8 (S3.out.below C8.out) HLC.out).mono ?_
  intro e w9 hh
  rcases hh with ⟨g2, p2, rfl, hlt, hg, hb⟩
  have C9 := Lib.hid (C8.out.trans (hb.mono C8.out.size))
  have L2 := Lib.hid hlt
  have G2 := Lib.hid (Nat.le_trans C8.out.size hg)
  clear hb hlt hg
  go_wp2_with fail
  refine (lendNums_any ls u2 w9 (T3.out.below C9.out) HLZ.out).mono ?_
  intro e w10 hh
  rcases hh with ⟨h2, r2, rfl, hlt, hg, hb⟩
  have C10 := Lib.hid (C9.out.trans (hb.mono C9.out.size))
  have M2 := Lib.hid hlt
  have L2b := Lib.hid (L2.out.below hb)
  have GL2 := Lib.hid (show g2 < w9.heap.size from by obtain ⟨cur, h, _⟩ := L2.out; exact (Array.getElem?_eq_some_iff.1 h).1)
  have NE2 := Lib.hid (show h2 ≠ g2 from by have := GL2.out; omega)
  have H2 := Lib.hid (Nat.le_trans C9.out.size hg)
  clear hb hlt hg
  go_wp2_with fail
  refine (aberth_any bs ls i _ _ w10 L2b.out.sl M2.out.sl OKC.out OKZ.out).mono ?_
  intro e w11 hh
  rcases hh with ⟨x2, rfl, h0, h1, hb⟩
  have X2 := Lib.hid (And.intro h0 h1)
  have C11 := Lib.hid (C10.out.trans (hb.mono C10.out.size))
  have L2c := Lib.hid (L2b.out.below hb)
  have M2c := Lib.hid (M2.out.below hb)
  clear hb h0 h1
  rw [FIT.out]
  go_wp2_with fail
  refine (keptNums_any bs u g2 p2 w11 L2c.out (S3.out.below C11.out) HLC.out).mono ?_
  intro e w12 hh
  rcases hh with ⟨rfl, hw⟩
  have C12 := Lib.hid (C11.out.trans (hw.below G2.out C11.out.size))
  have M2d := Lib.hid (M2c.out.wr hw NE2.out)
  clear hw
  go_wp2_with fail
  refine (keptNums_any ls u2 h2 r2 w12 M2d.out (T3.out.below C12.out) HLZ.out).mono ?_
  intro e w13 hh
  rcases hh with ⟨rfl, hw⟩
  have C13 := Lib.hid (C12.out.trans (hw.below H2.out C12.out.size))
  clear hw
  go_wp2_with fail
  refine (lendNums_any bs u w13 (S3.out.below C13.out) HLC.out).mono ?_
  intro e w14 hh
  rcases hh with ⟨g3, p3, rfl, hlt, hg, hb⟩
  have C14 := Lib.hid (C13.out.trans (hb.mono C13.out.size))
  have L3 := Lib.hid hlt
  have G3 := Lib.hid (Nat.le_trans C13.out.size hg)
  clear hb hlt hg
  go_wp2_with fail
  refine (lendNums_any ls u2 w14 (T3.out.below C14.out) HLZ.out).mono ?_
  intro e w15 hh
  rcases hh with ⟨h3, r3, rfl, hlt, hg, hb⟩
  have C15 := Lib.hid (C14.out.trans (hb.mono C14.out.size))
  have M3 := Lib.hid hlt
  have L3b := Lib.hid (L3.out.below hb)
  have GL3 := Lib.hid (show g3 < w14.heap.size from by obtain ⟨cur, h, _⟩ := L3.out; exact (Array.getElem?_eq_some_iff.1 h).1)
  have NE3 := Lib.hid (show h3 ≠ g3 from by have := GL3.out; omega)
  have H3 := Lib.hid (Nat.le_trans C14.out.size hg)
  clear hb hlt hg
  go_wp2_with fail
  refine (step_any way bs ls i _ _ w15 L3b.out.sl M3.out.sl OKC.out OKZ.out).mono ?_
  intro e w16 hh
  rcases hh with ⟨x3, rfl, h0, h1, hb⟩
  have X3 := Lib.hid (And.intro h0 h1)
  have C16 := Lib.hid (C15.out.trans (hb.mono C15.out.size))
  have L3c := Lib.hid (L3b.out.below hb)
  have M3c := Lib.hid (M3.out.below hb)
  clear hb h0 h1
  rw [CODE.out]
  go_wp2_with fail
  refine (keptNums_any bs u g3 p3 w16 L3c.out (S3.out.below C16.out) HLC.out).mono ?_
  intro e w17 hh
  rcases hh with ⟨rfl, hw⟩
  have C17 := Lib.hid (C16.out.trans (hw.below G3.out C16.out.size))
  have M3d := Lib.hid (M3c.out.wr hw NE3.out)
  clear hw
  go_wp2_with fail
  refine (keptNums_any ls u2 h3 r3 w17 M3d.out (T3.out.below C17.out) HLZ.out).mono ?_
  intro e w18 hh
  rcases hh with ⟨rfl, hw⟩
  have C18 := Lib.hid (C17.out.trans (hw.below H3.out C17.out.size))
  clear hw
  go_wp2_with fail
  refine (rweier_any bs ls i u u2 w18 (S3.out.below C18.out) (T3.out.below C18.out) OKC.out OKZ.out).mono ?_
  intro e w19 hh
  rcases hh with ⟨y1, rfl, h0, h1, hb⟩
  have Y1 := Lib.hid (And.intro h0 h1)
  have C19 := Lib.hid (C18.out.trans (hb.mono C18.out.size))
  clear hb h0 h1
  rw [FIT.out]
  go_wp2_with fail
  refine (raberth_any bs ls i u u2 w19 (S3.out.below C19.out) (T3.out.below C19.out) OKC.out OKZ.out).mono ?_
  intro e w20 hh
  rcases hh with ⟨y2, rfl, h0, h1, hb⟩
  have Y2 := Lib.hid (And.intro h0 h1)
  have C20 := Lib.hid (C19.out.trans (hb.mono C19.out.size))
  clear hb h0 h1
  rw [FIT.out]
  go_wp2_with fail
  refine (rstep_any way bs ls i u u2 w20 (S3.out.below C20.out) (T3.out.below C20.out) OKC.out OKZ.out).mono ?_
  intro e w21 hh
  rcases hh with ⟨y3, rfl, h0, h1, hb⟩
  have Y3 := Lib.hid (And.intro h0 h1)
  have C21 := Lib.hid (C20.out.trans (hb.mono C20.out.size))
  clear hb h0 h1
  rw [CODE.out]
  go_wp2_with fail
  refine (sameC_any _ _ _ _ _).mono ?_
  rintro e w' ⟨rfl, rfl⟩
  rw [ret_same (fun _ _ => WeierR.same) X1.out.1 X1.out.2 Y1.out.1 Y1.out.2]
  go_wp2_with fail
  refine (sameC_any _ _ _ _ _).mono ?_
  rintro e w' ⟨rfl, rfl⟩
  rw [ret_same (fun _ _ => AberthR.same) X2.out.1 X2.out.2 Y2.out.1 Y2.out.2]
  go_wp2_with fail
  refine (sameC_any _ _ _ _ _).mono ?_
  rintro e w' ⟨rfl, rfl⟩
  rw [ret_same (fun _ _ => WayR.same) X3.out.1 X3.out.2 Y3.out.1 Y3.out.2]
  go_wp2_with fail
  refine (num_any _ _).mono ?_
  rintro e w' ⟨rfl, rfl⟩
  go_wp2_with fail
  refine (num_any _ _).mono ?_
  rintro e w' ⟨rfl, rfl⟩
  go_wp2_with fail
  refine (num_any _ _).mono ?_
  rintro e w' ⟨rfl, rfl⟩
  go_wp2_with fail
  go_ret
  exact ⟨rfl, B3.out.trans (C21.out.mono B3.out.size)⟩
end Go.Proofs.YtokmommlabdcdaaGreat
