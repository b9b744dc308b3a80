/- The walk of StepTurned. -/
import Derived.Test.YtokmommlabdcdaaGreatMTurned
import Derived.Test.YtokmommlabdcdaaGreatMStepConj
import Derived.Test.YtokmommlabdcdaaGreatMStepSameWalk
set_option linter.unusedVariables false
set_option linter.unusedSimpArgs false
set_option linter.unusedVariables false
set_option linter.unusedSimpArgs false
namespace Go.Proofs.YtokmommlabdcdaaGreat
open Fl Go.RowKit
theorem cnjC (cs : List Cpx) (ok : CsOk cs) (i : Nat) : CL (nth cs i) (nth (cs.map cnj) i) := by
  by_cases h : i < cs.length
  · rw [cnj_run cs i h]; exact ⟨.inl (.refl _), .inl (.refl _)⟩
  · have e1 : nth cs i = (0, 0) := by simp [nth, List.getD_eq_getElem?_getD, List.getElem?_eq_none (Nat.not_lt.1 h)]
    have e2 : nth (cs.map cnj) i = (0, 0) := by simp [nth, List.getD_eq_getElem?_getD, List.getElem?_eq_none (Nat.not_lt.1 h)]
    rw [e1, e2]; exact nullC
theorem cnjOk {cs : List Cpx} (ok : CsOk cs) : CsOk (cs.map cnj) := fun i hi => by
  rw [List.length_map] at hi
  rw [cnj_run cs i hi]
  exact ⟨(nthOk ok i).1, neg_lt _ (nthOk ok i).2⟩
theorem turned_sl (bs : List Cpx) (v : Value) (w : World) (hv : Sl w v bs) (hok : BitsOk bs) : Calls Tryz.prog 40 #[v] w fun e w' => ∃ u, e = .returned u ∧ Sl w' u (bs.map cnj) ∧ Below w.heap.size w w' := by
  refine (turned_any2 bs v w hv hok).mono ?_
  rintro e w' ⟨u, rfl, ho, hb⟩
  exact ⟨u, rfl, Sl.of_own ho, hb⟩
theorem wayLt {way : Int} {cs zs : List Cpx} {i : Int} {x : Cpx} (h : WayR way cs zs i x) : x.1 < 2 ^ 64 ∧ x.2 < 2 ^ 64 := by
  rcases h with ⟨_, v, s, q, h0, h1, h2⟩ | ⟨_, d, v, q, h0, h1, h2, h3⟩ | ⟨_, v, s, q, a, p, r, t, h0, h1, h2, h3, h4, h5, h6⟩
  · exact ⟨h2.1.lt, h2.2.lt⟩
  · exact ⟨h3.1.lt, h3.2.lt⟩
  · exact ⟨h6.1.lt, h6.2.lt⟩
set_option maxRecDepth 100000 in
set_option maxHeartbeats 8000000 in
theorem stepTurned_bad (bs : List Cpx) (v : Value) (ls : List Cpx) (v2 : Value) (i way : Int) (w : World) (hv : BitsAt w v bs ∧ BitsOk bs) (hv2 : BitsAt w v2 ls ∧ BitsOk ls) (hc : stepCode way bs.length ls.length i ≠ 0) :
    Calls Tryz.prog 11 #[v, v2, .int .i64 i, .int .i64 way] w fun e w' => e = .returned (.bool true) ∧ Below w.heap.size w w' := by
  have HV2 := Lib.hid hv2
  have HV := Lib.hid hv
  have OKC := Lib.hid (csOk_of hv.2)
  have OKZ := Lib.hid (csOk_of hv2.2)
  obtain ⟨c, hcode⟩ : ∃ c, stepCode way bs.length ls.length i = c := ⟨_, rfl⟩
  have CODE := Lib.hid hcode
  have CODE2 := Lib.hid (show stepCode way (bs.map cnj).length (ls.map cnj).length i = c by rw [List.length_map, List.length_map]; exact hcode)
  rw [hcode] at hc
  have HC := Lib.hid hc
  have cc : (c == c) = true := beq_self_eq_true c
  have zz := StepAwake.g5
  have c0 : (c == 0) = false := beq_eq_false_iff_ne.2 hc
  clear hv hv2 hc hcode
  go_enter Tryz.func11, Tryz.ntmps11
  go_wp2_with fail
  refine (StepAwake.awake_any w).mono ?_
  intro e w1 hh
  rcases hh with ⟨rfl, hb⟩
  have B1 := Lib.hid hb
  clear hb
  go_wp2_with fail
  refine (cs_sl bs v w1 (HV.out.1.below B1.out) HV.out.2).mono ?_
  intro e w2 hh
  rcases hh with ⟨u, rfl, hs, hb⟩
  have B2 := Lib.hid (B1.out.trans (hb.mono B1.out.size))
  have S2 := Lib.hid hs
  clear hb hs
  go_wp2_with fail
  refine (cs_sl ls v2 w2 (HV2.out.1.below B2.out) HV2.out.2).mono ?_
  intro e w3 hh
  rcases hh with ⟨u2, rfl, hs, hb⟩
  have B3 := Lib.hid (B2.out.trans (hb.mono B2.out.size))
  have S3 := Lib.hid (S2.out.below hb)
  have T3 := Lib.hid hs
  clear hb hs
  go_wp2_with fail
  refine (step_any way bs ls i u u2 w3 S3.out T3.out OKC.out OKZ.out).mono ?_
  intro e w4 hh
  rcases hh with ⟨x, rfl, h0, h1, hb⟩
  have X4 := Lib.hid (And.intro h0 h1)
  have B4 := Lib.hid (B3.out.trans (hb.mono B3.out.size))
  have S4 := Lib.hid (S3.out.below hb)
  have T4 := Lib.hid (T3.out.below hb)
  clear hb h0 h1
  rw [CODE.out]
  go_wp2_with fail
  refine (turned_sl bs u w4 S4.out HV.out.2).mono ?_
  intro e w5 hh
  rcases hh with ⟨u3, rfl, hs, hb⟩
  have B5 := Lib.hid (B4.out.trans (hb.mono B4.out.size))
  have S5 := Lib.hid hs
  have T5 := Lib.hid (T4.out.below hb)
  clear hb hs
  go_wp2_with fail
  refine (turned_sl ls u2 w5 T5.out HV2.out.2).mono ?_
  intro e w6 hh
  rcases hh with ⟨u4, rfl, hs, hb⟩
  have B6 := Lib.hid (B5.out.trans (hb.mono B5.out.size))
  have S6 := Lib.hid (S5.out.below hb)
  have T6 := Lib.hid hs
  clear hb hs
  go_wp2_with fail
  refine (step_any way (bs.map cnj) (ls.map cnj) i u3 u4 w6 S6.out T6.out (cnjOk OKC.out) (cnjOk OKZ.out)).mono ?_
  intro e w7 hh
  rcases hh with ⟨y, rfl, h0, h1, hb⟩
  have Y4 := Lib.hid (And.intro h0 h1)
  have B7 := Lib.hid (B6.out.trans (hb.mono B6.out.size))
  clear hb h0 h1
  rw [CODE2.out]
  obtain rfl : x = (0, 0) := X4.out.2 (by rw [CODE.out]; exact HC.out)
  obtain rfl : y = (0, 0) := Y4.out.2 (by rw [CODE2.out]; exact HC.out)
  go_wp2_with fail
  refine (num_any _ _).mono ?_
  rintro e w' ⟨rfl, rfl⟩
  go_wp2_with fail
  refine (num_any _ _).mono ?_
  rintro e w' ⟨rfl, rfl⟩
  go_wp2_with fail
  refine (num_any _ _).mono ?_
  rintro e w' ⟨rfl, rfl⟩
  go_wp2_with fail
  go_ret
  exact ⟨rfl, B7.out⟩
set_option maxRecDepth 100000 in
set_option maxHeartbeats 8000000 in
theorem stepTurned_ok (bs : List Cpx) (v : Value) (ls : List Cpx) (v2 : Value) (i way : Int) (w : World) (hv : BitsAt w v bs ∧ BitsOk bs) (hv2 : BitsAt w v2 ls ∧ BitsOk ls) (hc : stepCode way bs.length ls.length i = 0) :
    Calls Tryz.prog 11 #[v, v2, .int .i64 i, .int .i64 way] w fun e w' => e = .returned (.bool true) ∧ Below w.heap.size w w' := by
  have HV2 := Lib.hid hv2
  have HV := Lib.hid hv
  have OKC := Lib.hid (csOk_of hv.2)
  have OKZ := Lib.hid (csOk_of hv2.2)
  obtain ⟨c, hcode⟩ : ∃ c, stepCode way bs.length ls.length i = c := ⟨_, rfl⟩
  have CODE := Lib.hid hcode
  have CODE2 := Lib.hid (show stepCode way (bs.map cnj).length (ls.map cnj).length i = c by rw [List.length_map, List.length_map]; exact hcode)
  rw [hcode] at hc
  subst hc
  have zz := StepAwake.g5
  clear hv hv2 hcode
  go_enter Tryz.func11, Tryz.ntmps11
  go_wp2_with fail
  refine (StepAwake.awake_any w).mono ?_
  intro e w1 hh
  rcases hh with ⟨rfl, hb⟩
  have B1 := Lib.hid hb
  clear hb
  go_wp2_with fail
  refine (cs_sl bs v w1 (HV.out.1.below B1.out) HV.out.2).mono ?_
  intro e w2 hh
  rcases hh with ⟨u, rfl, hs, hb⟩
  have B2 := Lib.hid (B1.out.trans (hb.mono B1.out.size))
  have S2 := Lib.hid hs
  clear hb hs
  go_wp2_with fail
  refine (cs_sl ls v2 w2 (HV2.out.1.below B2.out) HV2.out.2).mono ?_
  intro e w3 hh
  rcases hh with ⟨u2, rfl, hs, hb⟩
  have B3 := Lib.hid (B2.out.trans (hb.mono B2.out.size))
  have S3 := Lib.hid (S2.out.below hb)
  have T3 := Lib.hid hs
  clear hb hs
  go_wp2_with fail
  refine (step_any way bs ls i u u2 w3 S3.out T3.out OKC.out OKZ.out).mono ?_
  intro e w4 hh
  rcases hh with ⟨x, rfl, h0, h1, hb⟩
  have X4 := Lib.hid (And.intro h0 h1)
  have B4 := Lib.hid (B3.out.trans (hb.mono B3.out.size))
  have S4 := Lib.hid (S3.out.below hb)
  have T4 := Lib.hid (T3.out.below hb)
  clear hb h0 h1
  rw [CODE.out]
  go_wp2_with fail
  refine (turned_sl bs u w4 S4.out HV.out.2).mono ?_
  intro e w5 hh
  rcases hh with ⟨u3, rfl, hs, hb⟩
  have B5 := Lib.hid (B4.out.trans (hb.mono B4.out.size))
  have S5 := Lib.hid hs
  have T5 := Lib.hid (T4.out.below hb)
  clear hb hs
  go_wp2_with fail
  refine (turned_sl ls u2 w5 T5.out HV2.out.2).mono ?_
  intro e w6 hh
  rcases hh with ⟨u4, rfl, hs, hb⟩
  have B6 := Lib.hid (B5.out.trans (hb.mono B5.out.size))
  have S6 := Lib.hid (S5.out.below hb)
  have T6 := Lib.hid hs
  clear hb hs
  go_wp2_with fail
  refine (step_any way (bs.map cnj) (ls.map cnj) i u3 u4 w6 S6.out T6.out (cnjOk OKC.out) (cnjOk OKZ.out)).mono ?_
  intro e w7 hh
  rcases hh with ⟨y, rfl, h0, h1, hb⟩
  have Y4 := Lib.hid (And.intro h0 h1)
  have B7 := Lib.hid (B6.out.trans (hb.mono B6.out.size))
  clear hb h0 h1
  rw [CODE2.out]
  have CX := Lib.hid (wayC OKC.out (cnjOk OKC.out) OKZ.out (cnjOk OKZ.out) (List.length_map _) (List.length_map _) (cnjC bs OKC.out) (cnjC ls OKZ.out) (X4.out.1 CODE.out) (Y4.out.1 CODE2.out))
  have XLT := Lib.hid (wayLt (X4.out.1 CODE.out))
  have YLT := Lib.hid (wayLt (Y4.out.1 CODE2.out))
  obtain ⟨x1, x2⟩ := x
  obtain ⟨y1, y2⟩ := y
  have L1 := Lib.hid (show Lk x1 y1 from CX.out.1)
  have L2 := Lib.hid (show Lk x2 (neg y2) from by
    have a := Lk.neg (neg_lt x2 XLT.out.2) YLT.out.2 CX.out.2
    rwa [show neg (neg x2) = x2 from neg_neg x2 XLT.out.2] at a)
  go_wp2_with fail
  refine (num_any _ _).mono ?_
  rintro e w' ⟨rfl, rfl⟩
  go_wp2_with fail
  refine (num_any _ _).mono ?_
  rintro e w' ⟨rfl, rfl⟩
  go_wp2_with fail
  refine (num_any _ _).mono ?_
  rintro e w' ⟨rfl, rfl⟩
  go_wp2_with fail
  refine (conj_any y1 y2 YLT.out.2 _).mono ?_
  rintro e w' ⟨rfl, rfl⟩
  go_wp2_with fail
  refine (sized_any x1 y1 L1.out _).mono ?_
  rintro e w' ⟨rfl, rfl⟩
  go_wp2_with fail
  refine (sized_any x2 (neg y2) L2.out _).mono ?_
  rintro e w' ⟨rfl, rfl⟩
  by_cases n1 : isNan x1
  · have o1 : FloatKind.f64.format.order x1 x1 = none := order_nan (.inl n1)
    go_wp2_with fail
    go_ret
    exact ⟨rfl, B7.out⟩
  have o1 : FloatKind.f64.format.order x1 x1 = some .eq := (order_self x1).2 n1
  by_cases n2 : isNan x2
  · have o2 : FloatKind.f64.format.order x2 x2 = none := order_nan (.inl n2)
    go_wp2_with fail
    go_ret
    exact ⟨rfl, B7.out⟩
  have o2 : FloatKind.f64.format.order x2 x2 = some .eq := (order_self x2).2 n2
  have o3 := lk_order L1.out n1
  have o4 := lk_order L2.out n2
  go_wp2_with fail
  go_ret
  exact ⟨rfl, B7.out⟩
theorem stepTurned_walk (bs : List Cpx) (v : Value) (ls : List Cpx) (v2 : Value) (i way : Int) (w : World) (hv : BitsAt w v bs ∧ BitsOk bs) (hv2 : BitsAt w v2 ls ∧ BitsOk ls) :
    Calls Tryz.prog 11 #[v, v2, .int .i64 i, .int .i64 way] w fun e w' => e = .returned (.bool true) ∧ Below w.heap.size w w' := by
  by_cases hc : stepCode way bs.length ls.length i = 0
  · exact stepTurned_ok bs v ls v2 i way w hv hv2 hc
  · exact stepTurned_bad bs v ls v2 i way w hv hv2 hc
end Go.Proofs.YtokmommlabdcdaaGreat
