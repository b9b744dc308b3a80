/- The walk of StepSame. -/
import Derived.Test.YtokmommlabdcdaaGreatMStepAwake
import Derived.Test.YtokmommlabdcdaaGreatMHorner2
import Derived.Test.YtokmommlabdcdaaGreatMCs
set_option linter.unusedVariables false
set_option linter.unusedSimpArgs false
set_option linter.unusedVariables false
set_option linter.unusedSimpArgs false
namespace Go.Proofs.YtokmommlabdcdaaGreat
open Fl Go.RowKit
theorem csOk_of {bs : List Cpx} (h : BitsOk bs) : CsOk bs := fun i hi => BitsOk_nth h.1 i hi
/-- what a list of numbers is, made of words -/
theorem cs_sl (bs : List Cpx) (v : Value) (w : World) (hv : BitsAt w v bs) (hok : BitsOk bs) : Calls Tryz.prog 25 #[v] w fun e w' => ∃ u, e = .returned u ∧ Sl w' u bs ∧ Below w.heap.size w w' := by
  refine (cs_any bs v w hv hok).mono ?_
  rintro e w' ⟨u, rfl, ho, hb⟩
  exact ⟨u, rfl, Sl.of_own ho, hb⟩
theorem stepCode_bad {way : Int} {n m : Nat} {i : Int} (h : fitCode n m i ≠ 0) : stepCode way n m i = fitCode n m i := if_neg h
theorem stepCode_ok {way : Int} {n m : Nat} {i : Int} (h : fitCode n m i = 0) (g : way = 1 ∨ way = 2 ∨ way = 3) : stepCode way n m i = 0 := by unfold stepCode; rw [if_pos h, if_pos g]
theorem stepCode_way {way : Int} {n m : Nat} {i : Int} (h : fitCode n m i = 0) (g : ¬ (way = 1 ∨ way = 2 ∨ way = 3)) : stepCode way n m i = 181 := by unfold stepCode; rw [if_pos h, if_neg g]
set_option maxRecDepth 100000 in
set_option maxHeartbeats 8000000 in
theorem stepSame_bad (bs ls : List Cpx) (v v2 : Value) (i way : Int) (w : World) (hv : BitsAt w v bs ∧ BitsOk bs) (hv2 : BitsAt w v2 ls ∧ BitsOk ls) (hf : fitCode bs.length ls.length i ≠ 0) :
    Calls Tryz.prog 10 #[v, v2, .int .i64 i, .int .i64 way] w fun e w' => e = .returned (.bool true) ∧ Below w.heap.size w w' := by
  have HV2 := Lib.hid hv2
  have HV := Lib.hid hv
  have OKC := Lib.hid (csOk_of hv.2)
  have OKZ := Lib.hid (csOk_of hv2.2)
  have zz := StepAwake.g5
  have CODE := Lib.hid (stepCode_bad (way := way) hf)
  obtain ⟨c, hc⟩ : ∃ c, fitCode bs.length ls.length i = c := ⟨_, rfl⟩
  rw [hc] at CODE hf
  have FIT := Lib.hid hc
  have cc : (c == c) = true := beq_self_eq_true c
  have c0 : (c == 0) = false := beq_eq_false_iff_ne.2 hf
  have CN := Lib.hid hf
  clear hf hc
  clear hv hv2
  go_enter Tryz.func10, Tryz.ntmps10
  go_wp2_with fail
  refine (StepAwake.awake_any w).mono ?_
  intro e w1 hh
  rcases hh with ⟨rfl, hb⟩
  have B1 := Lib.hid hb
  clear hb
  go_wp2_with fail
  refine (cs_sl bs v w1 (HV.out.1.below B1.out) HV.out.2).mono ?_
  intro e w2 hh
  rcases hh with ⟨u, rfl, hs, hb⟩
  have B2 := Lib.hid (B1.out.trans (hb.mono B1.out.size))
  have S2 := Lib.hid hs
  clear hb hs
  go_wp2_with fail
  refine (cs_sl ls v2 w2 (HV2.out.1.below B2.out) HV2.out.2).mono ?_
  intro e w3 hh
  rcases hh with ⟨u2, rfl, hs, hb⟩
  have B3 := Lib.hid (B2.out.trans (hb.mono B2.out.size))
  have S3 := Lib.hid (S2.out.below hb)
  have T3 := Lib.hid hs
  clear hb hs
  go_wp2_with fail
  refine (step_any way bs ls i u u2 w3 S3.out T3.out OKC.out OKZ.out).mono ?_
  intro e w4 hh
  rcases hh with ⟨x, rfl, h0, h1, hb⟩
  have X4 := Lib.hid (And.intro h0 h1)
  have B4 := Lib.hid (B3.out.trans (hb.mono B3.out.size))
  have S4 := Lib.hid (S3.out.below hb)
  have T4 := Lib.hid (T3.out.below hb)
  clear hb h0 h1
  rw [CODE.out]
  go_wp2_with fail
  refine (weier_any bs ls i u u2 w4 S4.out T4.out OKC.out OKZ.out).mono ?_
  intro e w5 hh
  rcases hh with ⟨y, rfl, h0, h1, hb⟩
  have Y4 := Lib.hid (And.intro h0 h1)
  have B5 := Lib.hid (B4.out.trans (hb.mono B4.out.size))
  have S5 := Lib.hid (S4.out.below hb)
  have T5 := Lib.hid (T4.out.below hb)
  clear hb h0 h1
  rw [FIT.out]
  go_wp2_with fail
  refine (aberth_any bs ls i u u2 w5 S5.out T5.out OKC.out OKZ.out).mono ?_
  intro e w6 hh
  rcases hh with ⟨t, rfl, h0, h1, hb⟩
  have Z4 := Lib.hid (And.intro h0 h1)
  have B6 := Lib.hid (B5.out.trans (hb.mono B5.out.size))
  have S6 := Lib.hid (S5.out.below hb)
  have T6 := Lib.hid (T5.out.below hb)
  clear hb h0 h1
  rw [FIT.out]
  obtain rfl : x = (0, 0) := X4.out.2 (by rw [CODE.out]; exact CN.out)
  go_wp2_with fail
  refine (num_any _ _).mono ?_
  rintro e w' ⟨rfl, rfl⟩
  go_wp2_with fail
  refine (num_any _ _).mono ?_
  rintro e w' ⟨rfl, rfl⟩
  go_wp2_with fail
  refine (num_any _ _).mono ?_
  rintro e w' ⟨rfl, rfl⟩
  go_wp2_with fail
  refine (num_any _ _).mono ?_
  rintro e w' ⟨rfl, rfl⟩
  go_wp2_with fail
  refine (num_any _ _).mono ?_
  rintro e w' ⟨rfl, rfl⟩
  go_wp2_with fail
  go_ret
  exact ⟨rfl, B6.out⟩
set_option maxRecDepth 100000 in
set_option maxHeartbeats 8000000 in
theorem stepSame_one (bs ls : List Cpx) (v v2 : Value) (i way : Int) (w : World) (hv : BitsAt w v bs ∧ BitsOk bs) (hv2 : BitsAt w v2 ls ∧ BitsOk ls) (hf : fitCode bs.length ls.length i = 0) (hw : way = 1) :
    Calls Tryz.prog 10 #[v, v2, .int .i64 i, .int .i64 way] w fun e w' => e = .returned (.bool true) ∧ Below w.heap.size w w' := by
  have HV2 := Lib.hid hv2
  have HV := Lib.hid hv
  have OKC := Lib.hid (csOk_of hv.2)
  have OKZ := Lib.hid (csOk_of hv2.2)
  have zz := StepAwake.g5
  subst hw
  have CODE := Lib.hid (stepCode_ok (way := 1) hf (by decide))
  have FIT := Lib.hid hf
  obtain ⟨n2, n65, hm, hi0, him⟩ := fit_ok hf
  have ND := Lib.hid (newtonCode_ok n2 n65)
  obtain ⟨k, rfl⟩ := Int.eq_ofNat_of_zero_le hi0
  have HK := Lib.hid (show k < ls.length by omega)
  have nk : (k : Int) < (ls.length : Int) := by omega
  clear n2 n65 hm hi0 him hf
  clear hv hv2
  go_enter Tryz.func10, Tryz.ntmps10
  go_wp2_with fail
  refine (StepAwake.awake_any w).mono ?_
  intro e w1 hh
  rcases hh with ⟨rfl, hb⟩
  have B1 := Lib.hid hb
  clear hb
  go_wp2_with fail
  refine (cs_sl bs v w1 (HV.out.1.below B1.out) HV.out.2).mono ?_
  intro e w2 hh
  rcases hh with ⟨u, rfl, hs, hb⟩
  have B2 := Lib.hid (B1.out.trans (hb.mono B1.out.size))
  have S2 := Lib.hid hs
  clear hb hs
  go_wp2_with fail
  refine (cs_sl ls v2 w2 (HV2.out.1.below B2.out) HV2.out.2).mono ?_
  intro e w3 hh
  rcases hh with ⟨u2, rfl, hs, hb⟩
  have B3 := Lib.hid (B2.out.trans (hb.mono B2.out.size))
  have S3 := Lib.hid (S2.out.below hb)
  have T3 := Lib.hid hs
  clear hb hs
  go_wp2_with fail
  refine (step_any 1 bs ls (k : Nat) u u2 w3 S3.out T3.out OKC.out OKZ.out).mono ?_
  intro e w4 hh
  rcases hh with ⟨x, rfl, h0, h1, hb⟩
  have X4 := Lib.hid (And.intro h0 h1)
  have B4 := Lib.hid (B3.out.trans (hb.mono B3.out.size))
  have S4 := Lib.hid (S3.out.below hb)
  have T4 := Lib.hid (T3.out.below hb)
  clear hb h0 h1
  rw [CODE.out]
  go_wp2_with fail
  refine (weier_any bs ls (k : Nat) u u2 w4 S4.out T4.out OKC.out OKZ.out).mono ?_
  intro e w5 hh
  rcases hh with ⟨y, rfl, h0, h1, hb⟩
  have Y4 := Lib.hid (And.intro h0 h1)
  have B5 := Lib.hid (B4.out.trans (hb.mono B4.out.size))
  have S5 := Lib.hid (S4.out.below hb)
  have T5 := Lib.hid (T4.out.below hb)
  clear hb h0 h1
  rw [FIT.out]
  go_wp2_with fail
  refine (aberth_any bs ls (k : Nat) u u2 w5 S5.out T5.out OKC.out OKZ.out).mono ?_
  intro e w6 hh
  rcases hh with ⟨t, rfl, h0, h1, hb⟩
  have Z4 := Lib.hid (And.intro h0 h1)
  have B6 := Lib.hid (B5.out.trans (hb.mono B5.out.size))
  have S6 := Lib.hid (S5.out.below hb)
  have T6 := Lib.hid (T5.out.below hb)
  clear hb h0 h1
  rw [FIT.out]
  go_wp2_with fail
  refine (num_any _ _).mono ?_
  rintro e w' ⟨rfl, rfl⟩
  go_wp2_with fail
  refine (num_any _ _).mono ?_
  rintro e w' ⟨rfl, rfl⟩
  go_wp2_with fail
  refine (num_any _ _).mono ?_
  rintro e w' ⟨rfl, rfl⟩
  obtain ⟨b', off', cap', rfl, hcap, hc⟩ : ∃ b off cap, u2 = .slice (some ⟨b, off, none⟩) ls.length cap ∧ ls.length ≤ cap ∧ Cells w6 b off ls := by
    obtain ⟨a, cap, rfl, h⟩ := slShape T6.out
    obtain ⟨b, off, rfl, h1, h2⟩ := h (by have := HK.out; omega)
    exact ⟨b, off, cap, rfl, h1, h2⟩
  have NE := Lib.hid (fun z hz => ND.out ▸ newton_any bs z u w6 S6.out OKC.out hz)
  have nc' : (ls.length : Int) ≤ (cap' : Int) := by omega
  have CK := Lib.hid (hc k HK.out)
  obtain ⟨zk, hzk⟩ : ∃ z, nth ls k = z := ⟨_, rfl⟩
  have LZ := Lib.hid (nthOk OKZ.out k)
  rw [hzk] at CK LZ
  have ZK := Lib.hid hzk
  obtain ⟨a1, a2⟩ := zk
  have hck : w6.cell? ⟨b', off' + k, none⟩ = some (.complex .f64 a1 a2) := CK.out
  clear hcap hc hzk
  go_wp2_with fail
  refine (NE.out (a1, a2) LZ.out).mono ?_
  intro e w7 hh
  rcases hh with ⟨n, rfl, h0, h1, hb⟩
  have N4 := Lib.hid (h0 rfl)
  have B7 := Lib.hid (B6.out.trans (hb.mono B6.out.size))
  clear hb h0 h1 hck
  go_wp2_with fail
  refine (num_any _ _).mono ?_
  rintro e w' ⟨rfl, rfl⟩
  go_wp2_with fail
  refine (num_any _ _).mono ?_
  rintro e w' ⟨rfl, rfl⟩
  go_wp2_with fail
  refine (sameC_any _ _ _ _ _).mono ?_
  rintro e w' ⟨rfl, rfl⟩
  have hs : sameCB x.1 x.2 n.1 n.2 = true := by
    have h1 := (X4.out.1 CODE.out).at1
    rw [show nth ls ((k : Nat) : Int).toNat = (a1, a2) from ZK.out] at h1
    exact (h1.same N4.out).b
  rw [hs]
  go_wp2_with fail
  go_ret
  exact ⟨rfl, B7.out⟩
set_option maxRecDepth 100000 in
set_option maxHeartbeats 8000000 in
theorem stepSame_two (bs ls : List Cpx) (v v2 : Value) (i way : Int) (w : World) (hv : BitsAt w v bs ∧ BitsOk bs) (hv2 : BitsAt w v2 ls ∧ BitsOk ls) (hf : fitCode bs.length ls.length i = 0) (hw : way = 2) :
    Calls Tryz.prog 10 #[v, v2, .int .i64 i, .int .i64 way] w fun e w' => e = .returned (.bool true) ∧ Below w.heap.size w w' := by
  have HV2 := Lib.hid hv2
  have HV := Lib.hid hv
  have OKC := Lib.hid (csOk_of hv.2)
  have OKZ := Lib.hid (csOk_of hv2.2)
  have zz := StepAwake.g5
  subst hw
  have CODE := Lib.hid (stepCode_ok (way := 2) hf (by decide))
  have FIT := Lib.hid hf
  obtain ⟨n2, n65, hm, hi0, him⟩ := fit_ok hf
  have ND := Lib.hid (newtonCode_ok n2 n65)
  obtain ⟨k, rfl⟩ := Int.eq_ofNat_of_zero_le hi0
  have HK := Lib.hid (show k < ls.length by omega)
  have nk : (k : Int) < (ls.length : Int) := by omega
  clear n2 n65 hm hi0 him hf
  clear hv hv2
  go_enter Tryz.func10, Tryz.ntmps10
  go_wp2_with fail
  refine (StepAwake.awake_any w).mono ?_
  intro e w1 hh
  rcases hh with ⟨rfl, hb⟩
  have B1 := Lib.hid hb
  clear hb
  go_wp2_with fail
  refine (cs_sl bs v w1 (HV.out.1.below B1.out) HV.out.2).mono ?_
  intro e w2 hh
  rcases hh with ⟨u, rfl, hs, hb⟩
  have B2 := Lib.hid (B1.out.trans (hb.mono B1.out.size))
  have S2 := Lib.hid hs
  clear hb hs
  go_wp2_with fail
  refine (cs_sl ls v2 w2 (HV2.out.1.below B2.out) HV2.out.2).mono ?_
  intro e w3 hh
  rcases hh with ⟨u2, rfl, hs, hb⟩
  have B3 := Lib.hid (B2.out.trans (hb.mono B2.out.size))
  have S3 := Lib.hid (S2.out.below hb)
  have T3 := Lib.hid hs
  clear hb hs
  go_wp2_with fail
  refine (step_any 2 bs ls (k : Nat) u u2 w3 S3.out T3.out OKC.out OKZ.out).mono ?_
  intro e w4 hh
  rcases hh with ⟨x, rfl, h0, h1, hb⟩
  have X4 := Lib.hid (And.intro h0 h1)
  have B4 := Lib.hid (B3.out.trans (hb.mono B3.out.size))
  have S4 := Lib.hid (S3.out.below hb)
  have T4 := Lib.hid (T3.out.below hb)
  clear hb h0 h1
  rw [CODE.out]
  go_wp2_with fail
  refine (weier_any bs ls (k : Nat) u u2 w4 S4.out T4.out OKC.out OKZ.out).mono ?_
  intro e w5 hh
  rcases hh with ⟨y, rfl, h0, h1, hb⟩
  have Y4 := Lib.hid (And.intro h0 h1)
  have B5 := Lib.hid (B4.out.trans (hb.mono B4.out.size))
  have S5 := Lib.hid (S4.out.below hb)
  have T5 := Lib.hid (T4.out.below hb)
  clear hb h0 h1
  rw [FIT.out]
  go_wp2_with fail
  refine (aberth_any bs ls (k : Nat) u u2 w5 S5.out T5.out OKC.out OKZ.out).mono ?_
  intro e w6 hh
  rcases hh with ⟨t, rfl, h0, h1, hb⟩
  have Z4 := Lib.hid (And.intro h0 h1)
  have B6 := Lib.hid (B5.out.trans (hb.mono B5.out.size))
  have S6 := Lib.hid (S5.out.below hb)
  have T6 := Lib.hid (T5.out.below hb)
  clear hb h0 h1
  rw [FIT.out]
  go_wp2_with fail
  refine (num_any _ _).mono ?_
  rintro e w' ⟨rfl, rfl⟩
  go_wp2_with fail
  refine (num_any _ _).mono ?_
  rintro e w' ⟨rfl, rfl⟩
  go_wp2_with fail
  refine (num_any _ _).mono ?_
  rintro e w' ⟨rfl, rfl⟩
  obtain ⟨b', off', cap', rfl, hcap, hc⟩ : ∃ b off cap, u2 = .slice (some ⟨b, off, none⟩) ls.length cap ∧ ls.length ≤ cap ∧ Cells w6 b off ls := by
    obtain ⟨a, cap, rfl, h⟩ := slShape T6.out
    obtain ⟨b, off, rfl, h1, h2⟩ := h (by have := HK.out; omega)
    exact ⟨b, off, cap, rfl, h1, h2⟩
  have NE := Lib.hid (fun z hz => ND.out ▸ newton_any bs z u w6 S6.out OKC.out hz)
  have nc' : (ls.length : Int) ≤ (cap' : Int) := by omega
  have CK := Lib.hid (hc k HK.out)
  obtain ⟨zk, hzk⟩ : ∃ z, nth ls k = z := ⟨_, rfl⟩
  have LZ := Lib.hid (nthOk OKZ.out k)
  rw [hzk] at CK LZ
  have ZK := Lib.hid hzk
  obtain ⟨a1, a2⟩ := zk
  have hck : w6.cell? ⟨b', off' + k, none⟩ = some (.complex .f64 a1 a2) := CK.out
  clear hcap hc hzk
  go_wp2_with fail
  refine (NE.out (a1, a2) LZ.out).mono ?_
  intro e w7 hh
  rcases hh with ⟨n, rfl, h0, h1, hb⟩
  have N4 := Lib.hid (h0 rfl)
  have B7 := Lib.hid (B6.out.trans (hb.mono B6.out.size))
  clear hb h0 h1 hck
  go_wp2_with fail
  refine (num_any _ _).mono ?_
  rintro e w' ⟨rfl, rfl⟩
  go_wp2_with fail
  refine (sameC_any _ _ _ _ _).mono ?_
  rintro e w' ⟨rfl, rfl⟩
  have hs : sameCB x.1 x.2 y.1 y.2 = true := by
    exact ((X4.out.1 CODE.out).at2.same (Y4.out.1 FIT.out)).b
  rw [hs]
  go_wp2_with fail
  go_ret
  exact ⟨rfl, B7.out⟩
set_option maxRecDepth 100000 in
set_option maxHeartbeats 8000000 in
theorem stepSame_three (bs ls : List Cpx) (v v2 : Value) (i way : Int) (w : World) (hv : BitsAt w v bs ∧ BitsOk bs) (hv2 : BitsAt w v2 ls ∧ BitsOk ls) (hf : fitCode bs.length ls.length i = 0) (hw : way = 3) :
    Calls Tryz.prog 10 #[v, v2, .int .i64 i, .int .i64 way] w fun e w' => e = .returned (.bool true) ∧ Below w.heap.size w w' := by
  have HV2 := Lib.hid hv2
  have HV := Lib.hid hv
  have OKC := Lib.hid (csOk_of hv.2)
  have OKZ := Lib.hid (csOk_of hv2.2)
  have zz := StepAwake.g5
  subst hw
  have CODE := Lib.hid (stepCode_ok (way := 3) hf (by decide))
  have FIT := Lib.hid hf
  obtain ⟨n2, n65, hm, hi0, him⟩ := fit_ok hf
  have ND := Lib.hid (newtonCode_ok n2 n65)
  obtain ⟨k, rfl⟩ := Int.eq_ofNat_of_zero_le hi0
  have HK := Lib.hid (show k < ls.length by omega)
  have nk : (k : Int) < (ls.length : Int) := by omega
  clear n2 n65 hm hi0 him hf
  clear hv hv2
  go_enter Tryz.func10, Tryz.ntmps10
  go_wp2_with fail
  refine (StepAwake.awake_any w).mono ?_
  intro e w1 hh
  rcases hh with ⟨rfl, hb⟩
  have B1 := Lib.hid hb
  clear hb
  go_wp2_with fail
  refine (cs_sl bs v w1 (HV.out.1.below B1.out) HV.out.2).mono ?_
  intro e w2 hh
  rcases hh with ⟨u, rfl, hs, hb⟩
  have B2 := Lib.hid (B1.out.trans (hb.mono B1.out.size))
  have S2 := Lib.hid hs
  clear hb hs
  go_wp2_with fail
  refine (cs_sl ls v2 w2 (HV2.out.1.below B2.out) HV2.out.2).mono ?_
  intro e w3 hh
  rcases hh with ⟨u2, rfl, hs, hb⟩
  have B3 := Lib.hid (B2.out.trans (hb.mono B2.out.size))
  have S3 := Lib.hid (S2.out.below hb)
  have T3 := Lib.hid hs
  clear hb hs
  go_wp2_with fail
  refine (step_any 3 bs ls (k : Nat) u u2 w3 S3.out T3.out OKC.out OKZ.out).mono ?_
  intro e w4 hh
  rcases hh with ⟨x, rfl, h0, h1, hb⟩
  have X4 := Lib.hid (And.intro h0 h1)
  have B4 := Lib.hid (B3.out.trans (hb.mono B3.out.size))
  have S4 := Lib.hid (S3.out.below hb)
  have T4 := Lib.hid (T3.out.below hb)
  clear hb h0 h1
  rw [CODE.out]
  go_wp2_with fail
  refine (weier_any bs ls (k : Nat) u u2 w4 S4.out T4.out OKC.out OKZ.out).mono ?_
  intro e w5 hh
  rcases hh with ⟨y, rfl, h0, h1, hb⟩
  have Y4 := Lib.hid (And.intro h0 h1)
  have B5 := Lib.hid (B4.out.trans (hb.mono B4.out.size))
  have S5 := Lib.hid (S4.out.below hb)
  have T5 := Lib.hid (T4.out.below hb)
  clear hb h0 h1
  rw [FIT.out]
  go_wp2_with fail
  refine (aberth_any bs ls (k : Nat) u u2 w5 S5.out T5.out OKC.out OKZ.out).mono ?_
  intro e w6 hh
  rcases hh with ⟨t, rfl, h0, h1, hb⟩
  have Z4 := Lib.hid (And.intro h0 h1)
  have B6 := Lib.hid (B5.out.trans (hb.mono B5.out.size))
  have S6 := Lib.hid (S5.out.below hb)
  have T6 := Lib.hid (T5.out.below hb)
  clear hb h0 h1
  rw [FIT.out]
  go_wp2_with fail
  refine (num_any _ _).mono ?_
  rintro e w' ⟨rfl, rfl⟩
  go_wp2_with fail
  refine (num_any _ _).mono ?_
  rintro e w' ⟨rfl, rfl⟩
  go_wp2_with fail
  refine (num_any _ _).mono ?_
  rintro e w' ⟨rfl, rfl⟩
  obtain ⟨b', off', cap', rfl, hcap, hc⟩ : ∃ b off cap, u2 = .slice (some ⟨b, off, none⟩) ls.length cap ∧ ls.length ≤ cap ∧ Cells w6 b off ls := by
    obtain ⟨a, cap, rfl, h⟩ := slShape T6.out
    obtain ⟨b, off, rfl, h1, h2⟩ := h (by have := HK.out; omega)
    exact ⟨b, off, cap, rfl, h1, h2⟩
  have NE := Lib.hid (fun z hz => ND.out ▸ newton_any bs z u w6 S6.out OKC.out hz)
  have nc' : (ls.length : Int) ≤ (cap' : Int) := by omega
  have CK := Lib.hid (hc k HK.out)
  obtain ⟨zk, hzk⟩ : ∃ z, nth ls k = z := ⟨_, rfl⟩
  have LZ := Lib.hid (nthOk OKZ.out k)
  rw [hzk] at CK LZ
  have ZK := Lib.hid hzk
  obtain ⟨a1, a2⟩ := zk
  have hck : w6.cell? ⟨b', off' + k, none⟩ = some (.complex .f64 a1 a2) := CK.out
  clear hcap hc hzk
  go_wp2_with fail
  refine (NE.out (a1, a2) LZ.out).mono ?_
  intro e w7 hh
  rcases hh with ⟨n, rfl, h0, h1, hb⟩
  have N4 := Lib.hid (h0 rfl)
  have B7 := Lib.hid (B6.out.trans (hb.mono B6.out.size))
  clear hb h0 h1 hck
  go_wp2_with fail
  refine (num_any _ _).mono ?_
  rintro e w' ⟨rfl, rfl⟩
  go_wp2_with fail
  refine (sameC_any _ _ _ _ _).mono ?_
  rintro e w' ⟨rfl, rfl⟩
  have hs : sameCB x.1 x.2 t.1 t.2 = true := by
    exact ((X4.out.1 CODE.out).at3.same (Z4.out.1 FIT.out)).b
  rw [hs]
  go_wp2_with fail
  go_ret
  exact ⟨rfl, B7.out⟩
set_option maxRecDepth 100000 in
set_option maxHeartbeats 8000000 in
theorem stepSame_none (bs ls : List Cpx) (v v2 : Value) (i way : Int) (w : World) (hv : BitsAt w v bs ∧ BitsOk bs) (hv2 : BitsAt w v2 ls ∧ BitsOk ls) (hf : fitCode bs.length ls.length i = 0) (hw : ¬ (way = 1 ∨ way = 2 ∨ way = 3)) :
    Calls Tryz.prog 10 #[v, v2, .int .i64 i, .int .i64 way] w fun e w' => e = .returned (.bool true) ∧ Below w.heap.size w w' := by
  have HV2 := Lib.hid hv2
  have HV := Lib.hid hv
  have OKC := Lib.hid (csOk_of hv.2)
  have OKZ := Lib.hid (csOk_of hv2.2)
  have zz := StepAwake.g5
  have CODE := Lib.hid (stepCode_way hf hw)
  have x1 : (way == 1) = false := beq_eq_false_iff_ne.2 (by omega)
  have x2 : (way == 2) = false := beq_eq_false_iff_ne.2 (by omega)
  have x3 : (way == 3) = false := beq_eq_false_iff_ne.2 (by omega)
  clear hw
  have FIT := Lib.hid hf
  obtain ⟨n2, n65, hm, hi0, him⟩ := fit_ok hf
  have ND := Lib.hid (newtonCode_ok n2 n65)
  obtain ⟨k, rfl⟩ := Int.eq_ofNat_of_zero_le hi0
  have HK := Lib.hid (show k < ls.length by omega)
  have nk : (k : Int) < (ls.length : Int) := by omega
  clear n2 n65 hm hi0 him hf
  clear hv hv2
  go_enter Tryz.func10, Tryz.ntmps10
  go_wp2_with fail
  refine (StepAwake.awake_any w).mono ?_
  intro e w1 hh
  rcases hh with ⟨rfl, hb⟩
  have B1 := Lib.hid hb
  clear hb
  go_wp2_with fail
  refine (cs_sl bs v w1 (HV.out.1.below B1.out) HV.out.2).mono ?_
  intro e w2 hh
  rcases hh with ⟨u, rfl, hs, hb⟩
  have B2 := Lib.hid (B1.out.trans (hb.mono B1.out.size))
  have S2 := Lib.hid hs
  clear hb hs
  go_wp2_with fail
  refine (cs_sl ls v2 w2 (HV2.out.1.below B2.out) HV2.out.2).mono ?_
  intro e w3 hh
  rcases hh with ⟨u2, rfl, hs, hb⟩
  have B3 := Lib.hid (B2.out.trans (hb.mono B2.out.size))
  have S3 := Lib.hid (S2.out.below hb)
  have T3 := Lib.hid hs
  clear hb hs
  go_wp2_with fail
  refine (step_any way bs ls (k : Nat) u u2 w3 S3.out T3.out OKC.out OKZ.out).mono ?_
  intro e w4 hh
  rcases hh with ⟨x, rfl, h0, h1, hb⟩
  have X4 := Lib.hid (And.intro h0 h1)
  have B4 := Lib.hid (B3.out.trans (hb.mono B3.out.size))
  have S4 := Lib.hid (S3.out.below hb)
  have T4 := Lib.hid (T3.out.below hb)
  clear hb h0 h1
  rw [CODE.out]
  go_wp2_with fail
  refine (weier_any bs ls (k : Nat) u u2 w4 S4.out T4.out OKC.out OKZ.out).mono ?_
  intro e w5 hh
  rcases hh with ⟨y, rfl, h0, h1, hb⟩
  have Y4 := Lib.hid (And.intro h0 h1)
  have B5 := Lib.hid (B4.out.trans (hb.mono B4.out.size))
  have S5 := Lib.hid (S4.out.below hb)
  have T5 := Lib.hid (T4.out.below hb)
  clear hb h0 h1
  rw [FIT.out]
  go_wp2_with fail
  refine (aberth_any bs ls (k : Nat) u u2 w5 S5.out T5.out OKC.out OKZ.out).mono ?_
  intro e w6 hh
  rcases hh with ⟨t, rfl, h0, h1, hb⟩
  have Z4 := Lib.hid (And.intro h0 h1)
  have B6 := Lib.hid (B5.out.trans (hb.mono B5.out.size))
  have S6 := Lib.hid (S5.out.below hb)
  have T6 := Lib.hid (T5.out.below hb)
  clear hb h0 h1
  rw [FIT.out]
  go_wp2_with fail
  refine (num_any _ _).mono ?_
  rintro e w' ⟨rfl, rfl⟩
  go_wp2_with fail
  refine (num_any _ _).mono ?_
  rintro e w' ⟨rfl, rfl⟩
  go_wp2_with fail
  refine (num_any _ _).mono ?_
  rintro e w' ⟨rfl, rfl⟩
  obtain ⟨b', off', cap', rfl, hcap, hc⟩ : ∃ b off cap, u2 = .slice (some ⟨b, off, none⟩) ls.length cap ∧ ls.length ≤ cap ∧ Cells w6 b off ls := by
    obtain ⟨a, cap, rfl, h⟩ := slShape T6.out
    obtain ⟨b, off, rfl, h1, h2⟩ := h (by have := HK.out; omega)
    exact ⟨b, off, cap, rfl, h1, h2⟩
  have NE := Lib.hid (fun z hz => ND.out ▸ newton_any bs z u w6 S6.out OKC.out hz)
  have nc' : (ls.length : Int) ≤ (cap' : Int) := by omega
  have CK := Lib.hid (hc k HK.out)
  obtain ⟨zk, hzk⟩ : ∃ z, nth ls k = z := ⟨_, rfl⟩
  have LZ := Lib.hid (nthOk OKZ.out k)
  rw [hzk] at CK LZ
  have ZK := Lib.hid hzk
  obtain ⟨a1, a2⟩ := zk
  have hck : w6.cell? ⟨b', off' + k, none⟩ = some (.complex .f64 a1 a2) := CK.out
  clear hcap hc hzk
  go_wp2_with fail
  refine (NE.out (a1, a2) LZ.out).mono ?_
  intro e w7 hh
  rcases hh with ⟨n, rfl, h0, h1, hb⟩
  have N4 := Lib.hid (h0 rfl)
  have B7 := Lib.hid (B6.out.trans (hb.mono B6.out.size))
  clear hb h0 h1 hck
  obtain rfl : x = (0, 0) := X4.out.2 (by rw [CODE.out]; decide)
  go_wp2_with fail
  refine (num_any _ _).mono ?_
  rintro e w' ⟨rfl, rfl⟩
  go_wp2_with fail
  go_ret
  exact ⟨rfl, B7.out⟩
theorem stepSame_walk (bs : List Cpx) (v : Value) (ls : List Cpx) (v2 : Value) (i way : Int) (w : World) (hv : BitsAt w v bs ∧ BitsOk bs) (hv2 : BitsAt w v2 ls ∧ BitsOk ls) :
    Calls Tryz.prog 10 #[v, v2, .int .i64 i, .int .i64 way] w fun e w' => e = .returned (.bool true) ∧ Below w.heap.size w w' := by
  by_cases hf : fitCode bs.length ls.length i = 0
  · by_cases h1 : way = 1
    · exact stepSame_one bs ls v v2 i way w hv hv2 hf h1
    by_cases h2 : way = 2
    · exact stepSame_two bs ls v v2 i way w hv hv2 hf h2
    by_cases h3 : way = 3
    · exact stepSame_three bs ls v v2 i way w hv hv2 hf h3
    exact stepSame_none bs ls v v2 i way w hv hv2 hf (by omega)
  · exact stepSame_bad bs ls v v2 i way w hv hv2 hf
end Go.Proofs.YtokmommlabdcdaaGreat
