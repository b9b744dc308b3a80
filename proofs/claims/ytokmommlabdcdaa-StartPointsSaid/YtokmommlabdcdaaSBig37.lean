/- Contract of surdbig's Rat.SetFloat64, of a finite number. (Printed by wip/gen37.py.) Contract of surdbig's Rat.scaled. (Printed by wip/gen38.py.) -/
import Derived.Test.YtokmommlabdcdaaSBig36
import Derived.Test.YtokmommlabdcdaaSCpx
import Derived.OwnWalk
set_option linter.unusedVariables false
set_option linter.unusedSimpArgs false
set_option linter.unusedVariables false
set_option linter.unusedSimpArgs false
namespace Go.Proofs.Ytokmommlabdcdaa
open Wd Fl Go.RowKit
theorem u64_and_mod {x k : Nat} (hx : x < 2 ^ 64) (hk : k ≤ 63) : bits .and .u64 (x : Int) ((2 ^ k - 1 : Nat) : Int) = ((x % 2 ^ k : Nat) : Int) := by
  have hp : 2 ^ k ≤ 2 ^ 63 := Nat.pow_le_pow_right (by decide) hk
  have h1 := Nat.two_pow_pos k
  have key : (BitVec.ofInt 64 (x : Int) &&& BitVec.ofInt 64 ((2 ^ k - 1 : Nat) : Int)).toNat = x % 2 ^ k := by
    rw [BitVec.toNat_and, BitVec.ofInt_natCast, BitVec.ofInt_natCast, BitVec.toNat_ofNat, BitVec.toNat_ofNat, Nat.mod_eq_of_lt hx, Nat.mod_eq_of_lt (by omega), Nat.and_two_pow_sub_one_eq_mod]
  show IntKind.u64.wrap ((BitVec.ofInt 64 (x : Int) &&& BitVec.ofInt 64 ((2 ^ k - 1 : Nat) : Int)).toNat : Nat) = _
  have hm : x % 2 ^ k ≤ x := Nat.mod_le _ _
  rw [key, u64w _ (by omega) (by omega)]
theorem u64_or_top {m : Nat} (hm : m < 2 ^ 52) : bits .or .u64 (m : Int) 4503599627370496 = ((2 ^ 52 + m : Nat) : Int) := by
  have h := u64_or_nat m 4503599627370496 (by omega) (by decide)
  rw [show ((4503599627370496 : Nat) : Int) = 4503599627370496 from rfl] at h
  rw [h]
  congr 1
  have := Nat.two_pow_add_eq_or_of_lt hm 1
  rw [Nat.mul_one] at this
  rw [this, Nat.or_comm]
theorem exp_field {x : Nat} (hx : x < 2 ^ 64) : bits .and .u64 ((x : Int) / 4503599627370496) 2047 = ((rg x / 2 ^ 52 : Nat) : Int) := by
  have h := u64_and_mod (x := x / 2 ^ 52) (k := 11) (by omega) (by decide)
  rw [show ((2 ^ 11 - 1 : Nat) : Int) = 2047 from rfl, Int.natCast_ediv] at h
  rw [show ((2 ^ 52 : Nat) : Int) = 4503599627370496 from rfl] at h
  rw [h]
  congr 1
  unfold rg
  omega
theorem man_field {x : Nat} (hx : x < 2 ^ 64) : bits .and .u64 (x : Int) 4503599627370495 = ((x % 2 ^ 52 : Nat) : Int) :=
  u64_and_mod (x := x) (k := 52) hx (by decide)
theorem sign_bit {x : Nat} (hx : x < 2 ^ 64) : ((x : Int) / 9223372036854775808 == 1) = sg x := by
  unfold sg
  rcases Nat.lt_or_ge x (2 ^ 63) with h | h
  · rw [show (x : Int) / 9223372036854775808 = 0 by omega, show x / 2 ^ 63 % 2 = 0 by omega]; rfl
  · rw [show (x : Int) / 9223372036854775808 = 1 by omega, show x / 2 ^ 63 % 2 = 1 by omega]; rfl
theorem smant_neg {x : Nat} (h : sg x = true) : -(mant x : Int) = smant x := by unfold smant; rw [h]; rfl
theorem smant_pos {x : Nat} (h : sg x = false) : (mant x : Int) = smant x := by unfold smant; rw [h]; rfl
theorem bl_smant (x : Nat) : bl (smant x) ≤ 53 := by
  unfold bl smant
  have := blen_le_of (mant_lt x)
  split
  · rw [Int.natAbs_neg, Int.natAbs_natCast]; exact this
  · rw [Int.natAbs_natCast]; exact this
set_option maxRecDepth 100000 in
set_option maxHeartbeats 8000000 in
theorem setFloat_den_neg_frac (bz x : Nat) (w : World) (hz : ZAt TW w bz 0 4) (hx : x < 2 ^ 64) (hf : fin x) (he : rg x / 2 ^ 52 = 0) (hs : sg x = true) (j : Nat) (hp : plc x + j = 1075) (hj0 : 0 < j) :
    Calls Try.prog 75 #[.pointer (some ⟨bz, 0, none⟩), .float .f64 x] w (RatRet bz (fv x) w) := by
  have h3 := f64bits_run
  have a1 := exp_field hx
  have a2 := man_field hx
  have a3 := sign_bit hx
  rw [hs] at a3
  have hl := plc_le hf
  have hm := mant_lt x
  have hbs := bl_smant x
  have hv := fv_low hp
  have hmm : mant x = x % 2 ^ 52 := by unfold mant; rw [if_pos he]
  have hpp : plc x = 1 := by unfold plc; rw [if_pos he]
  have eE : ((rg x / 2 ^ 52 : Nat) : Int) = 0 := by rw [he]; rfl
  rw [eE] at a1
  rw [← hmm] at a2
  have hsm := smant_neg hs
  have HZ := Lib.hid hz
  have LZ := Lib.hid hz.lt
  have HSM := Lib.hid hsm
  have HV := Lib.hid hv
  have HBS := Lib.hid hbs
  have HM := Lib.hid hm
  have xI : (x : Int) < 18446744073709551616 := by omega
  have HBM : Hid (bl ((mant x : Nat) : Int) ≤ 53) := Lib.hid (by unfold bl; rw [Int.natAbs_natCast]; exact blen_le_of hm)
  obtain ⟨r, hr⟩ : ∃ r, fv x = r := ⟨_, rfl⟩
  rw [hr] at HV ⊢
  generalize plc x = P at *
  generalize mant x = M at *
  generalize smant x = S at *
  have mI : (M : Int) < 9007199254740992 := by omega
  have hj : j ≤ 2000 := by omega
  have HJ := Lib.hid hj
  have e5 := True.intro
  have HJ0 := Lib.hid (show (1074 : Int) = (j : Int) by omega)
  clear hj0 hz hx hf he hs hp hl hm hbs hv hmm hpp hsm hr hj e5 eE
  go_enter Try.func75, Try.ntmps75
  go_wp2_with fail
  refine (setUint64_any w.heap.size 0 M _ (znew w) (by have := HM.out; omega)).mono ?_
  rintro e w1 ⟨rfl, hi, hr⟩
  have B1 := Lib.hid (newW hr)
  have P1 := Lib.hid hi
  have LP := Lib.hid hi.lt
  clear hi hr
  go_wp2_with fail
  with_reducible refine (ineg_any w.heap.size 0 w.heap.size 0 (M : Int) w1 P1.out.z P1.out (Nat.le_trans HBM.out (by decide))).mono ?_
  rintro e w2 ⟨rfl, hi, hr⟩
  have B2 := Lib.hid (bwr B1.out hr (Nat.le_refl _))
  have P2 := Lib.hid hi
  clear hi hr
  go_wp2_with fail
  have PS := Lib.hid (int_eq HSM.out.symm P2.out)
  have BB := B2
  refine (newInt_any 1 (w2.alloc (.cells #[.bool false, .slice none 0 0] 45)) (by decide) (by decide)).mono ?_
  rintro e w3 ⟨bn, rfl, hbn, hi, hb⟩
  have B3 := Lib.hid ((bal BB.out).trans (hb.mono (bal BB.out).size))
  have ON := Lib.hid hi
  have Q0 := Lib.hid ((znew w2).below hb)
  have P3 := Lib.hid ((PS.out.below (bnew _ _)).below hb)
  have LQ := Lib.hid (show w.heap.size ≤ w2.heap.size from BB.out.size)
  have LPQ := Lib.hid (show w.heap.size ≠ w2.heap.size from Nat.ne_of_lt PS.out.lt)
  clear hi hb hbn
  go_wp2_with fail
  rw [HJ0.out]
  refine (lsh_any w2.heap.size 0 bn 0 1 j w3 Q0.out ON.out (by decide) (by have := HJ.out; omega)).mono ?_
  rintro e w4 ⟨rfl, hi, hr⟩
  rw [Int.one_mul] at hi
  have B4 := Lib.hid (bwr B3.out hr LQ.out)
  have Q4 := Lib.hid hi
  have P4 := Lib.hid (P3.out.wr hr Q0.out (.inl LPQ.out))
  clear hi hr
  go_wp2_with fail
  with_reducible refine (setFrac_any bz w.heap.size 0 w2.heap.size 0 S (2 ^ j) w4 (HZ.out.below B4.out) P4.out Q4.out (Nat.two_pow_pos j) (Nat.le_trans HBS.out (by decide)) (Nat.le_trans (bl_pow_le HJ.out) (by decide)) (sm_pow _ _)).mono ?_
  rintro e w5 ⟨rfl, hra, hr⟩
  have R := Lib.hid hra
  have RW := Lib.hid ((Wr.of_below bz 0 4 B4.out).trans hr)
  clear hra hr
  go_wp2_with fail
  go_ret
  exact ⟨rfl, by rw [HV.out]; exact R.out, RW.out⟩
set_option maxRecDepth 100000 in
set_option maxHeartbeats 8000000 in
theorem setFloat_den_pos_frac (bz x : Nat) (w : World) (hz : ZAt TW w bz 0 4) (hx : x < 2 ^ 64) (hf : fin x) (he : rg x / 2 ^ 52 = 0) (hs : sg x = false) (j : Nat) (hp : plc x + j = 1075) (hj0 : 0 < j) :
    Calls Try.prog 75 #[.pointer (some ⟨bz, 0, none⟩), .float .f64 x] w (RatRet bz (fv x) w) := by
  have h3 := f64bits_run
  have a1 := exp_field hx
  have a2 := man_field hx
  have a3 := sign_bit hx
  rw [hs] at a3
  have hl := plc_le hf
  have hm := mant_lt x
  have hbs := bl_smant x
  have hv := fv_low hp
  have hmm : mant x = x % 2 ^ 52 := by unfold mant; rw [if_pos he]
  have hpp : plc x = 1 := by unfold plc; rw [if_pos he]
  have eE : ((rg x / 2 ^ 52 : Nat) : Int) = 0 := by rw [he]; rfl
  rw [eE] at a1
  rw [← hmm] at a2
  have hsm := smant_pos hs
  have HZ := Lib.hid hz
  have LZ := Lib.hid hz.lt
  have HSM := Lib.hid hsm
  have HV := Lib.hid hv
  have HBS := Lib.hid hbs
  have HM := Lib.hid hm
  have xI : (x : Int) < 18446744073709551616 := by omega
  have HBM : Hid (bl ((mant x : Nat) : Int) ≤ 53) := Lib.hid (by unfold bl; rw [Int.natAbs_natCast]; exact blen_le_of hm)
  obtain ⟨r, hr⟩ : ∃ r, fv x = r := ⟨_, rfl⟩
  rw [hr] at HV ⊢
  generalize plc x = P at *
  generalize mant x = M at *
  generalize smant x = S at *
  have mI : (M : Int) < 9007199254740992 := by omega
  have hj : j ≤ 2000 := by omega
  have HJ := Lib.hid hj
  have e5 := True.intro
  have HJ0 := Lib.hid (show (1074 : Int) = (j : Int) by omega)
  clear hj0 hz hx hf he hs hp hl hm hbs hv hmm hpp hsm hr hj e5 eE
  go_enter Try.func75, Try.ntmps75
  go_wp2_with fail
  refine (setUint64_any w.heap.size 0 M _ (znew w) (by have := HM.out; omega)).mono ?_
  rintro e w1 ⟨rfl, hi, hr⟩
  have B1 := Lib.hid (newW hr)
  have P1 := Lib.hid hi
  have LP := Lib.hid hi.lt
  clear hi hr
  go_wp2_with fail
  have PS := Lib.hid (int_eq HSM.out.symm P1.out)
  have BB := B1
  refine (newInt_any 1 (w1.alloc (.cells #[.bool false, .slice none 0 0] 45)) (by decide) (by decide)).mono ?_
  rintro e w3 ⟨bn, rfl, hbn, hi, hb⟩
  have B3 := Lib.hid ((bal BB.out).trans (hb.mono (bal BB.out).size))
  have ON := Lib.hid hi
  have Q0 := Lib.hid ((znew w1).below hb)
  have P3 := Lib.hid ((PS.out.below (bnew _ _)).below hb)
  have LQ := Lib.hid (show w.heap.size ≤ w1.heap.size from BB.out.size)
  have LPQ := Lib.hid (show w.heap.size ≠ w1.heap.size from Nat.ne_of_lt PS.out.lt)
  clear hi hb hbn
  go_wp2_with fail
  rw [HJ0.out]
  refine (lsh_any w1.heap.size 0 bn 0 1 j w3 Q0.out ON.out (by decide) (by have := HJ.out; omega)).mono ?_
  rintro e w4 ⟨rfl, hi, hr⟩
  rw [Int.one_mul] at hi
  have B4 := Lib.hid (bwr B3.out hr LQ.out)
  have Q4 := Lib.hid hi
  have P4 := Lib.hid (P3.out.wr hr Q0.out (.inl LPQ.out))
  clear hi hr
  go_wp2_with fail
  with_reducible refine (setFrac_any bz w.heap.size 0 w1.heap.size 0 S (2 ^ j) w4 (HZ.out.below B4.out) P4.out Q4.out (Nat.two_pow_pos j) (Nat.le_trans HBS.out (by decide)) (Nat.le_trans (bl_pow_le HJ.out) (by decide)) (sm_pow _ _)).mono ?_
  rintro e w5 ⟨rfl, hra, hr⟩
  have R := Lib.hid hra
  have RW := Lib.hid ((Wr.of_below bz 0 4 B4.out).trans hr)
  clear hra hr
  go_wp2_with fail
  go_ret
  exact ⟨rfl, by rw [HV.out]; exact R.out, RW.out⟩
set_option maxRecDepth 100000 in
set_option maxHeartbeats 8000000 in
theorem setFloat_nrm_neg_int (bz x : Nat) (w : World) (hz : ZAt TW w bz 0 4) (hx : x < 2 ^ 64) (hf : fin x) (he : rg x / 2 ^ 52 ≠ 0) (hs : sg x = true) (j : Nat) (hp : plc x = 1075 + j) :
    Calls Try.prog 75 #[.pointer (some ⟨bz, 0, none⟩), .float .f64 x] w (RatRet bz (fv x) w) := by
  have h3 := f64bits_run
  have a1 := exp_field hx
  have a2 := man_field hx
  have a3 := sign_bit hx
  rw [hs] at a3
  have hl := plc_le hf
  have hm := mant_lt x
  have hbs := bl_smant x
  have hv := fv_high hp
  have hmm : mant x = 2 ^ 52 + x % 2 ^ 52 := by unfold mant; rw [if_neg he]
  have hpp : plc x = rg x / 2 ^ 52 := by unfold plc; rw [if_neg he]
  have a4 := u64_or_top (m := x % 2 ^ 52) (by omega)
  rw [← hmm] at a4
  rw [← hpp] at a1
  have hm2 : x % 2 ^ 52 < 2 ^ 52 := by omega
  generalize x % 2 ^ 52 = m at *
  have q4 : (m : Int) < 4503599627370496 := by omega
  have q1 : ((plc x : Nat) : Int) ≤ 2046 := by omega
  have q2 : ((((plc x : Nat) : Int)) == 2047) = false := by rw [beq_eq_false_iff_ne]; omega
  have q3 : ((((plc x : Nat) : Int)) == 0) = false := by rw [beq_eq_false_iff_ne]; omega
  have hsm := smant_neg hs
  have HZ := Lib.hid hz
  have LZ := Lib.hid hz.lt
  have HSM := Lib.hid hsm
  have HV := Lib.hid hv
  have HBS := Lib.hid hbs
  have HM := Lib.hid hm
  have xI : (x : Int) < 18446744073709551616 := by omega
  have HBM : Hid (bl ((mant x : Nat) : Int) ≤ 53) := Lib.hid (by unfold bl; rw [Int.natAbs_natCast]; exact blen_le_of hm)
  obtain ⟨r, hr⟩ : ∃ r, fv x = r := ⟨_, rfl⟩
  rw [hr] at HV ⊢
  generalize plc x = P at *
  generalize mant x = M at *
  generalize smant x = S at *
  have mI : (M : Int) < 9007199254740992 := by omega
  have hj : j ≤ 2000 := by omega
  have HJ := Lib.hid hj
  have e5 : (P : Int) - 1075 = (j : Int) := by omega
  have e6 : (j : Int) ≤ 2000 := by omega
  have w5 : IntKind.i64.wrap ((P : Int) - 1075) = (j : Int) := by rw [e5]; exact IntWalk.i64_in _ (by omega)
  clear hz hx hf he hs hp hl hm hbs hv hmm hpp hsm hr hj e5 hm2
  go_enter Try.func75, Try.ntmps75
  go_wp2_with fail
  refine (setUint64_any w.heap.size 0 M _ (znew w) (by have := HM.out; omega)).mono ?_
  rintro e w1 ⟨rfl, hi, hr⟩
  have B1 := Lib.hid (newW hr)
  have P1 := Lib.hid hi
  have LP := Lib.hid hi.lt
  clear hi hr
  go_wp2_with fail
  with_reducible refine (ineg_any w.heap.size 0 w.heap.size 0 (M : Int) w1 P1.out.z P1.out (Nat.le_trans HBM.out (by decide))).mono ?_
  rintro e w2 ⟨rfl, hi, hr⟩
  have B2 := Lib.hid (bwr B1.out hr (Nat.le_refl _))
  have P2 := Lib.hid hi
  clear hi hr
  go_wp2_with fail
  have PS := Lib.hid (int_eq HSM.out.symm P2.out)
  have BB := B2
  refine (lsh_any w.heap.size 0 w.heap.size 0 S j w2 PS.out.z PS.out (Nat.le_trans HBS.out (by decide)) (by have := HJ.out; omega)).mono ?_
  rintro e w4 ⟨rfl, hi, hr⟩
  have B4 := Lib.hid (bwr BB.out hr (Nat.le_refl _))
  have P4 := Lib.hid hi
  clear hi hr
  go_wp2_with fail
  with_reducible refine (setInt_any bz w.heap.size 0 (S * ((2 ^ j : Nat) : Int)) w4 (HZ.out.below B4.out) P4.out (by have := bl_mul S ((2 ^ j : Nat) : Int); have := bl_pow_le (Nat.le_refl j); have := HBS.out; have := HJ.out; omega)).mono ?_
  rintro e w5 ⟨rfl, hra, hr⟩
  have R := Lib.hid hra
  have RW := Lib.hid ((Wr.of_below bz 0 4 B4.out).trans hr)
  clear hra hr
  go_wp2_with fail
  go_ret
  exact ⟨rfl, by rw [HV.out]; exact R.out, RW.out⟩
set_option maxRecDepth 100000 in
set_option maxHeartbeats 8000000 in
theorem setFloat_nrm_neg_frac (bz x : Nat) (w : World) (hz : ZAt TW w bz 0 4) (hx : x < 2 ^ 64) (hf : fin x) (he : rg x / 2 ^ 52 ≠ 0) (hs : sg x = true) (j : Nat) (hp : plc x + j = 1075) (hj0 : 0 < j) :
    Calls Try.prog 75 #[.pointer (some ⟨bz, 0, none⟩), .float .f64 x] w (RatRet bz (fv x) w) := by
  have h3 := f64bits_run
  have a1 := exp_field hx
  have a2 := man_field hx
  have a3 := sign_bit hx
  rw [hs] at a3
  have hl := plc_le hf
  have hm := mant_lt x
  have hbs := bl_smant x
  have hv := fv_low hp
  have hmm : mant x = 2 ^ 52 + x % 2 ^ 52 := by unfold mant; rw [if_neg he]
  have hpp : plc x = rg x / 2 ^ 52 := by unfold plc; rw [if_neg he]
  have a4 := u64_or_top (m := x % 2 ^ 52) (by omega)
  rw [← hmm] at a4
  rw [← hpp] at a1
  have hm2 : x % 2 ^ 52 < 2 ^ 52 := by omega
  generalize x % 2 ^ 52 = m at *
  have q4 : (m : Int) < 4503599627370496 := by omega
  have q1 : ((plc x : Nat) : Int) ≤ 2046 := by omega
  have q2 : ((((plc x : Nat) : Int)) == 2047) = false := by rw [beq_eq_false_iff_ne]; omega
  have q3 : ((((plc x : Nat) : Int)) == 0) = false := by rw [beq_eq_false_iff_ne]; omega
  have hsm := smant_neg hs
  have HZ := Lib.hid hz
  have LZ := Lib.hid hz.lt
  have HSM := Lib.hid hsm
  have HV := Lib.hid hv
  have HBS := Lib.hid hbs
  have HM := Lib.hid hm
  have xI : (x : Int) < 18446744073709551616 := by omega
  have HBM : Hid (bl ((mant x : Nat) : Int) ≤ 53) := Lib.hid (by unfold bl; rw [Int.natAbs_natCast]; exact blen_le_of hm)
  obtain ⟨r, hr⟩ : ∃ r, fv x = r := ⟨_, rfl⟩
  rw [hr] at HV ⊢
  generalize plc x = P at *
  generalize mant x = M at *
  generalize smant x = S at *
  have mI : (M : Int) < 9007199254740992 := by omega
  have hj : j ≤ 2000 := by omega
  have HJ := Lib.hid hj
  obtain ⟨J, hJ⟩ : ∃ J : Int, -(j : Int) = J := ⟨_, rfl⟩
  have e5 : (P : Int) - 1075 = J := by omega
  have e6 : -2000 ≤ J := by omega
  have e7 : J < 0 := by omega
  obtain ⟨J1, hJ1⟩ : ∃ J1 : Int, -J = J1 := ⟨_, rfl⟩
  have HJ0 := Lib.hid (show J1 = (j : Int) by omega)
  have w5 : IntKind.i64.wrap ((P : Int) - 1075) = J := by rw [e5]; exact IntWalk.i64_in _ (by omega)
  have w6 : IntKind.i64.wrap (-J) = J1 := by rw [hJ1]; exact IntWalk.i64_in _ (by omega)
  have w7 : IntKind.u64.wrap J1 = J1 := u64w _ (by omega) (by omega)
  replace e7 : decide ((0 : Int) ≤ J) = false := decide_eq_false (by omega)
  clear hJ hJ1 e6
  clear hj0 hz hx hf he hs hp hl hm hbs hv hmm hpp hsm hr hj e5 hm2
  go_enter Try.func75, Try.ntmps75
  go_wp2_with fail
  refine (setUint64_any w.heap.size 0 M _ (znew w) (by have := HM.out; omega)).mono ?_
  rintro e w1 ⟨rfl, hi, hr⟩
  have B1 := Lib.hid (newW hr)
  have P1 := Lib.hid hi
  have LP := Lib.hid hi.lt
  clear hi hr
  go_wp2_with fail
  with_reducible refine (ineg_any w.heap.size 0 w.heap.size 0 (M : Int) w1 P1.out.z P1.out (Nat.le_trans HBM.out (by decide))).mono ?_
  rintro e w2 ⟨rfl, hi, hr⟩
  have B2 := Lib.hid (bwr B1.out hr (Nat.le_refl _))
  have P2 := Lib.hid hi
  clear hi hr
  go_wp2_with fail
  have PS := Lib.hid (int_eq HSM.out.symm P2.out)
  have BB := B2
  refine (newInt_any 1 (w2.alloc (.cells #[.bool false, .slice none 0 0] 45)) (by decide) (by decide)).mono ?_
  rintro e w3 ⟨bn, rfl, hbn, hi, hb⟩
  have B3 := Lib.hid ((bal BB.out).trans (hb.mono (bal BB.out).size))
  have ON := Lib.hid hi
  have Q0 := Lib.hid ((znew w2).below hb)
  have P3 := Lib.hid ((PS.out.below (bnew _ _)).below hb)
  have LQ := Lib.hid (show w.heap.size ≤ w2.heap.size from BB.out.size)
  have LPQ := Lib.hid (show w.heap.size ≠ w2.heap.size from Nat.ne_of_lt PS.out.lt)
  clear hi hb hbn
  go_wp2_with fail
  rw [HJ0.out]
  refine (lsh_any w2.heap.size 0 bn 0 1 j w3 Q0.out ON.out (by decide) (by have := HJ.out; omega)).mono ?_
  rintro e w4 ⟨rfl, hi, hr⟩
  rw [Int.one_mul] at hi
  have B4 := Lib.hid (bwr B3.out hr LQ.out)
  have Q4 := Lib.hid hi
  have P4 := Lib.hid (P3.out.wr hr Q0.out (.inl LPQ.out))
  clear hi hr
  go_wp2_with fail
  with_reducible refine (setFrac_any bz w.heap.size 0 w2.heap.size 0 S (2 ^ j) w4 (HZ.out.below B4.out) P4.out Q4.out (Nat.two_pow_pos j) (Nat.le_trans HBS.out (by decide)) (Nat.le_trans (bl_pow_le HJ.out) (by decide)) (sm_pow _ _)).mono ?_
  rintro e w5 ⟨rfl, hra, hr⟩
  have R := Lib.hid hra
  have RW := Lib.hid ((Wr.of_below bz 0 4 B4.out).trans hr)
  clear hra hr
  go_wp2_with fail
  go_ret
  exact ⟨rfl, by rw [HV.out]; exact R.out, RW.out⟩
set_option maxRecDepth 100000 in
set_option maxHeartbeats 8000000 in
theorem setFloat_nrm_pos_int (bz x : Nat) (w : World) (hz : ZAt TW w bz 0 4) (hx : x < 2 ^ 64) (hf : fin x) (he : rg x / 2 ^ 52 ≠ 0) (hs : sg x = false) (j : Nat) (hp : plc x = 1075 + j) :
    Calls Try.prog 75 #[.pointer (some ⟨bz, 0, none⟩), .float .f64 x] w (RatRet bz (fv x) w) := by
  have h3 := f64bits_run
  have a1 := exp_field hx
  have a2 := man_field hx
  have a3 := sign_bit hx
  rw [hs] at a3
  have hl := plc_le hf
  have hm := mant_lt x
  have hbs := bl_smant x
  have hv := fv_high hp
  have hmm : mant x = 2 ^ 52 + x % 2 ^ 52 := by unfold mant; rw [if_neg he]
  have hpp : plc x = rg x / 2 ^ 52 := by unfold plc; rw [if_neg he]
  have a4 := u64_or_top (m := x % 2 ^ 52) (by omega)
  rw [← hmm] at a4
  rw [← hpp] at a1
  have hm2 : x % 2 ^ 52 < 2 ^ 52 := by omega
  generalize x % 2 ^ 52 = m at *
  have q4 : (m : Int) < 4503599627370496 := by omega
  have q1 : ((plc x : Nat) : Int) ≤ 2046 := by omega
  have q2 : ((((plc x : Nat) : Int)) == 2047) = false := by rw [beq_eq_false_iff_ne]; omega
  have q3 : ((((plc x : Nat) : Int)) == 0) = false := by rw [beq_eq_false_iff_ne]; omega
  have hsm := smant_pos hs
  have HZ := Lib.hid hz
  have LZ := Lib.hid hz.lt
  have HSM := Lib.hid hsm
  have HV := Lib.hid hv
  have HBS := Lib.hid hbs
  have HM := Lib.hid hm
  have xI : (x : Int) < 18446744073709551616 := by omega
  have HBM : Hid (bl ((mant x : Nat) : Int) ≤ 53) := Lib.hid (by unfold bl; rw [Int.natAbs_natCast]; exact blen_le_of hm)
  obtain ⟨r, hr⟩ : ∃ r, fv x = r := ⟨_, rfl⟩
  rw [hr] at HV ⊢
  generalize plc x = P at *
  generalize mant x = M at *
  generalize smant x = S at *
  have mI : (M : Int) < 9007199254740992 := by omega
  have hj : j ≤ 2000 := by omega
  have HJ := Lib.hid hj
  have e5 : (P : Int) - 1075 = (j : Int) := by omega
  have e6 : (j : Int) ≤ 2000 := by omega
  have w5 : IntKind.i64.wrap ((P : Int) - 1075) = (j : Int) := by rw [e5]; exact IntWalk.i64_in _ (by omega)
  clear hz hx hf he hs hp hl hm hbs hv hmm hpp hsm hr hj e5 hm2
  go_enter Try.func75, Try.ntmps75
  go_wp2_with fail
  refine (setUint64_any w.heap.size 0 M _ (znew w) (by have := HM.out; omega)).mono ?_
  rintro e w1 ⟨rfl, hi, hr⟩
  have B1 := Lib.hid (newW hr)
  have P1 := Lib.hid hi
  have LP := Lib.hid hi.lt
  clear hi hr
  go_wp2_with fail
  have PS := Lib.hid (int_eq HSM.out.symm P1.out)
  have BB := B1
  refine (lsh_any w.heap.size 0 w.heap.size 0 S j w1 PS.out.z PS.out (Nat.le_trans HBS.out (by decide)) (by have := HJ.out; omega)).mono ?_
  rintro e w4 ⟨rfl, hi, hr⟩
  have B4 := Lib.hid (bwr BB.out hr (Nat.le_refl _))
  have P4 := Lib.hid hi
  clear hi hr
  go_wp2_with fail
  with_reducible refine (setInt_any bz w.heap.size 0 (S * ((2 ^ j : Nat) : Int)) w4 (HZ.out.below B4.out) P4.out (by have := bl_mul S ((2 ^ j : Nat) : Int); have := bl_pow_le (Nat.le_refl j); have := HBS.out; have := HJ.out; omega)).mono ?_
  rintro e w5 ⟨rfl, hra, hr⟩
  have R := Lib.hid hra
  have RW := Lib.hid ((Wr.of_below bz 0 4 B4.out).trans hr)
  clear hra hr
  go_wp2_with fail
  go_ret
  exact ⟨rfl, by rw [HV.out]; exact R.out, RW.out⟩
set_option maxRecDepth 100000 in
set_option maxHeartbeats 8000000 in
theorem setFloat_nrm_pos_frac (bz x : Nat) (w : World) (hz : ZAt TW w bz 0 4) (hx : x < 2 ^ 64) (hf : fin x) (he : rg x / 2 ^ 52 ≠ 0) (hs : sg x = false) (j : Nat) (hp : plc x + j = 1075) (hj0 : 0 < j) :
    Calls Try.prog 75 #[.pointer (some ⟨bz, 0, none⟩), .float .f64 x] w (RatRet bz (fv x) w) := by
  have h3 := f64bits_run
  have a1 := exp_field hx
  have a2 := man_field hx
  have a3 := sign_bit hx
  rw [hs] at a3
  have hl := plc_le hf
  have hm := mant_lt x
  have hbs := bl_smant x
  have hv := fv_low hp
  have hmm : mant x = 2 ^ 52 + x % 2 ^ 52 := by unfold mant; rw [if_neg he]
  have hpp : plc x = rg x / 2 ^ 52 := by unfold plc; rw [if_neg he]
  have a4 := u64_or_top (m := x % 2 ^ 52) (by omega)
  rw [← hmm] at a4
  rw [← hpp] at a1
  have hm2 : x % 2 ^ 52 < 2 ^ 52 := by omega
  generalize x % 2 ^ 52 = m at *
  have q4 : (m : Int) < 4503599627370496 := by omega
  have q1 : ((plc x : Nat) : Int) ≤ 2046 := by omega
  have q2 : ((((plc x : Nat) : Int)) == 2047) = false := by rw [beq_eq_false_iff_ne]; omega
  have q3 : ((((plc x : Nat) : Int)) == 0) = false := by rw [beq_eq_false_iff_ne]; omega
  have hsm := smant_pos hs
  have HZ := Lib.hid hz
  have LZ := Lib.hid hz.lt
  have HSM := Lib.hid hsm
  have HV := Lib.hid hv
  have HBS := Lib.hid hbs
  have HM := Lib.hid hm
  have xI : (x : Int) < 18446744073709551616 := by omega
  have HBM : Hid (bl ((mant x : Nat) : Int) ≤ 53) := Lib.hid (by unfold bl; rw [Int.natAbs_natCast]; exact blen_le_of hm)
  obtain ⟨r, hr⟩ : ∃ r, fv x = r := ⟨_, rfl⟩
  rw [hr] at HV ⊢
  generalize plc x = P at *
  generalize mant x = M at *
  generalize smant x = S at *
  have mI : (M : Int) < 9007199254740992 := by omega
  have hj : j ≤ 2000 := by omega
  have HJ := Lib.hid hj
  obtain ⟨J, hJ⟩ : ∃ J : Int, -(j : Int) = J := ⟨_, rfl⟩
  have e5 : (P : Int) - 1075 = J := by omega
  have e6 : -2000 ≤ J := by omega
  have e7 : J < 0 := by omega
  obtain ⟨J1, hJ1⟩ : ∃ J1 : Int, -J = J1 := ⟨_, rfl⟩
  have HJ0 := Lib.hid (show J1 = (j : Int) by omega)
  have w5 : IntKind.i64.wrap ((P : Int) - 1075) = J := by rw [e5]; exact IntWalk.i64_in _ (by omega)
  have w6 : IntKind.i64.wrap (-J) = J1 := by rw [hJ1]; exact IntWalk.i64_in _ (by omega)
  have w7 : IntKind.u64.wrap J1 = J1 := u64w _ (by omega) (by omega)
  replace e7 : decide ((0 : Int) ≤ J) = false := decide_eq_false (by omega)
  clear hJ hJ1 e6
  clear hj0 hz hx hf he hs hp hl hm hbs hv hmm hpp hsm hr hj e5 hm2
  go_enter Try.func75, Try.ntmps75
  go_wp2_with fail
  refine (setUint64_any w.heap.size 0 M _ (znew w) (by have := HM.out; omega)).mono ?_
  rintro e w1 ⟨rfl, hi, hr⟩
  have B1 := Lib.hid (newW hr)
  have P1 := Lib.hid hi
  have LP := Lib.hid hi.lt
  clear hi hr
  go_wp2_with fail
  have PS := Lib.hid (int_eq HSM.out.symm P1.out)
  have BB := B1
  refine (newInt_any 1 (w1.alloc (.cells #[.bool false, .slice none 0 0] 45)) (by decide) (by decide)).mono ?_
  rintro e w3 ⟨bn, rfl, hbn, hi, hb⟩
  have B3 := Lib.hid ((bal BB.out).trans (hb.mono (bal BB.out).size))
  have ON := Lib.hid hi
  have Q0 := Lib.hid ((znew w1).below hb)
  have P3 := Lib.hid ((PS.out.below (bnew _ _)).below hb)
  have LQ := Lib.hid (show w.heap.size ≤ w1.heap.size from BB.out.size)
  have LPQ := Lib.hid (show w.heap.size ≠ w1.heap.size from Nat.ne_of_lt PS.out.lt)
  clear hi hb hbn
  go_wp2_with fail
  rw [HJ0.out]
  refine (lsh_any w1.heap.size 0 bn 0 1 j w3 Q0.out ON.out (by decide) (by have := HJ.out; omega)).mono ?_
  rintro e w4 ⟨rfl, hi, hr⟩
  rw [Int.one_mul] at hi
  have B4 := Lib.hid (bwr B3.out hr LQ.out)
  have Q4 := Lib.hid hi
  have P4 := Lib.hid (P3.out.wr hr Q0.out (.inl LPQ.out))
  clear hi hr
  go_wp2_with fail
  with_reducible refine (setFrac_any bz w.heap.size 0 w1.heap.size 0 S (2 ^ j) w4 (HZ.out.below B4.out) P4.out Q4.out (Nat.two_pow_pos j) (Nat.le_trans HBS.out (by decide)) (Nat.le_trans (bl_pow_le HJ.out) (by decide)) (sm_pow _ _)).mono ?_
  rintro e w5 ⟨rfl, hra, hr⟩
  have R := Lib.hid hra
  have RW := Lib.hid ((Wr.of_below bz 0 4 B4.out).trans hr)
  clear hra hr
  go_wp2_with fail
  go_ret
  exact ⟨rfl, by rw [HV.out]; exact R.out, RW.out⟩
/-- Rat.SetFloat64 of a finite number -/
theorem setFloat_any (bz x : Nat) (w : World) (hz : ZAt TW w bz 0 4) (hx : x < 2 ^ 64) (hf : fin x) :
    Calls Try.prog 75 #[.pointer (some ⟨bz, 0, none⟩), .float .f64 x] w (RatRet bz (fv x) w) := by
  have hp := plc_pos x
  by_cases he : rg x / 2 ^ 52 = 0
  · have hpp : plc x = 1 := by unfold plc; rw [if_pos he]
    cases hs : sg x
    · exact setFloat_den_pos_frac bz x w hz hx hf he hs (1075 - plc x) (by omega) (by omega)
    · exact setFloat_den_neg_frac bz x w hz hx hf he hs (1075 - plc x) (by omega) (by omega)
  · by_cases g : plc x < 1075
    · cases hs : sg x
      · exact setFloat_nrm_pos_frac bz x w hz hx hf he hs (1075 - plc x) (by omega) (by omega)
      · exact setFloat_nrm_neg_frac bz x w hz hx hf he hs (1075 - plc x) (by omega) (by omega)
    · cases hs : sg x
      · exact setFloat_nrm_pos_int bz x w hz hx hf he hs (plc x - 1075) (by omega)
      · exact setFloat_nrm_neg_int bz x w hz hx hf he hs (plc x - 1075) (by omega)
end Go.Proofs.Ytokmommlabdcdaa
set_option linter.unusedVariables false
set_option linter.unusedSimpArgs false
namespace Go.Proofs.Ytokmommlabdcdaa
open Wd Fl Go.RowKit
/-- a quotient, what is left, and by what -/
def ScRet (q r c : Nat) (w : World) (e : Ending) (w' : World) : Prop := ∃ bq br bc, e = .returned (.tuple #[.pointer (some ⟨bq, 0, none⟩), .pointer (some ⟨br, 0, none⟩), .pointer (some ⟨bc, 0, none⟩)]) ∧ IntAt TW w' ⟨bq, 0, none⟩ (q : Int) ∧ IntAt TW w' ⟨br, 0, none⟩ (r : Int) ∧ IntAt TW w' ⟨bc, 0, none⟩ (c : Int) ∧ Below w.heap.size w w' ∧ w.heap.size ≤ bq
theorem bl_nat_mul {n j B : Nat} (h : bl (n : Int) ≤ B) (hj : j ≤ B) : bl ((n * 2 ^ j : Nat) : Int) ≤ 2 * B + 1 := by
  rw [Int.natCast_mul]
  have := bl_mul (n : Int) ((2 ^ j : Nat) : Int)
  have := bl_pow_le hj
  omega
set_option maxRecDepth 100000 in
set_option maxHeartbeats 8000000 in
theorem scaled_neg (b : Nat) (x : Rat) (k : Int) (w : World) (hx : RatAt w b x) (hn : bl x.num ≤ 20000) (hd : bl (x.den : Int) ≤ 20000) (h1 : -20000 ≤ k) (h2 : k ≤ 20000) (hk : k < 0) :
    Calls Try.prog 105 #[.pointer (some ⟨b, 0, none⟩), .int .i64 k] w (ScRet (scN x.num.natAbs k / scD x.den k) (scN x.num.natAbs k % scD x.den k) (scD x.den k) w) := by
  have e1 : scN x.num.natAbs k = x.num.natAbs * 2 ^ (-k).toNat := by unfold scN; rfl
  have e2 : scD x.den k = x.den := by unfold scD; rw [show k.toNat = 0 by omega]; simp
  have hsd := scD_pos (d := x.den) x.den_pos k
  rw [e1, e2]
  rw [e2] at hsd
  have HX := Lib.hid hx
  have B := Lib.hid (Below.refl w.heap.size w)
  have HBX := Lib.hid hn
  have HDX := Lib.hid hd
  obtain ⟨n, hnn⟩ : ∃ n, x.num.natAbs = n := ⟨_, rfl⟩
  have HBN : Hid (bl (n : Int) ≤ 20000) := Lib.hid (by rw [← hnn]; unfold bl at *; rw [Int.natAbs_natCast]; exact hn)
  rw [hnn]
  have HNN := Lib.hid hnn
  obtain ⟨d, hdd⟩ : ∃ d, x.den = d := ⟨_, rfl⟩
  rw [hdd] at HDX hsd ⊢
  have HDD := Lib.hid hdd
  obtain ⟨j, hj⟩ : ∃ j : Nat, (-k).toNat = j := ⟨_, rfl⟩
  rw [hj]
  
  have HJ := Lib.hid (show j ≤ 20000 by omega)
  have HPOS := Lib.hid hsd
  obtain ⟨J, hJ⟩ : ∃ J : Int, -k = J := ⟨_, rfl⟩
  have w6 : IntKind.i64.wrap (-k) = J := by rw [hJ]; exact IntWalk.i64_in _ (by omega)
  have w7 : IntKind.u64.wrap J = J := u64w _ (by omega) (by omega)
  have HJJ := Lib.hid (show J = (j : Int) by omega)
  have g1 : decide (k < 0) = true := decide_eq_true hk
  have HBA : Hid (bl ((n * 2 ^ j : Nat) : Int) ≤ 40001) := Lib.hid (bl_nat_mul HBN.out HJ.out)
  clear hJ
  clear hx hn hd h1 h2 hk e1 e2 hsd hnn hdd hj
  go_enter Try.func105, Try.ntmps105
  go_wp2_with fail
  with_reducible refine (iabs_any w.heap.size 0 b 0 (x.num) _ (znew w) (HX.out.num.below (bnew w _)) (Nat.le_trans HBX.out (by decide))).mono ?_
  rintro e w1 ⟨rfl, hi, hr⟩
  rw [HNN.out] at hi
  have BS := Lib.hid (newW hr)
  have LBA := Lib.hid B.out.size
  have NXA := Lib.hid (Nat.ne_of_lt HX.out.z)
  replace HX := Lib.hid (HX.out.below BS.out)
  replace B := Lib.hid (B.out.trans (BS.out.mono B.out.size))
  have A := Lib.hid hi
  clear hi hr BS
  go_wp2_with fail
  have C := Lib.hid (znew w1)
  have BS := Lib.hid (bnew w1 (.cells #[.bool false, .slice none 0 0] 45))
  have LBC := Lib.hid B.out.size
  have NAC := Lib.hid (Nat.ne_of_lt A.out.lt)
  have NXC := Lib.hid (Nat.ne_of_lt HX.out.z)
  have NCA := Lib.hid (Nat.ne_of_gt A.out.lt)
  generalize hgw : w1.alloc (.cells #[.bool false, .slice none 0 0] 45) = w2 at C BS ⊢
  have hsz : w1.heap.size + 1 = w2.heap.size := by rw [← hgw]; simp
  try rw [hsz]
  clear hgw hsz
  replace A := Lib.hid (A.out.below BS.out)
  replace HX := Lib.hid (HX.out.below BS.out)
  replace B := Lib.hid (B.out.trans (BS.out.mono B.out.size))
  clear BS
  refine (denom_any b x w2 HX.out).mono ?_
  rintro e w3 ⟨bD0, oD0, rfl, hi, hb, hor⟩
  have BS := Lib.hid hb
  have ND0A := Lib.hid (den_ne hor NXA.out A.out.lt)
  have ND0C := Lib.hid (den_ne hor NXC.out C.out.lt)
  replace A := Lib.hid (A.out.below BS.out)
  replace HX := Lib.hid (HX.out.below BS.out)
  replace C := Lib.hid (C.out.below BS.out)
  replace B := Lib.hid (B.out.trans (BS.out.mono B.out.size))
  have D0 := Lib.hid hi
  clear hi hb hor BS
  go_wp2_with fail
  rw [HDD.out] at D0
  with_reducible refine (iset_any w1.heap.size 0 bD0 oD0 ((d : Int)) _ C.out (D0.out) (Nat.le_trans HDX.out (by decide))).mono ?_
  rintro e w4 ⟨rfl, hi, hr⟩
  replace A := Lib.hid (A.out.wr hr C.out (.inl NAC.out))
  replace D0 := Lib.hid (D0.out.wr hr C.out (.inl ND0C.out))
  replace HX := Lib.hid (HX.out.wr hr C.out NXC.out)
  replace B := Lib.hid (B.out.trans (hr.below LBC.out B.out.size))
  replace C := Lib.hid hi
  clear hi hr
  go_wp2_with fail
  rw [HJJ.out]
  with_reducible refine (lsh_any w.heap.size 0 w.heap.size 0 (n : Int) j w4 A.out.z A.out (Nat.le_trans HBN.out (by decide)) (Nat.le_trans HJ.out (by decide))).mono ?_
  rintro e w5 ⟨rfl, hi, hr⟩
  rw [← Int.natCast_mul] at hi
  replace D0 := Lib.hid (D0.out.wr hr A.out.z (.inl ND0A.out))
  replace C := Lib.hid (C.out.wr hr A.out.z (.inl NCA.out))
  replace HX := Lib.hid (HX.out.wr hr A.out.z NXA.out)
  replace B := Lib.hid (B.out.trans (hr.below LBA.out B.out.size))
  replace A := Lib.hid hi
  clear hi hr
  go_wp2_with fail
  have Q := Lib.hid (znew w5)
  have BS := Lib.hid (bnew w5 (.cells #[.bool false, .slice none 0 0] 45))
  have LBQ := Lib.hid B.out.size
  have NAQ := Lib.hid (Nat.ne_of_lt A.out.lt)
  have ND0Q := Lib.hid (Nat.ne_of_lt D0.out.lt)
  have NCQ := Lib.hid (Nat.ne_of_lt C.out.lt)
  have NXQ := Lib.hid (Nat.ne_of_lt HX.out.z)
  have NQA := Lib.hid (Nat.ne_of_gt A.out.lt)
  have NQC := Lib.hid (Nat.ne_of_gt C.out.lt)
  generalize hgw : w5.alloc (.cells #[.bool false, .slice none 0 0] 45) = w6 at Q BS ⊢
  have hsz : w5.heap.size + 1 = w6.heap.size := by rw [← hgw]; simp
  try rw [hsz]
  clear hgw hsz
  replace A := Lib.hid (A.out.below BS.out)
  replace D0 := Lib.hid (D0.out.below BS.out)
  replace C := Lib.hid (C.out.below BS.out)
  replace HX := Lib.hid (HX.out.below BS.out)
  replace B := Lib.hid (B.out.trans (BS.out.mono B.out.size))
  clear BS
  have R := Lib.hid (znew w6)
  have BS := Lib.hid (bnew w6 (.cells #[.bool false, .slice none 0 0] 45))
  have LBR := Lib.hid B.out.size
  have NAR := Lib.hid (Nat.ne_of_lt A.out.lt)
  have ND0R := Lib.hid (Nat.ne_of_lt D0.out.lt)
  have NCR := Lib.hid (Nat.ne_of_lt C.out.lt)
  have NXR := Lib.hid (Nat.ne_of_lt HX.out.z)
  have NRA := Lib.hid (Nat.ne_of_gt A.out.lt)
  have NRC := Lib.hid (Nat.ne_of_gt C.out.lt)
  have NRQ := Lib.hid (Nat.ne_of_gt Q.out.lt)
  generalize hgw : w6.alloc (.cells #[.bool false, .slice none 0 0] 45) = w7 at R BS ⊢
  have hsz : w6.heap.size + 1 = w7.heap.size := by rw [← hgw]; simp
  try rw [hsz]
  clear hgw hsz
  replace A := Lib.hid (A.out.below BS.out)
  replace D0 := Lib.hid (D0.out.below BS.out)
  replace C := Lib.hid (C.out.below BS.out)
  replace HX := Lib.hid (HX.out.below BS.out)
  replace Q := Lib.hid (Q.out.below BS.out)
  replace B := Lib.hid (B.out.trans (BS.out.mono B.out.size))
  clear BS
  with_reducible refine (quoRem_any w5.heap.size 0 w.heap.size 0 w1.heap.size 0 w6.heap.size 0 ((n * 2 ^ j : Nat) : Int) ((d : Nat) : Int) w7 Q.out R.out (Ne.symm NRQ.out) A.out C.out (Nat.le_trans HBA.out (by decide)) (Nat.le_trans HDX.out (by decide)) (divC_any (Int.natAbs_pos.2 (by have := HPOS.out; omega)) (Nat.le_trans HDX.out (by decide)))).mono ?_
  rintro e w8 ⟨rfl, hq, hr, wm, h1, h2⟩
  rw [← Int.ofNat_tdiv] at hq
  rw [← Int.ofNat_tmod] at hr
  have CC := Lib.hid ((C.out.wr h1 R.out (.inl NCR.out)).wr h2 (Q.out.wr h1) (.inl NCQ.out))
  have BB := Lib.hid ((B.out.trans (h1.below LBR.out B.out.size)).trans (h2.below LBQ.out (B.out.trans (h1.below LBR.out B.out.size)).size))
  have QQ := Lib.hid hq
  have RR := Lib.hid hr
  clear hq hr h1 h2
  go_wp2_with fail
  go_ret3
  exact ⟨_, _, _, rfl, QQ.out, RR.out, CC.out, BB.out, LBQ.out⟩
set_option maxRecDepth 100000 in
set_option maxHeartbeats 8000000 in
theorem scaled_pos (b : Nat) (x : Rat) (k : Int) (w : World) (hx : RatAt w b x) (hn : bl x.num ≤ 20000) (hd : bl (x.den : Int) ≤ 20000) (h1 : -20000 ≤ k) (h2 : k ≤ 20000) (hk : ¬ k < 0) :
    Calls Try.prog 105 #[.pointer (some ⟨b, 0, none⟩), .int .i64 k] w (ScRet (scN x.num.natAbs k / scD x.den k) (scN x.num.natAbs k % scD x.den k) (scD x.den k) w) := by
  have e1 : scN x.num.natAbs k = x.num.natAbs := by unfold scN; rw [show (-k).toNat = 0 by omega]; simp
  have e2 : scD x.den k = x.den * 2 ^ k.toNat := by unfold scD; rfl
  have hsd := scD_pos (d := x.den) x.den_pos k
  rw [e1, e2]
  rw [e2] at hsd
  have HX := Lib.hid hx
  have B := Lib.hid (Below.refl w.heap.size w)
  have HBX := Lib.hid hn
  have HDX := Lib.hid hd
  obtain ⟨n, hnn⟩ : ∃ n, x.num.natAbs = n := ⟨_, rfl⟩
  have HBN : Hid (bl (n : Int) ≤ 20000) := Lib.hid (by rw [← hnn]; unfold bl at *; rw [Int.natAbs_natCast]; exact hn)
  rw [hnn]
  have HNN := Lib.hid hnn
  obtain ⟨d, hdd⟩ : ∃ d, x.den = d := ⟨_, rfl⟩
  rw [hdd] at HDX hsd ⊢
  have HDD := Lib.hid hdd
  obtain ⟨j, hj⟩ : ∃ j : Nat, k.toNat = j := ⟨_, rfl⟩
  rw [hj]
  rw [hj] at hsd
  have HJ := Lib.hid (show j ≤ 20000 by omega)
  have HPOS := Lib.hid hsd
  have w7 : IntKind.u64.wrap k = k := u64w _ (by omega) (by omega)
  have HJJ := Lib.hid (show k = (j : Int) by omega)
  have g1 : decide (k < 0) = false := decide_eq_false hk
  have HBC : Hid (bl ((d * 2 ^ j : Nat) : Int) ≤ 40001) := Lib.hid (bl_nat_mul HDX.out HJ.out)
  clear hx hn hd h1 h2 hk e1 e2 hsd hnn hdd hj
  go_enter Try.func105, Try.ntmps105
  go_wp2_with fail
  with_reducible refine (iabs_any w.heap.size 0 b 0 (x.num) _ (znew w) (HX.out.num.below (bnew w _)) (Nat.le_trans HBX.out (by decide))).mono ?_
  rintro e w1 ⟨rfl, hi, hr⟩
  rw [HNN.out] at hi
  have BS := Lib.hid (newW hr)
  have LBA := Lib.hid B.out.size
  have NXA := Lib.hid (Nat.ne_of_lt HX.out.z)
  replace HX := Lib.hid (HX.out.below BS.out)
  replace B := Lib.hid (B.out.trans (BS.out.mono B.out.size))
  have A := Lib.hid hi
  clear hi hr BS
  go_wp2_with fail
  have C := Lib.hid (znew w1)
  have BS := Lib.hid (bnew w1 (.cells #[.bool false, .slice none 0 0] 45))
  have LBC := Lib.hid B.out.size
  have NAC := Lib.hid (Nat.ne_of_lt A.out.lt)
  have NXC := Lib.hid (Nat.ne_of_lt HX.out.z)
  have NCA := Lib.hid (Nat.ne_of_gt A.out.lt)
  generalize hgw : w1.alloc (.cells #[.bool false, .slice none 0 0] 45) = w2 at C BS ⊢
  have hsz : w1.heap.size + 1 = w2.heap.size := by rw [← hgw]; simp
  try rw [hsz]
  clear hgw hsz
  replace A := Lib.hid (A.out.below BS.out)
  replace HX := Lib.hid (HX.out.below BS.out)
  replace B := Lib.hid (B.out.trans (BS.out.mono B.out.size))
  clear BS
  refine (denom_any b x w2 HX.out).mono ?_
  rintro e w3 ⟨bD0, oD0, rfl, hi, hb, hor⟩
  have BS := Lib.hid hb
  have ND0A := Lib.hid (den_ne hor NXA.out A.out.lt)
  have ND0C := Lib.hid (den_ne hor NXC.out C.out.lt)
  replace A := Lib.hid (A.out.below BS.out)
  replace HX := Lib.hid (HX.out.below BS.out)
  replace C := Lib.hid (C.out.below BS.out)
  replace B := Lib.hid (B.out.trans (BS.out.mono B.out.size))
  have D0 := Lib.hid hi
  clear hi hb hor BS
  go_wp2_with fail
  rw [HDD.out] at D0
  with_reducible refine (iset_any w1.heap.size 0 bD0 oD0 ((d : Int)) _ C.out (D0.out) (Nat.le_trans HDX.out (by decide))).mono ?_
  rintro e w4 ⟨rfl, hi, hr⟩
  replace A := Lib.hid (A.out.wr hr C.out (.inl NAC.out))
  replace D0 := Lib.hid (D0.out.wr hr C.out (.inl ND0C.out))
  replace HX := Lib.hid (HX.out.wr hr C.out NXC.out)
  replace B := Lib.hid (B.out.trans (hr.below LBC.out B.out.size))
  replace C := Lib.hid hi
  clear hi hr
  go_wp2_with fail
  rw [HJJ.out]
  with_reducible refine (lsh_any w1.heap.size 0 w1.heap.size 0 (d : Int) j w4 C.out.z C.out (Nat.le_trans HDX.out (by decide)) (Nat.le_trans HJ.out (by decide))).mono ?_
  rintro e w5 ⟨rfl, hi, hr⟩
  rw [← Int.natCast_mul] at hi
  replace A := Lib.hid (A.out.wr hr C.out.z (.inl NAC.out))
  replace D0 := Lib.hid (D0.out.wr hr C.out.z (.inl ND0C.out))
  replace HX := Lib.hid (HX.out.wr hr C.out.z NXC.out)
  replace B := Lib.hid (B.out.trans (hr.below LBC.out B.out.size))
  replace C := Lib.hid hi
  clear hi hr
  go_wp2_with fail
  have Q := Lib.hid (znew w5)
  have BS := Lib.hid (bnew w5 (.cells #[.bool false, .slice none 0 0] 45))
  have LBQ := Lib.hid B.out.size
  have NAQ := Lib.hid (Nat.ne_of_lt A.out.lt)
  have ND0Q := Lib.hid (Nat.ne_of_lt D0.out.lt)
  have NCQ := Lib.hid (Nat.ne_of_lt C.out.lt)
  have NXQ := Lib.hid (Nat.ne_of_lt HX.out.z)
  have NQA := Lib.hid (Nat.ne_of_gt A.out.lt)
  have NQC := Lib.hid (Nat.ne_of_gt C.out.lt)
  generalize hgw : w5.alloc (.cells #[.bool false, .slice none 0 0] 45) = w6 at Q BS ⊢
  have hsz : w5.heap.size + 1 = w6.heap.size := by rw [← hgw]; simp
  try rw [hsz]
  clear hgw hsz
  replace A := Lib.hid (A.out.below BS.out)
  replace D0 := Lib.hid (D0.out.below BS.out)
  replace C := Lib.hid (C.out.below BS.out)
  replace HX := Lib.hid (HX.out.below BS.out)
  replace B := Lib.hid (B.out.trans (BS.out.mono B.out.size))
  clear BS
  have R := Lib.hid (znew w6)
  have BS := Lib.hid (bnew w6 (.cells #[.bool false, .slice none 0 0] 45))
  have LBR := Lib.hid B.out.size
  have NAR := Lib.hid (Nat.ne_of_lt A.out.lt)
  have ND0R := Lib.hid (Nat.ne_of_lt D0.out.lt)
  have NCR := Lib.hid (Nat.ne_of_lt C.out.lt)
  have NXR := Lib.hid (Nat.ne_of_lt HX.out.z)
  have NRA := Lib.hid (Nat.ne_of_gt A.out.lt)
  have NRC := Lib.hid (Nat.ne_of_gt C.out.lt)
  have NRQ := Lib.hid (Nat.ne_of_gt Q.out.lt)
  generalize hgw : w6.alloc (.cells #[.bool false, .slice none 0 0] 45) = w7 at R BS ⊢
  have hsz : w6.heap.size + 1 = w7.heap.size := by rw [← hgw]; simp
  try rw [hsz]
  clear hgw hsz
  replace A := Lib.hid (A.out.below BS.out)
  replace D0 := Lib.hid (D0.out.below BS.out)
  replace C := Lib.hid (C.out.below BS.out)
  replace HX := Lib.hid (HX.out.below BS.out)
  replace Q := Lib.hid (Q.out.below BS.out)
  replace B := Lib.hid (B.out.trans (BS.out.mono B.out.size))
  clear BS
  with_reducible refine (quoRem_any w5.heap.size 0 w.heap.size 0 w1.heap.size 0 w6.heap.size 0 ((n : Nat) : Int) ((d * 2 ^ j : Nat) : Int) w7 Q.out R.out (Ne.symm NRQ.out) A.out C.out (Nat.le_trans HBN.out (by decide)) (Nat.le_trans HBC.out (by decide)) (divC_any (Int.natAbs_pos.2 (by have := HPOS.out; omega)) (Nat.le_trans HBC.out (by decide)))).mono ?_
  rintro e w8 ⟨rfl, hq, hr, wm, h1, h2⟩
  rw [← Int.ofNat_tdiv] at hq
  rw [← Int.ofNat_tmod] at hr
  have CC := Lib.hid ((C.out.wr h1 R.out (.inl NCR.out)).wr h2 (Q.out.wr h1) (.inl NCQ.out))
  have BB := Lib.hid ((B.out.trans (h1.below LBR.out B.out.size)).trans (h2.below LBQ.out (B.out.trans (h1.below LBR.out B.out.size)).size))
  have QQ := Lib.hid hq
  have RR := Lib.hid hr
  clear hq hr h1 h2
  go_wp2_with fail
  go_ret3
  exact ⟨_, _, _, rfl, QQ.out, RR.out, CC.out, BB.out, LBQ.out⟩
/-- Rat.scaled -/
theorem scaled_any (b : Nat) (x : Rat) (k : Int) (w : World) (hx : RatAt w b x) (hn : bl x.num ≤ 20000) (hd : bl (x.den : Int) ≤ 20000) (h1 : -20000 ≤ k) (h2 : k ≤ 20000) :
    Calls Try.prog 105 #[.pointer (some ⟨b, 0, none⟩), .int .i64 k] w (ScRet (scN x.num.natAbs k / scD x.den k) (scN x.num.natAbs k % scD x.den k) (scD x.den k) w) := by
  by_cases hk : k < 0
  · exact scaled_neg b x k w hx hn hd h1 h2 hk
  · exact scaled_pos b x k w hx hn hd h1 h2 hk
end Go.Proofs.Ytokmommlabdcdaa
