/- New blocks, one behind the other. No contract of a product of fractions is wanted here. Contract of surdbig's Rat.SetFloat64, of a finite number. (Printed by wip/gen37.py.) -/
import Derived.Test.YtokmommlabdcdaaGreatDoorVBig27
import Derived.Deep.Cut
import Derived.Test.YtokmommlabdcdaaGreatDoorVDBase
set_option linter.unusedVariables false
set_option linter.unusedSimpArgs false
set_option linter.unusedVariables false
set_option linter.unusedSimpArgs false
namespace Go.Proofs.YtokmommlabdcdaaGreatDoor
open Wd Fl Go.RowKit
theorem bal {w W : World} {c : Obj} (h : Below w.heap.size w W) : Below w.heap.size w (W.alloc c) := h.trans ((bnew W c).mono h.size)
theorem bwr {w W W' : World} {b lo hi : Nat} (h : Below w.heap.size w W) (g : Wr b lo hi W W') (hb : w.heap.size ≤ b) : Below w.heap.size w W' := h.trans (g.below hb h.size)
theorem bdr (w : World) : Below w.heap.size w w.drew := (Below.refl _ w).drew
theorem znew2 (W : World) (c : Obj) : ZAt TW ((W.alloc c).alloc (.cells #[.bool false, .slice none 0 0] 60)) (W.heap.size + 1) 0 2 := by
  have := znew (W.alloc c)
  rwa [show (W.alloc c).heap.size = W.heap.size + 1 by simp] at this
/-- two new numbers -/
def TwoNew (w : World) (n m : Int) (sc sd : Value) (wx : World) : Prop := ∃ bC bD, sc = .pointer (some ⟨bC, 0, none⟩) ∧ sd = .pointer (some ⟨bD, 0, none⟩) ∧ IntAt TW wx ⟨bC, 0, none⟩ n ∧ IntAt TW wx ⟨bD, 0, none⟩ m ∧ Below w.heap.size w wx ∧ w.heap.size ≤ bC ∧ w.heap.size ≤ bD ∧ bC ≠ bD
theorem int_eq {w : World} {p : Addr} {n m : Int} (e : n = m) (h : IntAt TW w p m) : IntAt TW w p n := by rw [e]; exact h
end Go.Proofs.YtokmommlabdcdaaGreatDoor

set_option linter.unusedVariables false
set_option linter.unusedSimpArgs false
namespace Go.Proofs.YtokmommlabdcdaaGreatDoor
open Wd Fl Go.RowKit
theorem u64_and_mod {x k : Nat} (hx : x < 2 ^ 64) (hk : k ≤ 63) : bits .and .u64 (x : Int) ((2 ^ k - 1 : Nat) : Int) = ((x % 2 ^ k : Nat) : Int) := by
  have hp : 2 ^ k ≤ 2 ^ 63 := Nat.pow_le_pow_right (by decide) hk
  have h1 := Nat.two_pow_pos k
  have key : (BitVec.ofInt 64 (x : Int) &&& BitVec.ofInt 64 ((2 ^ k - 1 : Nat) : Int)).toNat = x % 2 ^ k := by
    rw [BitVec.toNat_and, BitVec.ofInt_natCast, BitVec.ofInt_natCast, BitVec.toNat_ofNat, BitVec.toNat_ofNat, Nat.mod_eq_of_lt hx, Nat.mod_eq_of_lt (by omega), Nat.and_two_pow_sub_one_eq_mod]
  show IntKind.u64.wrap ((BitVec.ofInt 64 (x : Int) &&& BitVec.ofInt 64 ((2 ^ k - 1 : Nat) : Int)).toNat : Nat) = _
  have hm : x % 2 ^ k ≤ x := Nat.mod_le _ _
  rw [key, u64w _ (by omega) (by omega)]
theorem u64_or_top {m : Nat} (hm : m < 2 ^ 52) : bits .or .u64 (m : Int) 4503599627370496 = ((2 ^ 52 + m : Nat) : Int) := by
  have h := u64_or_nat m 4503599627370496 (by omega) (by decide)
  rw [show ((4503599627370496 : Nat) : Int) = 4503599627370496 from rfl] at h
  rw [h]
  congr 1
  have := Nat.two_pow_add_eq_or_of_lt hm 1
  rw [Nat.mul_one] at this
  rw [this, Nat.or_comm]
theorem exp_field {x : Nat} (hx : x < 2 ^ 64) : bits .and .u64 ((x : Int) / 4503599627370496) 2047 = ((rg x / 2 ^ 52 : Nat) : Int) := by
  have h := u64_and_mod (x := x / 2 ^ 52) (k := 11) (by omega) (by decide)
  rw [show ((2 ^ 11 - 1 : Nat) : Int) = 2047 from rfl, Int.natCast_ediv] at h
  rw [show ((2 ^ 52 : Nat) : Int) = 4503599627370496 from rfl] at h
  rw [h]
  congr 1
  unfold rg
  omega
theorem man_field {x : Nat} (hx : x < 2 ^ 64) : bits .and .u64 (x : Int) 4503599627370495 = ((x % 2 ^ 52 : Nat) : Int) :=
  u64_and_mod (x := x) (k := 52) hx (by decide)
theorem sign_bit {x : Nat} (hx : x < 2 ^ 64) : ((x : Int) / 9223372036854775808 == 1) = sg x := by
  unfold sg
  rcases Nat.lt_or_ge x (2 ^ 63) with h | h
  · rw [show (x : Int) / 9223372036854775808 = 0 by omega, show x / 2 ^ 63 % 2 = 0 by omega]; rfl
  · rw [show (x : Int) / 9223372036854775808 = 1 by omega, show x / 2 ^ 63 % 2 = 1 by omega]; rfl
theorem smant_neg {x : Nat} (h : sg x = true) : -(mant x : Int) = smant x := by unfold smant; rw [h]; rfl
theorem smant_pos {x : Nat} (h : sg x = false) : (mant x : Int) = smant x := by unfold smant; rw [h]; rfl
theorem bl_smant (x : Nat) : bl (smant x) ≤ 53 := by
  unfold bl smant
  have := blen_le_of (mant_lt x)
  split
  · rw [Int.natAbs_neg, Int.natAbs_natCast]; exact this
  · rw [Int.natAbs_natCast]; exact this
set_option maxRecDepth 100000 in
set_option maxHeartbeats 8000000 in
theorem setFloat_den_neg_frac (bz x : Nat) (w : World) (hz : ZAt TW w bz 0 4) (hx : x < 2 ^ 64) (hf : fin x) (he : rg x / 2 ^ 52 = 0) (hs : sg x = true) (j : Nat) (hp : plc x + j = 1075) (hj0 : 0 < j) :
    Calls Tryz.prog 64 #[.pointer (some ⟨bz, 0, none⟩), .float .f64 x] w (RatRet bz (fv x) w) := by
  have h3 := f64bits_run
  have a1 := exp_field hx
  have a2 := man_field hx
  have a3 := sign_bit hx
  rw [hs] at a3
  have hl := plc_le hf
  have hm := mant_lt x
  have hbs := bl_smant x
  have hv := fv_low hp
  have hmm : mant x = x % 2 ^ 52 := by unfold mant; rw [if_pos he]
  have hpp : plc x = 1 := by unfold plc; rw [if_pos he]
  have eE : ((rg x / 2 ^ 52 : Nat) : Int) = 0 := by rw [he]; rfl
  rw [eE] at a1
  rw [← hmm] at a2
  have hsm := smant_neg hs
  have HZ := Lib.hid hz
  have LZ := Lib.hid hz.lt
  have HSM := Lib.hid hsm
  have HV := Lib.hid hv
  have HBS := Lib.hid hbs
  have HM := Lib.hid hm
  have xI : (x : Int) < 18446744073709551616 := by omega
  have HBM : Hid (bl ((mant x : Nat) : Int) ≤ 53) := Lib.hid (by unfold bl; rw [Int.natAbs_natCast]; exact blen_le_of hm)
  obtain ⟨r, hr⟩ : ∃ r, fv x = r := ⟨_, rfl⟩
  rw [hr] at HV ⊢
  generalize plc x = P at *
  generalize mant x = M at *
  generalize smant x = S at *
  have mI : (M : Int) < 9007199254740992 := by omega
  have hj : j ≤ 2000 := by omega
  have HJ := Lib.hid hj
  have e5 := True.intro
  have HJ0 := Lib.hid (show (1074 : Int) = (j : Int) by omega)
  clear hj0 hz hx hf he hs hp hl hm hbs hv hmm hpp hsm hr hj e5 eE
  go_enter Tryz.func64, Tryz.ntmps64
  go_wp2_with fail
  refine (setUint64_any w.heap.size 0 M _ (znew w) (by have := HM.out; omega)).mono ?_
  rintro e w1 ⟨rfl, hi, hr⟩
  have B1 := Lib.hid (newW hr)
  have P1 := Lib.hid hi
  have LP := Lib.hid hi.lt
  clear hi hr
  go_wp2_with fail
  with_reducible refine (ineg_any w.heap.size 0 w.heap.size 0 (M : Int) w1 P1.out.z P1.out (Nat.le_trans HBM.out (by decide))).mono ?_
  rintro e w2 ⟨rfl, hi, hr⟩
  have B2 := Lib.hid (bwr B1.out hr (Nat.le_refl _))
  have P2 := Lib.hid hi
  clear hi hr
  go_wp2_with fail
  have PS := Lib.hid (int_eq HSM.out.symm P2.out)
  have BB := B2
  refine (newInt_any 1 (w2.alloc (.cells #[.bool false, .slice none 0 0] 60)) (by decide) (by decide)).mono ?_
  rintro e w3 ⟨bn, rfl, hbn, hi, hb⟩
  have B3 := Lib.hid ((bal BB.out).trans (hb.mono (bal BB.out).size))
  have ON := Lib.hid hi
  have Q0 := Lib.hid ((znew w2).below hb)
  have P3 := Lib.hid ((PS.out.below (bnew _ _)).below hb)
  have LQ := Lib.hid (show w.heap.size ≤ w2.heap.size from BB.out.size)
  have LPQ := Lib.hid (show w.heap.size ≠ w2.heap.size from Nat.ne_of_lt PS.out.lt)
  clear hi hb hbn
  go_wp2_with fail
  rw [HJ0.out]
  refine (lsh_any w2.heap.size 0 bn 0 1 j w3 Q0.out ON.out (by decide) (by have := HJ.out; omega)).mono ?_
  rintro e w4 ⟨rfl, hi, hr⟩
  rw [Int.one_mul] at hi
  have B4 := Lib.hid (bwr B3.out hr LQ.out)
  have Q4 := Lib.hid hi
  have P4 := Lib.hid (P3.out.wr hr Q0.out (.inl LPQ.out))
  clear hi hr
  go_wp2_with fail
  with_reducible refine (setFrac_any bz w.heap.size 0 w2.heap.size 0 S (2 ^ j) w4 (HZ.out.below B4.out) P4.out Q4.out (Nat.two_pow_pos j) (Nat.le_trans HBS.out (by decide)) (Nat.le_trans (bl_pow_le HJ.out) (by decide)) (sm_pow _ _)).mono ?_
  rintro e w5 ⟨rfl, hra, hr⟩
  have R := Lib.hid hra
  have RW := Lib.hid ((Wr.of_below bz 0 4 B4.out).trans hr)
  clear hra hr
  go_wp2_with fail
  go_ret
  exact ⟨rfl, by rw [HV.out]; exact R.out, RW.out⟩
set_option maxRecDepth 100000 in
set_option maxHeartbeats 8000000 in
theorem setFloat_den_pos_frac (bz x : Nat) (w : World) (hz : ZAt TW w bz 0 4) (hx : x < 2 ^ 64) (hf : fin x) (he : rg x / 2 ^ 52 = 0) (hs : sg x = false) (j : Nat) (hp : plc x + j = 1075) (hj0 : 0 < j) :
    Calls Tryz.prog 64 #[.pointer (some ⟨bz, 0, none⟩), .float .f64 x] w (RatRet bz (fv x) w) := by
  have h3 := f64bits_run
  have a1 := exp_field hx
  have a2 := man_field hx
  have a3 := sign_bit hx
  rw [hs] at a3
  have hl := plc_le hf
  have hm := mant_lt x
  have hbs := bl_smant x
  have hv := fv_low hp
  have hmm : mant x = x % 2 ^ 52 := by unfold mant; rw [if_pos he]
  have hpp : plc x = 1 := by unfold plc; rw [if_pos he]
  have eE : ((rg x / 2 ^ 52 : Nat) : Int) = 0 := by rw [he]; rfl
  rw [eE] at a1
  rw [← hmm] at a2
  have hsm := smant_pos hs
  have HZ := Lib.hid hz
  have LZ := Lib.hid hz.lt
  have HSM := Lib.hid hsm
  have HV := Lib.hid hv
  have HBS := Lib.hid hbs
  have HM := Lib.hid hm
  have xI : (x : Int) < 18446744073709551616 := by omega
  have HBM : Hid (bl ((mant x : Nat) : Int) ≤ 53) := Lib.hid (by unfold bl; rw [Int.natAbs_natCast]; exact blen_le_of hm)
  obtain ⟨r, hr⟩ : ∃ r, fv x = r := ⟨_, rfl⟩
  rw [hr] at HV ⊢
  generalize plc x = P at *
  generalize mant x = M at *
  generalize smant x = S at *
  have mI : (M : Int) < 9007199254740992 := by omega
  have hj : j ≤ 2000 := by omega
  have HJ := Lib.hid hj
  have e5 := True.intro
  have HJ0 := Lib.hid (show (1074 : Int) = (j : Int) by omega)
  clear hj0 hz hx hf he hs hp hl hm hbs hv hmm hpp hsm hr hj e5 eE
  go_enter Tryz.func64, Tryz.ntmps64
  go_wp2_with fail
  refine (setUint64_any w.heap.size 0 M _ (znew w) (by have := HM.out; omega)).mono ?_
  rintro e w1 ⟨rfl, hi, hr⟩
  have B1 := Lib.hid (newW hr)
  have P1 := Lib.hid hi
  have LP := Lib.hid hi.lt
  clear hi hr
  go_wp2_with fail
  have PS := Lib.hid (int_eq HSM.out.symm P1.out)
  have BB := B1
  refine (newInt_any 1 (w1.alloc (.cells #[.bool false, .slice none 0 0] 60)) (by decide) (by decide)).mono ?_
  rintro e w3 ⟨bn, rfl, hbn, hi, hb⟩
  have B3 := Lib.hid ((bal BB.out).trans (hb.mono (bal BB.out).size))
  have ON := Lib.hid hi
  have Q0 := Lib.hid ((znew w1).below hb)
  have P3 := Lib.hid ((PS.out.below (bnew _ _)).below hb)
  have LQ := Lib.hid (show w.heap.size ≤ w1.heap.size from BB.out.size)
  have LPQ := Lib.hid (show w.heap.size ≠ w1.heap.size from Nat.ne_of_lt PS.out.lt)
  clear hi hb hbn
  go_wp2_with fail
  rw [HJ0.out]
  refine (lsh_any w1.heap.size 0 bn 0 1 j w3 Q0.out ON.out (by decide) (by have := HJ.out; omega)).mono ?_
  rintro e w4 ⟨rfl, hi, hr⟩
  rw [Int.one_mul] at hi
  have B4 := Lib.hid (bwr B3.out hr LQ.out)
  have Q4 := Lib.hid hi
  have P4 := Lib.hid (P3.out.wr hr Q0.out (.inl LPQ.out))
  clear hi hr
  go_wp2_with fail
  with_reducible refine (setFrac_any bz w.heap.size 0 w1.heap.size 0 S (2 ^ j) w4 (HZ.out.below B4.out) P4.out Q4.out (Nat.two_pow_pos j) (Nat.le_trans HBS.out (by decide)) (Nat.le_trans (bl_pow_le HJ.out) (by decide)) (sm_pow _ _)).mono ?_
  rintro e w5 ⟨rfl, hra, hr⟩
  have R := Lib.hid hra
  have RW := Lib.hid ((Wr.of_below bz 0 4 B4.out).trans hr)
  clear hra hr
  go_wp2_with fail
  go_ret
  exact ⟨rfl, by rw [HV.out]; exact R.out, RW.out⟩
set_option maxRecDepth 100000 in
set_option maxHeartbeats 8000000 in
theorem setFloat_nrm_neg_int (bz x : Nat) (w : World) (hz : ZAt TW w bz 0 4) (hx : x < 2 ^ 64) (hf : fin x) (he : rg x / 2 ^ 52 ≠ 0) (hs : sg x = true) (j : Nat) (hp : plc x = 1075 + j) :
    Calls Tryz.prog 64 #[.pointer (some ⟨bz, 0, none⟩), .float .f64 x] w (RatRet bz (fv x) w) := by
  have h3 := f64bits_run
  have a1 := exp_field hx
  have a2 := man_field hx
  have a3 := sign_bit hx
  rw [hs] at a3
  have hl := plc_le hf
  have hm := mant_lt x
  have hbs := bl_smant x
  have hv := fv_high hp
  have hmm : mant x = 2 ^ 52 + x % 2 ^ 52 := by unfold mant; rw [if_neg he]
  have hpp : plc x = rg x / 2 ^ 52 := by unfold plc; rw [if_neg he]
  have a4 := u64_or_top (m := x % 2 ^ 52) (by omega)
  rw [← hmm] at a4
  rw [← hpp] at a1
  have hm2 : x % 2 ^ 52 < 2 ^ 52 := by omega
  generalize x % 2 ^ 52 = m at *
  have q4 : (m : Int) < 4503599627370496 := by omega
  have q1 : ((plc x : Nat) : Int) ≤ 2046 := by omega
  have q2 : ((((plc x : Nat) : Int)) == 2047) = false := by rw [beq_eq_false_iff_ne]; omega
  have q3 : ((((plc x : Nat) : Int)) == 0) = false := by rw [beq_eq_false_iff_ne]; omega
  have hsm := smant_neg hs
  have HZ := Lib.hid hz
  have LZ := Lib.hid hz.lt
  have HSM := Lib.hid hsm
  have HV := Lib.hid hv
  have HBS := Lib.hid hbs
  have HM := Lib.hid hm
  have xI : (x : Int) < 18446744073709551616 := by omega
  have HBM : Hid (bl ((mant x : Nat) : Int) ≤ 53) := Lib.hid (by unfold bl; rw [Int.natAbs_natCast]; exact blen_le_of hm)
  obtain ⟨r, hr⟩ : ∃ r, fv x = r := ⟨_, rfl⟩
  rw [hr] at HV ⊢
  generalize plc x = P at *
  generalize mant x = M at *
  generalize smant x = S at *
  have mI : (M : Int) < 9007199254740992 := by omega
  have hj : j ≤ 2000 := by omega
  have HJ := Lib.hid hj
  have e5 : (P : Int) - 1075 = (j : Int) := by omega
  have e6 : (j : Int) ≤ 2000 := by omega
  have w5 : IntKind.i64.wrap ((P : Int) - 1075) = (j : Int) := by rw [e5]; exact IntWalk.i64_in _ (by omega)
  clear hz hx hf he hs hp hl hm hbs hv hmm hpp hsm hr hj e5 hm2
  go_enter Tryz.func64, Tryz.ntmps64
  go_wp2_with fail
  refine (setUint64_any w.heap.size 0 M _ (znew w) (by have := HM.out; omega)).mono ?_
  rintro e w1 ⟨rfl, hi, hr⟩
  have B1 := Lib.hid (newW hr)
  have P1 := Lib.hid hi
  have LP := Lib.hid hi.lt
  clear hi hr
  go_wp2_with fail
  with_reducible refine (ineg_any w.heap.size 0 w.heap.size 0 (M : Int) w1 P1.out.z P1.out (Nat.le_trans HBM.out (by decide))).mono ?_
  rintro e w2 ⟨rfl, hi, hr⟩
  have B2 := Lib.hid (bwr B1.out hr (Nat.le_refl _))
  have P2 := Lib.hid hi
  clear hi hr
  go_wp2_with fail
  have PS := Lib.hid (int_eq HSM.out.symm P2.out)
  have BB := B2
  refine (lsh_any w.heap.size 0 w.heap.size 0 S j w2 PS.out.z PS.out (Nat.le_trans HBS.out (by decide)) (by have := HJ.out; omega)).mono ?_
  rintro e w4 ⟨rfl, hi, hr⟩
  have B4 := Lib.hid (bwr BB.out hr (Nat.le_refl _))
  have P4 := Lib.hid hi
  clear hi hr
  go_wp2_with fail
  with_reducible refine (setInt_any bz w.heap.size 0 (S * ((2 ^ j : Nat) : Int)) w4 (HZ.out.below B4.out) P4.out (by have := bl_mul S ((2 ^ j : Nat) : Int); have := bl_pow_le (Nat.le_refl j); have := HBS.out; have := HJ.out; omega)).mono ?_
  rintro e w5 ⟨rfl, hra, hr⟩
  have R := Lib.hid hra
  have RW := Lib.hid ((Wr.of_below bz 0 4 B4.out).trans hr)
  clear hra hr
  go_wp2_with fail
  go_ret
  exact ⟨rfl, by rw [HV.out]; exact R.out, RW.out⟩
set_option maxRecDepth 100000 in
set_option maxHeartbeats 8000000 in
theorem setFloat_nrm_neg_frac (bz x : Nat) (w : World) (hz : ZAt TW w bz 0 4) (hx : x < 2 ^ 64) (hf : fin x) (he : rg x / 2 ^ 52 ≠ 0) (hs : sg x = true) (j : Nat) (hp : plc x + j = 1075) (hj0 : 0 < j) :
    Calls Tryz.prog 64 #[.pointer (some ⟨bz, 0, none⟩), .float .f64 x] w (RatRet bz (fv x) w) := by
  have h3 := f64bits_run
  have a1 := exp_field hx
  have a2 := man_field hx
  have a3 := sign_bit hx
  rw [hs] at a3
  have hl := plc_le hf
  have hm := mant_lt x
  have hbs := bl_smant x
  have hv := fv_low hp
  have hmm : mant x = 2 ^ 52 + x % 2 ^ 52 := by unfold mant; rw [if_neg he]
  have hpp : plc x = rg x / 2 ^ 52 := by unfold plc; rw [if_neg he]
  have a4 := u64_or_top (m := x % 2 ^ 52) (by omega)
  rw [← hmm] at a4
  rw [← hpp] at a1
  have hm2 : x % 2 ^ 52 < 2 ^ 52 := by omega
  generalize x % 2 ^ 52 = m at *
  have q4 : (m : Int) < 4503599627370496 := by omega
  have q1 : ((plc x : Nat) : Int) ≤ 2046 := by omega
  have q2 : ((((plc x : Nat) : Int)) == 2047) = false := by rw [beq_eq_false_iff_ne]; omega
  have q3 : ((((plc x : Nat) : Int)) == 0) = false := by rw [beq_eq_false_iff_ne]; omega
  have hsm := smant_neg hs
  have HZ := Lib.hid hz
  have LZ := Lib.hid hz.lt
  have HSM := Lib.hid hsm
  have HV := Lib.hid hv
  have HBS := Lib.hid hbs
  have HM := Lib.hid hm
  have xI : (x : Int) < 18446744073709551616 := by omega
  have HBM : Hid (bl ((mant x : Nat) : Int) ≤ 53) := Lib.hid (by unfold bl; rw [Int.natAbs_natCast]; exact blen_le_of hm)
  obtain ⟨r, hr⟩ : ∃ r, fv x = r := ⟨_, rfl⟩
  rw [hr] at HV ⊢
  generalize plc x = P at *
  generalize mant x = M at *
  generalize smant x = S at *
  have mI : (M : Int) < 9007199254740992 := by omega
  have hj : j ≤ 2000 := by omega
  have HJ := Lib.hid hj
  obtain ⟨J, hJ⟩ : ∃ J : Int, -(j : Int) = J := ⟨_, rfl⟩
  have e5 : (P : Int) - 1075 = J := by omega
  have e6 : -2000 ≤ J := by omega
  have e7 : J < 0 := by omega
  obtain ⟨J1, hJ1⟩ : ∃ J1 : Int, -J = J1 := ⟨_, rfl⟩
  have HJ0 := Lib.hid (show J1 = (j : Int) by omega)
  have w5 : IntKind.i64.wrap ((P : Int) - 1075) = J := by rw [e5]; exact IntWalk.i64_in _ (by omega)
  have w6 : IntKind.i64.wrap (-J) = J1 := by rw [hJ1]; exact IntWalk.i64_in _ (by omega)
  have w7 : IntKind.u64.wrap J1 = J1 := u64w _ (by omega) (by omega)
  replace e7 : decide ((0 : Int) ≤ J) = false := decide_eq_false (by omega)
  clear hJ hJ1 e6
  clear hj0 hz hx hf he hs hp hl hm hbs hv hmm hpp hsm hr hj e5 hm2
  go_enter Tryz.func64, Tryz.ntmps64
  go_wp2_with fail
  refine (setUint64_any w.heap.size 0 M _ (znew w) (by have := HM.out; omega)).mono ?_
  rintro e w1 ⟨rfl, hi, hr⟩
  have B1 := Lib.hid (newW hr)
  have P1 := Lib.hid hi
  have LP := Lib.hid hi.lt
  clear hi hr
  go_wp2_with fail
  with_reducible refine (ineg_any w.heap.size 0 w.heap.size 0 (M : Int) w1 P1.out.z P1.out (Nat.le_trans HBM.out (by decide))).mono ?_
  rintro e w2 ⟨rfl, hi, hr⟩
  have B2 := Lib.hid (bwr B1.out hr (Nat.le_refl _))
  have P2 := Lib.hid hi
  clear hi hr
  go_wp2_with fail
  have PS := Lib.hid (int_eq HSM.out.symm P2.out)
  have BB := B2
  refine (newInt_any 1 (w2.alloc (.cells #[.bool false, .slice none 0 0] 60)) (by decide) (by decide)).mono ?_
  rintro e w3 ⟨bn, rfl, hbn, hi, hb⟩
  have B3 := Lib.hid ((bal BB.out).trans (hb.mono (bal BB.out).size))
  have ON := Lib.hid hi
  have Q0 := Lib.hid ((znew w2).below hb)
  have P3 := Lib.hid ((PS.out.below (bnew _ _)).below hb)
  have LQ := Lib.hid (show w.heap.size ≤ w2.heap.size from BB.out.size)
  have LPQ := Lib.hid (show w.heap.size ≠ w2.heap.size from Nat.ne_of_lt PS.out.lt)
  clear hi hb hbn
  go_wp2_with fail
  rw [HJ0.out]
  refine (lsh_any w2.heap.size 0 bn 0 1 j w3 Q0.out ON.out (by decide) (by have := HJ.out; omega)).mono ?_
  rintro e w4 ⟨rfl, hi, hr⟩
  rw [Int.one_mul] at hi
  have B4 := Lib.hid (bwr B3.out hr LQ.out)
  have Q4 := Lib.hid hi
  have P4 := Lib.hid (P3.out.wr hr Q0.out (.inl LPQ.out))
  clear hi hr
  go_wp2_with fail
  with_reducible refine (setFrac_any bz w.heap.size 0 w2.heap.size 0 S (2 ^ j) w4 (HZ.out.below B4.out) P4.out Q4.out (Nat.two_pow_pos j) (Nat.le_trans HBS.out (by decide)) (Nat.le_trans (bl_pow_le HJ.out) (by decide)) (sm_pow _ _)).mono ?_
  rintro e w5 ⟨rfl, hra, hr⟩
  have R := Lib.hid hra
  have RW := Lib.hid ((Wr.of_below bz 0 4 B4.out).trans hr)
  clear hra hr
  go_wp2_with fail
  go_ret
  exact ⟨rfl, by rw [HV.out]; exact R.out, RW.out⟩
set_option maxRecDepth 100000 in
set_option maxHeartbeats 8000000 in
theorem setFloat_nrm_pos_int (bz x : Nat) (w : World) (hz : ZAt TW w bz 0 4) (hx : x < 2 ^ 64) (hf : fin x) (he : rg x / 2 ^ 52 ≠ 0) (hs : sg x = false) (j : Nat) (hp : plc x = 1075 + j) :
    Calls Tryz.prog 64 #[.pointer (some ⟨bz, 0, none⟩), .float .f64 x] w (RatRet bz (fv x) w) := by
  have h3 := f64bits_run
  have a1 := exp_field hx
  have a2 := man_field hx
  have a3 := sign_bit hx
  rw [hs] at a3
  have hl := plc_le hf
  have hm := mant_lt x
  have hbs := bl_smant x
  have hv := fv_high hp
  have hmm : mant x = 2 ^ 52 + x % 2 ^ 52 := by unfold mant; rw [if_neg he]
  have hpp : plc x = rg x / 2 ^ 52 := by unfold plc; rw [if_neg he]
  have a4 := u64_or_top (m := x % 2 ^ 52) (by omega)
  rw [← hmm] at a4
  rw [← hpp] at a1
  have hm2 : x % 2 ^ 52 < 2 ^ 52 := by omega
  generalize x % 2 ^ 52 = m at *
  have q4 : (m : Int) < 4503599627370496 := by omega
  have q1 : ((plc x : Nat) : Int) ≤ 2046 := by omega
  have q2 : ((((plc x : Nat) : Int)) == 2047) = false := by rw [beq_eq_false_iff_ne]; omega
  have q3 : ((((plc x : Nat) : Int)) == 0) = false := by rw [beq_eq_false_iff_ne]; omega
  have hsm := smant_pos hs
  have HZ := Lib.hid hz
  have LZ := Lib.hid hz.lt
  have HSM := Lib.hid hsm
  have HV := Lib.hid hv
  have HBS := Lib.hid hbs
  have HM := Lib.hid hm
  have xI : (x : Int) < 18446744073709551616 := by omega
  have HBM : Hid (bl ((mant x : Nat) : Int) ≤ 53) := Lib.hid (by unfold bl; rw [Int.natAbs_natCast]; exact blen_le_of hm)
  obtain ⟨r, hr⟩ : ∃ r, fv x = r := ⟨_, rfl⟩
  rw [hr] at HV ⊢
  generalize plc x = P at *
  generalize mant x = M at *
  generalize smant x = S at *
  have mI : (M : Int) < 9007199254740992 := by omega
  have hj : j ≤ 2000 := by omega
  have HJ := Lib.hid hj
  have e5 : (P : Int) - 1075 = (j : Int) := by omega
  have e6 : (j : Int) ≤ 2000 := by omega
  have w5 : IntKind.i64.wrap ((P : Int) - 1075) = (j : Int) := by rw [e5]; exact IntWalk.i64_in _ (by omega)
  clear hz hx hf he hs hp hl hm hbs hv hmm hpp hsm hr hj e5 hm2
  go_enter Tryz.func64, Tryz.ntmps64
  go_wp2_with fail
  refine (setUint64_any w.heap.size 0 M _ (znew w) (by have := HM.out; omega)).mono ?_
  rintro e w1 ⟨rfl, hi, hr⟩
  have B1 := Lib.hid (newW hr)
  have P1 := Lib.hid hi
  have LP := Lib.hid hi.lt
  clear hi hr
  go_wp2_with fail
  have PS := Lib.hid (int_eq HSM.out.symm P1.out)
  have BB := B1
  refine (lsh_any w.heap.size 0 w.heap.size 0 S j w1 PS.out.z PS.out (Nat.le_trans HBS.out (by decide)) (by have := HJ.out; omega)).mono ?_
  rintro e w4 ⟨rfl, hi, hr⟩
  have B4 := Lib.hid (bwr BB.out hr (Nat.le_refl _))
  have P4 := Lib.hid hi
  clear hi hr
  go_wp2_with fail
  with_reducible refine (setInt_any bz w.heap.size 0 (S * ((2 ^ j : Nat) : Int)) w4 (HZ.out.below B4.out) P4.out (by have := bl_mul S ((2 ^ j : Nat) : Int); have := bl_pow_le (Nat.le_refl j); have := HBS.out; have := HJ.out; omega)).mono ?_
  rintro e w5 ⟨rfl, hra, hr⟩
  have R := Lib.hid hra
  have RW := Lib.hid ((Wr.of_below bz 0 4 B4.out).trans hr)
  clear hra hr
  go_wp2_with fail
  go_ret
  exact ⟨rfl, by rw [HV.out]; exact R.out, RW.out⟩
set_option maxRecDepth 100000 in
set_option maxHeartbeats 8000000 in
theorem setFloat_nrm_pos_frac (bz x : Nat) (w : World) (hz : ZAt TW w bz 0 4) (hx : x < 2 ^ 64) (hf : fin x) (he : rg x / 2 ^ 52 ≠ 0) (hs : sg x = false) (j : Nat) (hp : plc x + j = 1075) (hj0 : 0 < j) :
    Calls Tryz.prog 64 #[.pointer (some ⟨bz, 0, none⟩), .float .f64 x] w (RatRet bz (fv x) w) := by
  have h3 := f64bits_run
  have a1 := exp_field hx
  have a2 := man_field hx
  have a3 := sign_bit hx
  rw [hs] at a3
  have hl := plc_le hf
  have hm := mant_lt x
  have hbs := bl_smant x
  have hv := fv_low hp
  have hmm : mant x = 2 ^ 52 + x % 2 ^ 52 := by unfold mant; rw [if_neg he]
  have hpp : plc x = rg x / 2 ^ 52 := by unfold plc; rw [if_neg he]
  have a4 := u64_or_top (m := x % 2 ^ 52) (by omega)
  rw [← hmm] at a4
  rw [← hpp] at a1
  have hm2 : x % 2 ^ 52 < 2 ^ 52 := by omega
  generalize x % 2 ^ 52 = m at *
  have q4 : (m : Int) < 4503599627370496 := by omega
  have q1 : ((plc x : Nat) : Int) ≤ 2046 := by omega
  have q2 : ((((plc x : Nat) : Int)) == 2047) = false := by rw [beq_eq_false_iff_ne]; omega
  have q3 : ((((plc x : Nat) : Int)) == 0) = false := by rw [beq_eq_false_iff_ne]; omega
  have hsm := smant_pos hs
  have HZ := Lib.hid hz
  have LZ := Lib.hid hz.lt
  have HSM := Lib.hid hsm
  have HV := Lib.hid hv
  have HBS := Lib.hid hbs
  have HM := Lib.hid hm
  have xI : (x : Int) < 18446744073709551616 := by omega
  have HBM : Hid (bl ((mant x : Nat) : Int) ≤ 53) := Lib.hid (by unfold bl; rw [Int.natAbs_natCast]; exact blen_le_of hm)
  obtain ⟨r, hr⟩ : ∃ r, fv x = r := ⟨_, rfl⟩
  rw [hr] at HV ⊢
  generalize plc x = P at *
  generalize mant x = M at *
  generalize smant x = S at *
  have mI : (M : Int) < 9007199254740992 := by omega
  have hj : j ≤ 2000 := by omega
  have HJ := Lib.hid hj
  obtain ⟨J, hJ⟩ : ∃ J : Int, -(j : Int) = J := ⟨_, rfl⟩
  have e5 : (P : Int) - 1075 = J := by omega
  have e6 : -2000 ≤ J := by omega
  have e7 : J < 0 := by omega
  obtain ⟨J1, hJ1⟩ : ∃ J1 : Int, -J = J1 := ⟨_, rfl⟩
  have HJ0 := Lib.hid (show J1 = (j : Int) by omega)
  have w5 : IntKind.i64.wrap ((P : Int) - 1075) = J := by rw [e5]; exact IntWalk.i64_in _ (by omega)
  have w6 : IntKind.i64.wrap (-J) = J1 := by rw [hJ1]; exact IntWalk.i64_in _ (by omega)
  have w7 : IntKind.u64.wrap J1 = J1 := u64w _ (by omega) (by omega)
  replace e7 : decide ((0 : Int) ≤ J) = false := decide_eq_false (by omega)
  clear hJ hJ1 e6
  clear hj0 hz hx hf he hs hp hl hm hbs hv hmm hpp hsm hr hj e5 hm2
  go_enter Tryz.func64, Tryz.ntmps64
  go_wp2_with fail
  refine (setUint64_any w.heap.size 0 M _ (znew w) (by have := HM.out; omega)).mono ?_
  rintro e w1 ⟨rfl, hi, hr⟩
  have B1 := Lib.hid (newW hr)
  have P1 := Lib.hid hi
  have LP := Lib.hid hi.lt
  clear hi hr
  go_wp2_with fail
  have PS := Lib.hid (int_eq HSM.out.symm P1.out)
  have BB := B1
  refine (newInt_any 1 (w1.alloc (.cells #[.bool false, .slice none 0 0] 60)) (by decide) (by decide)).mono ?_
  rintro e w3 ⟨bn, rfl, hbn, hi, hb⟩
  have B3 := Lib.hid ((bal BB.out).trans (hb.mono (bal BB.out).size))
  have ON := Lib.hid hi
  have Q0 := Lib.hid ((znew w1).below hb)
  have P3 := Lib.hid ((PS.out.below (bnew _ _)).below hb)
  have LQ := Lib.hid (show w.heap.size ≤ w1.heap.size from BB.out.size)
  have LPQ := Lib.hid (show w.heap.size ≠ w1.heap.size from Nat.ne_of_lt PS.out.lt)
  clear hi hb hbn
  go_wp2_with fail
  rw [HJ0.out]
  refine (lsh_any w1.heap.size 0 bn 0 1 j w3 Q0.out ON.out (by decide) (by have := HJ.out; omega)).mono ?_
  rintro e w4 ⟨rfl, hi, hr⟩
  rw [Int.one_mul] at hi
  have B4 := Lib.hid (bwr B3.out hr LQ.out)
  have Q4 := Lib.hid hi
  have P4 := Lib.hid (P3.out.wr hr Q0.out (.inl LPQ.out))
  clear hi hr
  go_wp2_with fail
  with_reducible refine (setFrac_any bz w.heap.size 0 w1.heap.size 0 S (2 ^ j) w4 (HZ.out.below B4.out) P4.out Q4.out (Nat.two_pow_pos j) (Nat.le_trans HBS.out (by decide)) (Nat.le_trans (bl_pow_le HJ.out) (by decide)) (sm_pow _ _)).mono ?_
  rintro e w5 ⟨rfl, hra, hr⟩
  have R := Lib.hid hra
  have RW := Lib.hid ((Wr.of_below bz 0 4 B4.out).trans hr)
  clear hra hr
  go_wp2_with fail
  go_ret
  exact ⟨rfl, by rw [HV.out]; exact R.out, RW.out⟩
/-- Rat.SetFloat64 of a finite number -/
theorem setFloat_any (bz x : Nat) (w : World) (hz : ZAt TW w bz 0 4) (hx : x < 2 ^ 64) (hf : fin x) :
    Calls Tryz.prog 64 #[.pointer (some ⟨bz, 0, none⟩), .float .f64 x] w (RatRet bz (fv x) w) := by
  have hp := plc_pos x
  by_cases he : rg x / 2 ^ 52 = 0
  · have hpp : plc x = 1 := by unfold plc; rw [if_pos he]
    cases hs : sg x
    · exact setFloat_den_pos_frac bz x w hz hx hf he hs (1075 - plc x) (by omega) (by omega)
    · exact setFloat_den_neg_frac bz x w hz hx hf he hs (1075 - plc x) (by omega) (by omega)
  · by_cases g : plc x < 1075
    · cases hs : sg x
      · exact setFloat_nrm_pos_frac bz x w hz hx hf he hs (1075 - plc x) (by omega) (by omega)
      · exact setFloat_nrm_neg_frac bz x w hz hx hf he hs (1075 - plc x) (by omega) (by omega)
    · cases hs : sg x
      · exact setFloat_nrm_pos_int bz x w hz hx hf he hs (plc x - 1075) (by omega)
      · exact setFloat_nrm_neg_int bz x w hz hx hf he hs (plc x - 1075) (by omega)
end Go.Proofs.YtokmommlabdcdaaGreatDoor
