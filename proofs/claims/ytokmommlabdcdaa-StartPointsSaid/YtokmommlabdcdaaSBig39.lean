/- Contract of surdbig's Rat.rounded (of 53 bits, -1074 at least). (Printed by wip/gen39.py.) Contract of surdbig's Rat.Float64. Contracts of surdref0's Pow, surdbig's NewRat, Rat.Set, Neg, Sub. Contracts of surdbig's Rat.Set, Neg, Sub. -/
import Derived.Test.YtokmommlabdcdaaSBig37
import Derived.Test.YtokmommlabdcdaaSBig11
import Derived.Test.YtokmommlabdcdaaSBig23
import Derived.Test.YtokmommlabdcdaaSCpx
import Derived.Test.YtokmommlabdcdaaSFlRel
import Derived.Test.YtokmommlabdcdaaSBig36
set_option linter.unusedVariables false
set_option linter.unusedSimpArgs false
set_option linter.unusedVariables false
set_option linter.unusedSimpArgs false
namespace Go.Proofs.Ytokmommlabdcdaa
open Wd Fl Go.RowKit
/-- what rounded answers -/
def RdRet (n d : Nat) (w : World) (e : Ending) (w' : World) : Prop := ∃ (m : Nat) (K : Int) (ex : Bool), e = .returned (.tuple #[.int .u64 (m : Int), .int .i64 K, .bool ex]) ∧ m = RNE (scN n K) (scD d K) ∧ -1074 ≤ K ∧ K ≤ 20000 ∧ scN n K / scD d K < 2 ^ 53 ∧ (K = -1074 ∨ 2 ^ 52 ≤ scN n K / scD d K) ∧ Below w.heap.size w w'
theorem cmpZ_lt {n m : Int} (h : n < m) : cmpZ n m = -1 := by unfold cmpZ; rw [if_pos h]
theorem cmpZ_gt {n m : Int} (h : m < n) : cmpZ n m = 1 := by unfold cmpZ; rw [if_neg (by omega), if_pos h]
theorem cmpZ_eq {n m : Int} (h : n = m) : cmpZ n m = 0 := by unfold cmpZ; rw [if_neg (by omega), if_neg (by omega)]
theorem rne_up {A B : Nat} (h : B < 2 * (A % B)) : A / B + 1 = RNE A B := by rw [RNE_cmp, if_pos (.inl h)]
theorem rne_tie {A B : Nat} (h : 2 * (A % B) = B) (h1 : A / B % 2 = 1) : A / B + 1 = RNE A B := by rw [RNE_cmp, if_pos (.inr ⟨h, h1⟩)]
theorem rne_even {A B : Nat} (h : 2 * (A % B) = B) (h1 : A / B % 2 = 0) : A / B = RNE A B := by rw [RNE_cmp, if_neg (by omega), Nat.add_zero]
theorem rne_down {A B : Nat} (h : 2 * (A % B) < B) : A / B = RNE A B := by rw [RNE_cmp, if_neg (by omega), Nat.add_zero]
theorem bl_scD {d B : Nat} {K : Int} (h : bl (d : Int) ≤ B) (hK : K ≤ B) : bl ((scD d K : Nat) : Int) ≤ 2 * B + 1 := bl_nat_mul h (by omega)
theorem bl_mod {a m B : Nat} (hm : 0 < m) (h : bl (m : Int) ≤ B) : bl ((a % m : Nat) : Int) ≤ B := by
  unfold bl at *
  rw [Int.natAbs_natCast] at *
  exact Nat.le_trans (blen_mono (Nat.le_of_lt (Nat.mod_lt _ hm))) h
theorem bl_53 {q : Nat} (h : q < 2 ^ 53) : bl (q : Int) ≤ 53 := by unfold bl; rw [Int.natAbs_natCast]; exact blen_le_of h
theorem bl_53' {n d : Nat} {k : Int} (hd : 0 < d) (hk : k = (blen n : Int) - blen d - 53) : bl ((scN n k / scD d k : Nat) : Int) ≤ 54 := by
  unfold bl; rw [Int.natAbs_natCast]
  exact blen_le_of ((Nat.div_lt_iff_lt_mul (scD_pos hd _)).2 (guess_hi (n := n) (d := d) (j := 0) (k := k) (by omega) (by omega)))
set_option maxRecDepth 100000 in
set_option maxHeartbeats 8000000 in
theorem rounded_A (b : Nat) (x : Rat) (w : World) (hx : RatAt w b x) (h0 : x.num ≠ 0) (hn : bl x.num ≤ 5000) (hd : bl (x.den : Int) ≤ 5000) (k : Int) (hk : (bl x.num : Int) - (bl (x.den : Int) : Nat) - 53 = k) (hc : k < -1074) :
    Calls Try.prog 90 #[.pointer (some ⟨b, 0, none⟩), .int .i64 53, .int .i64 (-1074)] w (RdRet x.num.natAbs x.den w) := by
  have hkd : k = (blen x.num.natAbs : Int) - blen x.den - 53 := by rw [← hk]; unfold bl; rw [Int.natAbs_natCast]
  have hn0 : x.num.natAbs ≠ 0 := fun h => h0 (Int.natAbs_eq_zero.1 h)
  have hd0 := x.den_pos
  have fin : scN x.num.natAbs (-1074) / scD x.den (-1074) < 2 ^ 53 ∧ ((-1074 : Int) = -1074 ∨ 2 ^ 52 ≤ scN x.num.natAbs (-1074) / scD x.den (-1074)) := ⟨place_small hd0 hkd hc rfl, .inl rfl⟩
  have HX := Lib.hid hx
  have HN := Lib.hid hn
  have HD := Lib.hid hd
  obtain ⟨k1, hk1⟩ : ∃ k : Int, (bl x.num : Int) - (bl (x.den : Int) : Nat) = k := ⟨_, rfl⟩
  obtain ⟨u, hu⟩ : ∃ u : Int, ((bl x.num : Nat) : Int) = u := ⟨_, rfl⟩
  obtain ⟨v, hv⟩ : ∃ v : Int, ((bl (x.den : Int) : Nat) : Int) = v := ⟨_, rfl⟩
  have hkb : -6000 ≤ k ∧ k ≤ 5000 := by omega
  have w1 : IntKind.i64.wrap (u - v) = k1 := by rw [← hu, ← hv, hk1]; exact IntWalk.i64_in _ (by omega)
  have w2 : IntKind.i64.wrap (k1 - 53) = k := by rw [← hk1, hk]; exact IntWalk.i64_in _ (by omega)
  have HU := Lib.hid hu
  have HV := Lib.hid hv
  have KB := Lib.hid hkb
  have g0 : decide (-1074 ≤ k) = false := decide_eq_false (by omega)
  have FIN := Lib.hid fin
  have KL := Lib.hid (show -1074 ≤ (-1074) ∧ (-1074) ≤ 6000 by omega)
  obtain ⟨n, hnn⟩ : ∃ n, x.num.natAbs = n := ⟨_, rfl⟩
  obtain ⟨d, hdd⟩ : ∃ d, x.den = d := ⟨_, rfl⟩
  rw [hnn, hdd] at FIN
  have HDB : Hid (bl ((scD d (-1074) : Nat) : Int) ≤ 20001) := Lib.hid (Nat.le_trans (bl_scD (B := 6000) (by rw [← hdd]; exact Nat.le_trans hd (by decide)) (by omega)) (by decide))
  have HDP := Lib.hid (scD_pos (d := d) (by rw [← hdd]; exact hd0) (-1074))
  rw [hnn, hdd]
  have HNN := Lib.hid hnn
  have HDD := Lib.hid hdd
  
  clear hx h0 hn hd hk hk1 hu hv hkb hkd hn0 hd0 fin hnn hdd  
  go_enter Try.func90, Try.ntmps90
  go_wp2_with fail
  refine (bitLen_any b 0 x.num w HX.out.num (Nat.le_trans HN.out (by decide))).mono ?_
  rintro e wa ⟨rfl, hb⟩
  rw [HU.out]
  have B1 := Lib.hid hb
  have HX1 := Lib.hid (HX.out.below hb)
  clear hb
  go_wp2_with fail
  refine (denom_any b x wa HX1.out).mono ?_
  rintro e wb ⟨bP, oP, rfl, hi, hb, hor⟩
  have B2 := Lib.hid (B1.out.trans (hb.mono B1.out.size))
  have P := Lib.hid hi
  have HX2 := Lib.hid (HX1.out.below hb)
  clear hi hb hor
  go_wp2_with fail
  refine (bitLen_any bP oP (x.den : Int) wb P.out (Nat.le_trans HD.out (by decide))).mono ?_
  rintro e wc0 ⟨rfl, hb⟩
  rw [HV.out]
  have B3 := Lib.hid (B2.out.trans (hb.mono B2.out.size))
  have HX3 := Lib.hid (HX2.out.below hb)
  clear hb
  go_wp2_with fail
  with_reducible refine (scaled_any b x (-1074) wc0 HX3.out (Nat.le_trans HN.out (by decide)) (Nat.le_trans HD.out (by decide)) (by have := KB.out; omega) (by have := KB.out; omega)).mono ?_
  intro e w5 h5
  rw [HNN.out, HDD.out] at h5
  rcases h5 with ⟨bq, br, bc, rfl, hq, hr, hcd, hb, hle⟩
  have B5 := Lib.hid (B3.out.trans (hb.mono B3.out.size))
  have LQ := Lib.hid (Nat.le_trans B3.out.size hle)
  have Q := Lib.hid hq
  have R := Lib.hid hr
  have C := Lib.hid hcd
  have HX5 := Lib.hid (HX3.out.below hb)
  clear hq hr hcd hb hle
  go_wp2_with fail
  obtain ⟨qn, hqn⟩ : ∃ q, scN n (-1074) / scD d (-1074) = q := ⟨_, rfl⟩
  obtain ⟨rn, hrn⟩ : ∃ q, scN n (-1074) % scD d (-1074) = q := ⟨_, rfl⟩
  have HQN := Lib.hid hqn
  have HRN := Lib.hid hrn
  have HRB : Hid (bl ((rn : Nat) : Int) ≤ 20001) := Lib.hid (by rw [← hrn]; exact bl_mod HDP.out HDB.out)
  rw [hqn] at Q
  rw [hrn] at R
  have HQB : Hid (qn < 2 ^ 53) := Lib.hid (by rw [← hqn]; exact FIN.out.1)
  have HQBL : Hid (bl (qn : Int) ≤ 53) := Lib.hid (bl_53 HQB.out)
  clear hqn hrn
  obtain ⟨sr, hsr⟩ : ∃ s, sigI (rn : Int) = s := ⟨_, rfl⟩
  have SG := Lib.hid (isign_any br 0 (rn : Int) w5 R.out (Nat.le_trans HRB.out (by decide)))
  rw [hsr] at SG
  clear hsr
  refine SG.out.mono ?_
  rintro e w' ⟨rfl, rfl⟩
  go_wp2_with fail
  refine (lsh_any w5.heap.size 0 br 0 (rn : Int) 1 _ (znew w5) (R.out.below (bnew w5 _)) (Nat.le_trans HRB.out (by decide)) (by decide)).mono ?_
  rintro e w8 ⟨rfl, hi, hr⟩
  have B8 := Lib.hid (bwr (bal B5.out) hr B5.out.size)
  have BS := Lib.hid (newW hr)
  have T8 := Lib.hid hi
  have Q8 := Lib.hid (Q.out.below BS.out)
  have C8 := Lib.hid (C.out.below BS.out)
  clear hi hr BS
  go_wp2_with fail
  with_reducible refine (cmp_any w5.heap.size 0 bc 0 _ _ w8 T8.out C8.out (by have := bl_mul (rn : Int) ((2 ^ 1 : Nat) : Int); have := bl_pow_le (Nat.le_refl 1); have := HRB.out; omega) (Nat.le_trans HDB.out (by decide))).mono ?_
  rintro e w9 ⟨rfl, hb⟩
  have B9 := Lib.hid (B8.out.trans (hb.mono B8.out.size))
  have Q9 := Lib.hid (Q8.out.below hb)
  clear hb
  have h2r : (rn : Int) * ((2 ^ 1 : Nat) : Int) = ((2 * rn : Nat) : Int) := by rw [Int.natCast_mul, Int.mul_comm]
  rw [h2r]
  clear h2r
  rcases Nat.lt_trichotomy (2 * rn) (scD d (-1074)) with h | h | h
  · have H := Lib.hid h
    rw [cmpZ_lt (show ((2 * rn : Nat) : Int) < _ from Int.ofNat_lt.2 h)]
    clear h
    go_wp2_with fail
    refine (uint64_any bq 0 (qn : Int) w9 Q9.out (by rw [Int.natAbs_natCast]; have := HQB.out; omega)).mono ?_
    rintro e w' ⟨rfl, rfl⟩
    rw [Int.natAbs_natCast]
    go_wp2_with fail
    go_ret3
    exact ⟨_, (-1074), _, rfl, (by rw [← HQN.out]; exact rne_down (by rw [HRN.out]; exact H.out)), KL.out.1, Int.le_trans KL.out.2 (by decide), FIN.out.1, .inl rfl, B9.out⟩
  · have H := Lib.hid h
    rw [cmpZ_eq (show ((2 * rn : Nat) : Int) = _ from congrArg _ h)]
    clear h
    go_wp2_with fail
    have BT := Lib.hid (bit0_any bq 0 (qn : Int) w9 Q9.out (Nat.le_trans HQBL.out (by decide)))
    rw [Int.natAbs_natCast] at BT
    rcases Nat.mod_two_eq_zero_or_one qn with c | c
    · have CC := Lib.hid c
      rw [c] at BT
      clear c
      refine BT.out.mono ?_
      rintro e w' ⟨rfl, rfl⟩
      go_wp2_with fail
      refine (uint64_any bq 0 (qn : Int) w9 Q9.out (by rw [Int.natAbs_natCast]; have := HQB.out; omega)).mono ?_
      rintro e w' ⟨rfl, rfl⟩
      rw [Int.natAbs_natCast]
      go_wp2_with fail
      go_ret3
      exact ⟨_, (-1074), _, rfl, (by rw [← HQN.out]; exact rne_even (by rw [HRN.out]; exact H.out) (by rw [HQN.out]; exact CC.out)), KL.out.1, Int.le_trans KL.out.2 (by decide), FIN.out.1, .inl rfl, B9.out⟩
    · have CC := Lib.hid c
      rw [c] at BT
      clear c
      refine BT.out.mono ?_
      rintro e w' ⟨rfl, rfl⟩
      go_wp2_with fail
      refine (newInt_any 1 w9 (by decide) (by decide)).mono ?_
      rintro e wx ⟨bn, rfl, hbn, hi, hb⟩
      have BX := Lib.hid (B9.out.trans (hb.mono B9.out.size))
      have QX := Lib.hid (Q9.out.below hb)
      have OX := Lib.hid hi
      clear hbn hi hb
      go_wp2_with fail
      refine (iadd_any bq 0 bq 0 bn 0 (qn : Int) 1 wx QX.out.z QX.out OX.out (Nat.le_trans HQBL.out (by decide)) (by decide)).mono ?_
      rintro e wy ⟨rfl, hi, hr⟩
      have BE := Lib.hid (bwr BX.out hr LQ.out)
      have QE : Hid (IntAt TW wy ⟨bq, 0, none⟩ ((qn + 1 : Nat) : Int)) := Lib.hid hi
      clear hi hr
      go_wp2_with fail
      refine (uint64_any bq 0 ((qn + 1 : Nat) : Int) wy QE.out (by rw [Int.natAbs_natCast]; have := HQB.out; omega)).mono ?_
      rintro e w' ⟨rfl, rfl⟩
      rw [Int.natAbs_natCast]
      go_wp2_with fail
      go_ret3
      exact ⟨_, (-1074), _, rfl, (by rw [← HQN.out]; exact rne_tie (by rw [HRN.out]; exact H.out) (by rw [HQN.out]; exact CC.out)), KL.out.1, Int.le_trans KL.out.2 (by decide), FIN.out.1, .inl rfl, BE.out⟩
  · have H := Lib.hid h
    rw [cmpZ_gt (show _ < ((2 * rn : Nat) : Int) from Int.ofNat_lt.2 h)]
    clear h
    go_wp2_with fail
    refine (newInt_any 1 w9 (by decide) (by decide)).mono ?_
    rintro e wx ⟨bn, rfl, hbn, hi, hb⟩
    have BX := Lib.hid (B9.out.trans (hb.mono B9.out.size))
    have QX := Lib.hid (Q9.out.below hb)
    have OX := Lib.hid hi
    clear hbn hi hb
    go_wp2_with fail
    refine (iadd_any bq 0 bq 0 bn 0 (qn : Int) 1 wx QX.out.z QX.out OX.out (Nat.le_trans HQBL.out (by decide)) (by decide)).mono ?_
    rintro e wy ⟨rfl, hi, hr⟩
    have BE := Lib.hid (bwr BX.out hr LQ.out)
    have QE : Hid (IntAt TW wy ⟨bq, 0, none⟩ ((qn + 1 : Nat) : Int)) := Lib.hid hi
    clear hi hr
    go_wp2_with fail
    refine (uint64_any bq 0 ((qn + 1 : Nat) : Int) wy QE.out (by rw [Int.natAbs_natCast]; have := HQB.out; omega)).mono ?_
    rintro e w' ⟨rfl, rfl⟩
    rw [Int.natAbs_natCast]
    go_wp2_with fail
    go_ret3
    exact ⟨_, (-1074), _, rfl, (by rw [← HQN.out]; exact rne_up (by rw [HRN.out]; exact H.out)), KL.out.1, Int.le_trans KL.out.2 (by decide), FIN.out.1, .inl rfl, BE.out⟩
set_option maxRecDepth 100000 in
set_option maxHeartbeats 8000000 in
theorem rounded_B (b : Nat) (x : Rat) (w : World) (hx : RatAt w b x) (h0 : x.num ≠ 0) (hn : bl x.num ≤ 5000) (hd : bl (x.den : Int) ≤ 5000) (k : Int) (hk : (bl x.num : Int) - (bl (x.den : Int) : Nat) - 53 = k) (hc : -1074 ≤ k) (hq : bl ((scN x.num.natAbs k / scD x.den k : Nat) : Int) ≤ 53) :
    Calls Try.prog 90 #[.pointer (some ⟨b, 0, none⟩), .int .i64 53, .int .i64 (-1074)] w (RdRet x.num.natAbs x.den w) := by
  have hkd : k = (blen x.num.natAbs : Int) - blen x.den - 53 := by rw [← hk]; unfold bl; rw [Int.natAbs_natCast]
  have hn0 : x.num.natAbs ≠ 0 := fun h => h0 (Int.natAbs_eq_zero.1 h)
  have hd0 := x.den_pos
  have hq' : blen (scN x.num.natAbs k / scD x.den k) ≤ 53 := by unfold bl at hq; rwa [Int.natAbs_natCast] at hq
  have fin : scN x.num.natAbs k / scD x.den k < 2 ^ 53 ∧ (k = -1074 ∨ 2 ^ 52 ≤ scN x.num.natAbs k / scD x.den k) := ⟨(place_here hn0 hd0 hkd hq').1, .inr (place_here hn0 hd0 hkd hq').2⟩
  have HX := Lib.hid hx
  have HN := Lib.hid hn
  have HD := Lib.hid hd
  obtain ⟨k1, hk1⟩ : ∃ k : Int, (bl x.num : Int) - (bl (x.den : Int) : Nat) = k := ⟨_, rfl⟩
  obtain ⟨u, hu⟩ : ∃ u : Int, ((bl x.num : Nat) : Int) = u := ⟨_, rfl⟩
  obtain ⟨v, hv⟩ : ∃ v : Int, ((bl (x.den : Int) : Nat) : Int) = v := ⟨_, rfl⟩
  have hkb : -6000 ≤ k ∧ k ≤ 5000 := by omega
  have w1 : IntKind.i64.wrap (u - v) = k1 := by rw [← hu, ← hv, hk1]; exact IntWalk.i64_in _ (by omega)
  have w2 : IntKind.i64.wrap (k1 - 53) = k := by rw [← hk1, hk]; exact IntWalk.i64_in _ (by omega)
  have HU := Lib.hid hu
  have HV := Lib.hid hv
  have KB := Lib.hid hkb
  have g0 : decide (-1074 ≤ k) = true := decide_eq_true hc
  obtain ⟨ql, hql⟩ : ∃ q : Int, ((bl ((scN x.num.natAbs k / scD x.den k : Nat) : Int) : Nat) : Int) = q := ⟨_, rfl⟩
  have g1 : decide (53 < ql) = false := decide_eq_false (by omega)
  have HQL := Lib.hid hql
  have BQ0 : bl ((scN x.num.natAbs k / scD x.den k : Nat) : Int) ≤ 100000 := Nat.le_trans (bl_53' hd0 hkd) (by decide)
  have BQ := Lib.hid BQ0
  have FIN := Lib.hid fin
  have KL := Lib.hid (show -1074 ≤ k ∧ k ≤ 6000 by omega)
  obtain ⟨n, hnn⟩ : ∃ n, x.num.natAbs = n := ⟨_, rfl⟩
  obtain ⟨d, hdd⟩ : ∃ d, x.den = d := ⟨_, rfl⟩
  rw [hnn, hdd] at FIN
  have HDB : Hid (bl ((scD d k : Nat) : Int) ≤ 20001) := Lib.hid (Nat.le_trans (bl_scD (B := 6000) (by rw [← hdd]; exact Nat.le_trans hd (by decide)) (by omega)) (by decide))
  have HDP := Lib.hid (scD_pos (d := d) (by rw [← hdd]; exact hd0) k)
  rw [hnn, hdd]
  have HNN := Lib.hid hnn
  have HDD := Lib.hid hdd
  rw [hnn, hdd] at HQL
  rw [HNN.out, HDD.out] at BQ
  clear BQ0 hx h0 hn hd hk hk1 hu hv hkb hkd hn0 hd0 fin hnn hdd hq hq' hql 
  go_enter Try.func90, Try.ntmps90
  go_wp2_with fail
  refine (bitLen_any b 0 x.num w HX.out.num (Nat.le_trans HN.out (by decide))).mono ?_
  rintro e wa ⟨rfl, hb⟩
  rw [HU.out]
  have B1 := Lib.hid hb
  have HX1 := Lib.hid (HX.out.below hb)
  clear hb
  go_wp2_with fail
  refine (denom_any b x wa HX1.out).mono ?_
  rintro e wb ⟨bP, oP, rfl, hi, hb, hor⟩
  have B2 := Lib.hid (B1.out.trans (hb.mono B1.out.size))
  have P := Lib.hid hi
  have HX2 := Lib.hid (HX1.out.below hb)
  clear hi hb hor
  go_wp2_with fail
  refine (bitLen_any bP oP (x.den : Int) wb P.out (Nat.le_trans HD.out (by decide))).mono ?_
  rintro e wc0 ⟨rfl, hb⟩
  rw [HV.out]
  have B3 := Lib.hid (B2.out.trans (hb.mono B2.out.size))
  have HX3 := Lib.hid (HX2.out.below hb)
  clear hb
  go_wp2_with fail
  with_reducible refine (scaled_any b x k wc0 HX3.out (Nat.le_trans HN.out (by decide)) (Nat.le_trans HD.out (by decide)) (by have := KB.out; omega) (by have := KB.out; omega)).mono ?_
  intro e w5 h5
  rw [HNN.out, HDD.out] at h5
  rcases h5 with ⟨bq, br, bc, rfl, hq, hr, hcd, hb, hle⟩
  have B5 := Lib.hid (B3.out.trans (hb.mono B3.out.size))
  have LQ := Lib.hid (Nat.le_trans B3.out.size hle)
  have Q := Lib.hid hq
  have R := Lib.hid hr
  have C := Lib.hid hcd
  have HX5 := Lib.hid (HX3.out.below hb)
  clear hq hr hcd hb hle
  go_wp2_with fail
  refine (bitLen_any bq 0 _ w5 Q.out BQ.out).mono ?_
  rintro e w6 ⟨rfl, hb⟩
  rw [HQL.out]
  have B6 := Lib.hid (B5.out.trans (hb.mono B5.out.size))
  have Q6 := Lib.hid (Q.out.below hb)
  have R6 := Lib.hid (R.out.below hb)
  have C6 := Lib.hid (C.out.below hb)
  have HX6 := Lib.hid (HX5.out.below hb)
  clear hb
  go_wp2_with fail
  obtain ⟨qn, hqn⟩ : ∃ q, scN n k / scD d k = q := ⟨_, rfl⟩
  obtain ⟨rn, hrn⟩ : ∃ q, scN n k % scD d k = q := ⟨_, rfl⟩
  have HQN := Lib.hid hqn
  have HRN := Lib.hid hrn
  have HRB : Hid (bl ((rn : Nat) : Int) ≤ 20001) := Lib.hid (by rw [← hrn]; exact bl_mod HDP.out HDB.out)
  rw [hqn] at Q6
  rw [hrn] at R6
  have HQB : Hid (qn < 2 ^ 53) := Lib.hid (by rw [← hqn]; exact FIN.out.1)
  have HQBL : Hid (bl (qn : Int) ≤ 53) := Lib.hid (bl_53 HQB.out)
  clear hqn hrn
  obtain ⟨sr, hsr⟩ : ∃ s, sigI (rn : Int) = s := ⟨_, rfl⟩
  have SG := Lib.hid (isign_any br 0 (rn : Int) w6 R6.out (Nat.le_trans HRB.out (by decide)))
  rw [hsr] at SG
  clear hsr
  refine SG.out.mono ?_
  rintro e w' ⟨rfl, rfl⟩
  go_wp2_with fail
  refine (lsh_any w6.heap.size 0 br 0 (rn : Int) 1 _ (znew w6) (R6.out.below (bnew w6 _)) (Nat.le_trans HRB.out (by decide)) (by decide)).mono ?_
  rintro e w8 ⟨rfl, hi, hr⟩
  have B8 := Lib.hid (bwr (bal B6.out) hr B6.out.size)
  have BS := Lib.hid (newW hr)
  have T8 := Lib.hid hi
  have Q8 := Lib.hid (Q6.out.below BS.out)
  have C8 := Lib.hid (C6.out.below BS.out)
  clear hi hr BS
  go_wp2_with fail
  with_reducible refine (cmp_any w6.heap.size 0 bc 0 _ _ w8 T8.out C8.out (by have := bl_mul (rn : Int) ((2 ^ 1 : Nat) : Int); have := bl_pow_le (Nat.le_refl 1); have := HRB.out; omega) (Nat.le_trans HDB.out (by decide))).mono ?_
  rintro e w9 ⟨rfl, hb⟩
  have B9 := Lib.hid (B8.out.trans (hb.mono B8.out.size))
  have Q9 := Lib.hid (Q8.out.below hb)
  clear hb
  have h2r : (rn : Int) * ((2 ^ 1 : Nat) : Int) = ((2 * rn : Nat) : Int) := by rw [Int.natCast_mul, Int.mul_comm]
  rw [h2r]
  clear h2r
  rcases Nat.lt_trichotomy (2 * rn) (scD d k) with h | h | h
  · have H := Lib.hid h
    rw [cmpZ_lt (show ((2 * rn : Nat) : Int) < _ from Int.ofNat_lt.2 h)]
    clear h
    go_wp2_with fail
    refine (uint64_any bq 0 (qn : Int) w9 Q9.out (by rw [Int.natAbs_natCast]; have := HQB.out; omega)).mono ?_
    rintro e w' ⟨rfl, rfl⟩
    rw [Int.natAbs_natCast]
    go_wp2_with fail
    go_ret3
    exact ⟨_, k, _, rfl, (by rw [← HQN.out]; exact rne_down (by rw [HRN.out]; exact H.out)), KL.out.1, Int.le_trans KL.out.2 (by decide), FIN.out.1, FIN.out.2, B9.out⟩
  · have H := Lib.hid h
    rw [cmpZ_eq (show ((2 * rn : Nat) : Int) = _ from congrArg _ h)]
    clear h
    go_wp2_with fail
    have BT := Lib.hid (bit0_any bq 0 (qn : Int) w9 Q9.out (Nat.le_trans HQBL.out (by decide)))
    rw [Int.natAbs_natCast] at BT
    rcases Nat.mod_two_eq_zero_or_one qn with c | c
    · have CC := Lib.hid c
      rw [c] at BT
      clear c
      refine BT.out.mono ?_
      rintro e w' ⟨rfl, rfl⟩
      go_wp2_with fail
      refine (uint64_any bq 0 (qn : Int) w9 Q9.out (by rw [Int.natAbs_natCast]; have := HQB.out; omega)).mono ?_
      rintro e w' ⟨rfl, rfl⟩
      rw [Int.natAbs_natCast]
      go_wp2_with fail
      go_ret3
      exact ⟨_, k, _, rfl, (by rw [← HQN.out]; exact rne_even (by rw [HRN.out]; exact H.out) (by rw [HQN.out]; exact CC.out)), KL.out.1, Int.le_trans KL.out.2 (by decide), FIN.out.1, FIN.out.2, B9.out⟩
    · have CC := Lib.hid c
      rw [c] at BT
      clear c
      refine BT.out.mono ?_
      rintro e w' ⟨rfl, rfl⟩
      go_wp2_with fail
      refine (newInt_any 1 w9 (by decide) (by decide)).mono ?_
      rintro e wx ⟨bn, rfl, hbn, hi, hb⟩
      have BX := Lib.hid (B9.out.trans (hb.mono B9.out.size))
      have QX := Lib.hid (Q9.out.below hb)
      have OX := Lib.hid hi
      clear hbn hi hb
      go_wp2_with fail
      refine (iadd_any bq 0 bq 0 bn 0 (qn : Int) 1 wx QX.out.z QX.out OX.out (Nat.le_trans HQBL.out (by decide)) (by decide)).mono ?_
      rintro e wy ⟨rfl, hi, hr⟩
      have BE := Lib.hid (bwr BX.out hr LQ.out)
      have QE : Hid (IntAt TW wy ⟨bq, 0, none⟩ ((qn + 1 : Nat) : Int)) := Lib.hid hi
      clear hi hr
      go_wp2_with fail
      refine (uint64_any bq 0 ((qn + 1 : Nat) : Int) wy QE.out (by rw [Int.natAbs_natCast]; have := HQB.out; omega)).mono ?_
      rintro e w' ⟨rfl, rfl⟩
      rw [Int.natAbs_natCast]
      go_wp2_with fail
      go_ret3
      exact ⟨_, k, _, rfl, (by rw [← HQN.out]; exact rne_tie (by rw [HRN.out]; exact H.out) (by rw [HQN.out]; exact CC.out)), KL.out.1, Int.le_trans KL.out.2 (by decide), FIN.out.1, FIN.out.2, BE.out⟩
  · have H := Lib.hid h
    rw [cmpZ_gt (show _ < ((2 * rn : Nat) : Int) from Int.ofNat_lt.2 h)]
    clear h
    go_wp2_with fail
    refine (newInt_any 1 w9 (by decide) (by decide)).mono ?_
    rintro e wx ⟨bn, rfl, hbn, hi, hb⟩
    have BX := Lib.hid (B9.out.trans (hb.mono B9.out.size))
    have QX := Lib.hid (Q9.out.below hb)
    have OX := Lib.hid hi
    clear hbn hi hb
    go_wp2_with fail
    refine (iadd_any bq 0 bq 0 bn 0 (qn : Int) 1 wx QX.out.z QX.out OX.out (Nat.le_trans HQBL.out (by decide)) (by decide)).mono ?_
    rintro e wy ⟨rfl, hi, hr⟩
    have BE := Lib.hid (bwr BX.out hr LQ.out)
    have QE : Hid (IntAt TW wy ⟨bq, 0, none⟩ ((qn + 1 : Nat) : Int)) := Lib.hid hi
    clear hi hr
    go_wp2_with fail
    refine (uint64_any bq 0 ((qn + 1 : Nat) : Int) wy QE.out (by rw [Int.natAbs_natCast]; have := HQB.out; omega)).mono ?_
    rintro e w' ⟨rfl, rfl⟩
    rw [Int.natAbs_natCast]
    go_wp2_with fail
    go_ret3
    exact ⟨_, k, _, rfl, (by rw [← HQN.out]; exact rne_up (by rw [HRN.out]; exact H.out)), KL.out.1, Int.le_trans KL.out.2 (by decide), FIN.out.1, FIN.out.2, BE.out⟩
set_option maxRecDepth 100000 in
set_option maxHeartbeats 8000000 in
theorem rounded_C (b : Nat) (x : Rat) (w : World) (hx : RatAt w b x) (h0 : x.num ≠ 0) (hn : bl x.num ≤ 5000) (hd : bl (x.den : Int) ≤ 5000) (k : Int) (hk : (bl x.num : Int) - (bl (x.den : Int) : Nat) - 53 = k) (hc : -1074 ≤ k) (hq : ¬ bl ((scN x.num.natAbs k / scD x.den k : Nat) : Int) ≤ 53) :
    Calls Try.prog 90 #[.pointer (some ⟨b, 0, none⟩), .int .i64 53, .int .i64 (-1074)] w (RdRet x.num.natAbs x.den w) := by
  have hkd : k = (blen x.num.natAbs : Int) - blen x.den - 53 := by rw [← hk]; unfold bl; rw [Int.natAbs_natCast]
  have hn0 : x.num.natAbs ≠ 0 := fun h => h0 (Int.natAbs_eq_zero.1 h)
  have hd0 := x.den_pos
  have hq' : ¬ blen (scN x.num.natAbs k / scD x.den k) ≤ 53 := by unfold bl at hq; rwa [Int.natAbs_natCast] at hq
  have fin : scN x.num.natAbs (k + 1) / scD x.den (k + 1) < 2 ^ 53 ∧ (k + 1 = -1074 ∨ 2 ^ 52 ≤ scN x.num.natAbs (k + 1) / scD x.den (k + 1)) := ⟨(place_more hd0 hkd hq').1, .inr (place_more hd0 hkd hq').2⟩
  have HX := Lib.hid hx
  have HN := Lib.hid hn
  have HD := Lib.hid hd
  obtain ⟨k1, hk1⟩ : ∃ k : Int, (bl x.num : Int) - (bl (x.den : Int) : Nat) = k := ⟨_, rfl⟩
  obtain ⟨u, hu⟩ : ∃ u : Int, ((bl x.num : Nat) : Int) = u := ⟨_, rfl⟩
  obtain ⟨v, hv⟩ : ∃ v : Int, ((bl (x.den : Int) : Nat) : Int) = v := ⟨_, rfl⟩
  have hkb : -6000 ≤ k ∧ k ≤ 5000 := by omega
  have w1 : IntKind.i64.wrap (u - v) = k1 := by rw [← hu, ← hv, hk1]; exact IntWalk.i64_in _ (by omega)
  have w2 : IntKind.i64.wrap (k1 - 53) = k := by rw [← hk1, hk]; exact IntWalk.i64_in _ (by omega)
  have HU := Lib.hid hu
  have HV := Lib.hid hv
  have KB := Lib.hid hkb
  have g0 : decide (-1074 ≤ k) = true := decide_eq_true hc
  obtain ⟨ql, hql⟩ : ∃ q : Int, ((bl ((scN x.num.natAbs k / scD x.den k : Nat) : Int) : Nat) : Int) = q := ⟨_, rfl⟩
  have g1 : decide (53 < ql) = true := decide_eq_true (by omega)
  have HQL := Lib.hid hql
  obtain ⟨KK, hKK⟩ : ∃ K : Int, k + 1 = K := ⟨_, rfl⟩
  have w3 : IntKind.i64.wrap (k + 1) = KK := by rw [hKK]; exact IntWalk.i64_in _ (by omega)
  have hcc : -1074 ≤ KK := by omega
  rw [hKK] at fin
  have HKK := Lib.hid hKK
  have BQ0 : bl ((scN x.num.natAbs k / scD x.den k : Nat) : Int) ≤ 100000 := Nat.le_trans (bl_53' hd0 hkd) (by decide)
  have BQ := Lib.hid BQ0
  have FIN := Lib.hid fin
  have KL := Lib.hid (show -1074 ≤ KK ∧ KK ≤ 6000 by omega)
  obtain ⟨n, hnn⟩ : ∃ n, x.num.natAbs = n := ⟨_, rfl⟩
  obtain ⟨d, hdd⟩ : ∃ d, x.den = d := ⟨_, rfl⟩
  rw [hnn, hdd] at FIN
  have HDB : Hid (bl ((scD d KK : Nat) : Int) ≤ 20001) := Lib.hid (Nat.le_trans (bl_scD (B := 6000) (by rw [← hdd]; exact Nat.le_trans hd (by decide)) (by omega)) (by decide))
  have HDP := Lib.hid (scD_pos (d := d) (by rw [← hdd]; exact hd0) KK)
  rw [hnn, hdd]
  have HNN := Lib.hid hnn
  have HDD := Lib.hid hdd
  rw [hnn, hdd] at HQL
  rw [HNN.out, HDD.out] at BQ
  clear BQ0 hx h0 hn hd hk hk1 hu hv hkb hkd hn0 hd0 fin hnn hdd hq hq' hql hKK
  go_enter Try.func90, Try.ntmps90
  go_wp2_with fail
  refine (bitLen_any b 0 x.num w HX.out.num (Nat.le_trans HN.out (by decide))).mono ?_
  rintro e wa ⟨rfl, hb⟩
  rw [HU.out]
  have B1 := Lib.hid hb
  have HX1 := Lib.hid (HX.out.below hb)
  clear hb
  go_wp2_with fail
  refine (denom_any b x wa HX1.out).mono ?_
  rintro e wb ⟨bP, oP, rfl, hi, hb, hor⟩
  have B2 := Lib.hid (B1.out.trans (hb.mono B1.out.size))
  have P := Lib.hid hi
  have HX2 := Lib.hid (HX1.out.below hb)
  clear hi hb hor
  go_wp2_with fail
  refine (bitLen_any bP oP (x.den : Int) wb P.out (Nat.le_trans HD.out (by decide))).mono ?_
  rintro e wc0 ⟨rfl, hb⟩
  rw [HV.out]
  have B3 := Lib.hid (B2.out.trans (hb.mono B2.out.size))
  have HX3 := Lib.hid (HX2.out.below hb)
  clear hb
  go_wp2_with fail
  with_reducible refine (scaled_any b x k wc0 HX3.out (Nat.le_trans HN.out (by decide)) (Nat.le_trans HD.out (by decide)) (by have := KB.out; omega) (by have := KB.out; omega)).mono ?_
  intro e w5 h5
  rw [HNN.out, HDD.out] at h5
  rcases h5 with ⟨bq, br, bc, rfl, hq, hr, hcd, hb, hle⟩
  have B5 := Lib.hid (B3.out.trans (hb.mono B3.out.size))
  have LQ := Lib.hid (Nat.le_trans B3.out.size hle)
  have Q := Lib.hid hq
  have R := Lib.hid hr
  have C := Lib.hid hcd
  have HX5 := Lib.hid (HX3.out.below hb)
  clear hq hr hcd hb hle
  go_wp2_with fail
  refine (bitLen_any bq 0 _ w5 Q.out BQ.out).mono ?_
  rintro e w6 ⟨rfl, hb⟩
  rw [HQL.out]
  have B6 := Lib.hid (B5.out.trans (hb.mono B5.out.size))
  have Q6 := Lib.hid (Q.out.below hb)
  have R6 := Lib.hid (R.out.below hb)
  have C6 := Lib.hid (C.out.below hb)
  have HX6 := Lib.hid (HX5.out.below hb)
  clear hb
  go_wp2_with fail
  with_reducible refine (scaled_any b x KK w6 HX6.out (Nat.le_trans HN.out (by decide)) (Nat.le_trans HD.out (by decide)) (by have := KL.out; omega) (by have := KL.out; omega)).mono ?_
  intro e w7 h7
  rw [HNN.out, HDD.out] at h7
  rcases h7 with ⟨bq2, br2, bc2, rfl, hq, hr, hcd, hb, hle⟩
  have B7 := Lib.hid (B6.out.trans (hb.mono B6.out.size))
  have LQ7 := Lib.hid (Nat.le_trans B6.out.size hle)
  have Q7 := Lib.hid hq
  have R7 := Lib.hid hr
  have C7 := Lib.hid hcd
  clear hq hr hcd hb hle
  go_wp2_with fail
  obtain ⟨qn, hqn⟩ : ∃ q, scN n KK / scD d KK = q := ⟨_, rfl⟩
  obtain ⟨rn, hrn⟩ : ∃ q, scN n KK % scD d KK = q := ⟨_, rfl⟩
  have HQN := Lib.hid hqn
  have HRN := Lib.hid hrn
  have HRB : Hid (bl ((rn : Nat) : Int) ≤ 20001) := Lib.hid (by rw [← hrn]; exact bl_mod HDP.out HDB.out)
  rw [hqn] at Q7
  rw [hrn] at R7
  have HQB : Hid (qn < 2 ^ 53) := Lib.hid (by rw [← hqn]; exact FIN.out.1)
  have HQBL : Hid (bl (qn : Int) ≤ 53) := Lib.hid (bl_53 HQB.out)
  clear hqn hrn
  obtain ⟨sr, hsr⟩ : ∃ s, sigI (rn : Int) = s := ⟨_, rfl⟩
  have SG := Lib.hid (isign_any br2 0 (rn : Int) w7 R7.out (Nat.le_trans HRB.out (by decide)))
  rw [hsr] at SG
  clear hsr
  refine SG.out.mono ?_
  rintro e w' ⟨rfl, rfl⟩
  go_wp2_with fail
  refine (lsh_any w7.heap.size 0 br2 0 (rn : Int) 1 _ (znew w7) (R7.out.below (bnew w7 _)) (Nat.le_trans HRB.out (by decide)) (by decide)).mono ?_
  rintro e w8 ⟨rfl, hi, hr⟩
  have B8 := Lib.hid (bwr (bal B7.out) hr B7.out.size)
  have BS := Lib.hid (newW hr)
  have T8 := Lib.hid hi
  have Q8 := Lib.hid (Q7.out.below BS.out)
  have C8 := Lib.hid (C7.out.below BS.out)
  clear hi hr BS
  go_wp2_with fail
  with_reducible refine (cmp_any w7.heap.size 0 bc2 0 _ _ w8 T8.out C8.out (by have := bl_mul (rn : Int) ((2 ^ 1 : Nat) : Int); have := bl_pow_le (Nat.le_refl 1); have := HRB.out; omega) (Nat.le_trans HDB.out (by decide))).mono ?_
  rintro e w9 ⟨rfl, hb⟩
  have B9 := Lib.hid (B8.out.trans (hb.mono B8.out.size))
  have Q9 := Lib.hid (Q8.out.below hb)
  clear hb
  have h2r : (rn : Int) * ((2 ^ 1 : Nat) : Int) = ((2 * rn : Nat) : Int) := by rw [Int.natCast_mul, Int.mul_comm]
  rw [h2r]
  clear h2r
  rcases Nat.lt_trichotomy (2 * rn) (scD d KK) with h | h | h
  · have H := Lib.hid h
    rw [cmpZ_lt (show ((2 * rn : Nat) : Int) < _ from Int.ofNat_lt.2 h)]
    clear h
    go_wp2_with fail
    refine (uint64_any bq2 0 (qn : Int) w9 Q9.out (by rw [Int.natAbs_natCast]; have := HQB.out; omega)).mono ?_
    rintro e w' ⟨rfl, rfl⟩
    rw [Int.natAbs_natCast]
    go_wp2_with fail
    go_ret3
    exact ⟨_, KK, _, rfl, (by rw [← HQN.out]; exact rne_down (by rw [HRN.out]; exact H.out)), KL.out.1, Int.le_trans KL.out.2 (by decide), FIN.out.1, FIN.out.2, B9.out⟩
  · have H := Lib.hid h
    rw [cmpZ_eq (show ((2 * rn : Nat) : Int) = _ from congrArg _ h)]
    clear h
    go_wp2_with fail
    have BT := Lib.hid (bit0_any bq2 0 (qn : Int) w9 Q9.out (Nat.le_trans HQBL.out (by decide)))
    rw [Int.natAbs_natCast] at BT
    rcases Nat.mod_two_eq_zero_or_one qn with c | c
    · have CC := Lib.hid c
      rw [c] at BT
      clear c
      refine BT.out.mono ?_
      rintro e w' ⟨rfl, rfl⟩
      go_wp2_with fail
      refine (uint64_any bq2 0 (qn : Int) w9 Q9.out (by rw [Int.natAbs_natCast]; have := HQB.out; omega)).mono ?_
      rintro e w' ⟨rfl, rfl⟩
      rw [Int.natAbs_natCast]
      go_wp2_with fail
      go_ret3
      exact ⟨_, KK, _, rfl, (by rw [← HQN.out]; exact rne_even (by rw [HRN.out]; exact H.out) (by rw [HQN.out]; exact CC.out)), KL.out.1, Int.le_trans KL.out.2 (by decide), FIN.out.1, FIN.out.2, B9.out⟩
    · have CC := Lib.hid c
      rw [c] at BT
      clear c
      refine BT.out.mono ?_
      rintro e w' ⟨rfl, rfl⟩
      go_wp2_with fail
      refine (newInt_any 1 w9 (by decide) (by decide)).mono ?_
      rintro e wx ⟨bn, rfl, hbn, hi, hb⟩
      have BX := Lib.hid (B9.out.trans (hb.mono B9.out.size))
      have QX := Lib.hid (Q9.out.below hb)
      have OX := Lib.hid hi
      clear hbn hi hb
      go_wp2_with fail
      refine (iadd_any bq2 0 bq2 0 bn 0 (qn : Int) 1 wx QX.out.z QX.out OX.out (Nat.le_trans HQBL.out (by decide)) (by decide)).mono ?_
      rintro e wy ⟨rfl, hi, hr⟩
      have BE := Lib.hid (bwr BX.out hr LQ7.out)
      have QE : Hid (IntAt TW wy ⟨bq2, 0, none⟩ ((qn + 1 : Nat) : Int)) := Lib.hid hi
      clear hi hr
      go_wp2_with fail
      refine (uint64_any bq2 0 ((qn + 1 : Nat) : Int) wy QE.out (by rw [Int.natAbs_natCast]; have := HQB.out; omega)).mono ?_
      rintro e w' ⟨rfl, rfl⟩
      rw [Int.natAbs_natCast]
      go_wp2_with fail
      go_ret3
      exact ⟨_, KK, _, rfl, (by rw [← HQN.out]; exact rne_tie (by rw [HRN.out]; exact H.out) (by rw [HQN.out]; exact CC.out)), KL.out.1, Int.le_trans KL.out.2 (by decide), FIN.out.1, FIN.out.2, BE.out⟩
  · have H := Lib.hid h
    rw [cmpZ_gt (show _ < ((2 * rn : Nat) : Int) from Int.ofNat_lt.2 h)]
    clear h
    go_wp2_with fail
    refine (newInt_any 1 w9 (by decide) (by decide)).mono ?_
    rintro e wx ⟨bn, rfl, hbn, hi, hb⟩
    have BX := Lib.hid (B9.out.trans (hb.mono B9.out.size))
    have QX := Lib.hid (Q9.out.below hb)
    have OX := Lib.hid hi
    clear hbn hi hb
    go_wp2_with fail
    refine (iadd_any bq2 0 bq2 0 bn 0 (qn : Int) 1 wx QX.out.z QX.out OX.out (Nat.le_trans HQBL.out (by decide)) (by decide)).mono ?_
    rintro e wy ⟨rfl, hi, hr⟩
    have BE := Lib.hid (bwr BX.out hr LQ7.out)
    have QE : Hid (IntAt TW wy ⟨bq2, 0, none⟩ ((qn + 1 : Nat) : Int)) := Lib.hid hi
    clear hi hr
    go_wp2_with fail
    refine (uint64_any bq2 0 ((qn + 1 : Nat) : Int) wy QE.out (by rw [Int.natAbs_natCast]; have := HQB.out; omega)).mono ?_
    rintro e w' ⟨rfl, rfl⟩
    rw [Int.natAbs_natCast]
    go_wp2_with fail
    go_ret3
    exact ⟨_, KK, _, rfl, (by rw [← HQN.out]; exact rne_up (by rw [HRN.out]; exact H.out)), KL.out.1, Int.le_trans KL.out.2 (by decide), FIN.out.1, FIN.out.2, BE.out⟩
/-- Rat.rounded, of 53 bits -/
theorem rounded_any (b : Nat) (x : Rat) (w : World) (hx : RatAt w b x) (h0 : x.num ≠ 0) (hn : bl x.num ≤ 5000) (hd : bl (x.den : Int) ≤ 5000) :
    Calls Try.prog 90 #[.pointer (some ⟨b, 0, none⟩), .int .i64 53, .int .i64 (-1074)] w (RdRet x.num.natAbs x.den w) := by
  by_cases hc : (bl x.num : Int) - (bl (x.den : Int) : Nat) - 53 < -1074
  · exact rounded_A b x w hx h0 hn hd _ rfl hc
  · by_cases hq : bl ((scN x.num.natAbs ((bl x.num : Int) - (bl (x.den : Int) : Nat) - 53) / scD x.den ((bl x.num : Int) - (bl (x.den : Int) : Nat) - 53) : Nat) : Int) ≤ 53
    · exact rounded_B b x w hx h0 hn hd _ rfl (by omega) hq
    · exact rounded_C b x w hx h0 hn hd _ rfl (by omega) hq
end Go.Proofs.Ytokmommlabdcdaa
set_option linter.unusedVariables false
set_option linter.unusedSimpArgs false
namespace Go.Proofs.Ytokmommlabdcdaa
open Wd Fl Go.RowKit
/-- a float, and whether it is just -/
def FlRet (f : Nat) (w : World) (e : Ending) (w' : World) : Prop := ∃ ex : Bool, e = .returned (.tuple #[.float .f64 f, .bool ex]) ∧ Below w.heap.size w w'
theorem neg_wd {r : Nat} (h : r < 2 ^ 63) : neg (wd false r) = wd true r := by
  unfold neg wd
  simp only [Bool.false_eq_true, if_false, if_true]
  rw [if_pos h]; omega
theorem sigI_neg {n : Int} : sigI n < 0 ↔ n < 0 := by
  unfold sigI
  by_cases c : n < 0
  · simp [c]
  · rw [if_neg c]
    constructor
    · intro h; split at h <;> omega
    · intro h; omega
set_option maxRecDepth 100000 in
set_option maxHeartbeats 8000000 in
theorem float64_zero (b : Nat) (x : Rat) (w : World) (hx : RatAt w b x) (h0 : x.num = 0) :
    Calls Try.prog 54 #[.pointer (some ⟨b, 0, none⟩)] w (FlRet (fq x false) w) := by
  have e : fq x false = 0 := by unfold fq; rw [if_pos h0]; rfl
  rw [e]
  have S := Lib.hid (rsign_any b x w hx (by rw [h0]; decide))
  rw [h0, show sigI 0 = 0 from rfl] at S
  clear hx h0 e
  go_enter Try.func54, Try.ntmps54
  go_wp2_with fail
  refine S.out.mono ?_
  rintro e w' ⟨rfl, rfl⟩
  go_wp2_with fail
  go_ret2
  exact ⟨_, rfl, Below.refl _ _⟩
set_option maxRecDepth 100000 in
set_option maxHeartbeats 8000000 in
theorem float64_some (b : Nat) (x : Rat) (w : World) (hx : RatAt w b x) (h0 : x.num ≠ 0) (hn : bl x.num ≤ 5000) (hd : bl (x.den : Int) ≤ 5000) :
    Calls Try.prog 54 #[.pointer (some ⟨b, 0, none⟩)] w (FlRet (fq x false) w) := by
  have HX := Lib.hid hx
  have HN := Lib.hid (Nat.le_trans hn (show 5000 ≤ 100000 by decide))
  have HR := Lib.hid (rounded_any b x w hx h0 hn hd)
  have S := Lib.hid (rsign_any b x w hx (Nat.le_trans hn (by decide)))
  obtain ⟨s, hs⟩ : ∃ s, sigI x.num = s := ⟨_, rfl⟩
  have k0 : (s == 0) = false := by rw [← hs]; exact sigI_ne h0
  have HS := Lib.hid hs
  rw [hs] at S
  obtain ⟨f, hf⟩ : ∃ f, fq x false = f := ⟨_, rfl⟩
  rw [hf]
  unfold fq at hf
  rw [if_neg h0] at hf
  have HF := Lib.hid hf
  have HD0 := Lib.hid x.den_pos
  clear hx h0 hn hd hs hf
  go_enter Try.func54, Try.ntmps54
  go_wp2_with fail
  refine S.out.mono ?_
  rintro e w' ⟨rfl, rfl⟩
  go_wp2_with fail
  refine HR.out.mono ?_
  intro e w1 h1
  rcases h1 with ⟨m, K, ex, rfl, hm, hK1, hK2, hq1, hq2, hb⟩
  have hm53 : m ≤ 2 ^ 53 := by rw [hm]; exact RNE_le53 hq1
  have hmc : K = -1074 ∨ 2 ^ 52 ≤ m := by
    rcases hq2 with h | h
    · exact .inl h
    · exact .inr (Nat.le_trans h (by rw [hm]; exact RNE_lo _ _))
  have LD := Lib.hid (ldexp_int m K hm53 hK1 hK2 hmc)
  have hld : ldR m K = rq (x.num.natAbs * UN) x.den := by rw [hm]; exact ldR_of HD0.out hK1 hq1 hq2
  have HL := Lib.hid hld
  have B1 := Lib.hid hb
  have mI : (m : Int) ≤ 9007199254740992 := by omega
  have S1 := Lib.hid (rsign_any b x w1 (HX.out.below hb) HN.out)
  rw [HS.out] at S1
  have HR63 : Hid (ldR m K < 2 ^ 63) := Lib.hid (by rw [hld]; exact Nat.lt_of_le_of_lt (rq_le _ _) INF_lt)
  clear hm hK1 hK2 hq1 hq2 hb hm53 hmc hld
  go_wp2_with fail
  refine (LD.out w1).mono ?_
  rintro e w2 ⟨rfl, nd, rfl⟩
  have U := Lib.hid (unary_neg (wd false (ldR m K)) (wd_lt _ _ HR63.out))
  have I := Lib.hid (isInf0_any (wd false (ldR m K)) (wd_lt _ _ HR63.out))
  have S2 := Lib.hid (rsign_any b x (w1.drewN nd) ((HX.out.below B1.out).below (below_drewN (Below.refl _ w1) nd)) HN.out)
  rw [HS.out] at S2
  have B2 := Lib.hid (below_drewN B1.out nd)
  have NG := Lib.hid (neg_wd HR63.out)
  rw [← HL.out] at HF
  obtain ⟨g, hg⟩ : ∃ g, wd false (ldR m K) = g := ⟨_, rfl⟩
  have HG := Lib.hid hg
  rw [hg] at U I NG ⊢
  clear hg
  by_cases hneg : x.num < 0
  · have k1 : decide (s < 0) = true := decide_eq_true (by rw [← HS.out]; exact sigI_neg.2 hneg)
    have hf : wd true (ldR m K) = f := by have := HF.out; rwa [decide_eq_true hneg] at this
    have HF2 := Lib.hid hf
    have u := U.out
    rw [NG.out, hf] at u
    clear hneg hf
    cases ex
    · go_wp2_with fail
      refine S2.out.mono ?_
      rintro e w' ⟨rfl, rfl⟩
      go_wp2_with fail
      go_ret2
      exact ⟨_, rfl, B2.out⟩
    · go_wp2_with fail
      refine (I.out _).mono ?_
      rintro e w' ⟨rfl, rfl⟩
      go_wp2_with fail
      refine S2.out.mono ?_
      rintro e w' ⟨rfl, rfl⟩
      go_wp2_with fail
      go_ret2
      exact ⟨_, rfl, B2.out⟩
  · have k1 : decide (s < 0) = false := decide_eq_false (by rw [← HS.out]; exact fun h => hneg (sigI_neg.1 h))
    have hf : g = f := by have := HF.out; rw [decide_eq_false hneg] at this; rw [← HG.out]; exact this
    clear hneg
    subst hf
    clear U
    cases ex
    · go_wp2_with fail
      refine S2.out.mono ?_
      rintro e w' ⟨rfl, rfl⟩
      go_wp2_with fail
      go_ret2
      exact ⟨_, rfl, B2.out⟩
    · go_wp2_with fail
      refine (I.out _).mono ?_
      rintro e w' ⟨rfl, rfl⟩
      go_wp2_with fail
      refine S2.out.mono ?_
      rintro e w' ⟨rfl, rfl⟩
      go_wp2_with fail
      go_ret2
      exact ⟨_, rfl, B2.out⟩
/-- Rat.Float64 -/
theorem float64_any (b : Nat) (x : Rat) (w : World) (hx : RatAt w b x) (hn : bl x.num ≤ 5000) (hd : bl (x.den : Int) ≤ 5000) :
    Calls Try.prog 54 #[.pointer (some ⟨b, 0, none⟩)] w (FlRet (fq x false) w) := by
  by_cases h0 : x.num = 0
  · exact float64_zero b x w hx h0
  · exact float64_some b x w hx h0 hn hd
end Go.Proofs.Ytokmommlabdcdaa
set_option linter.unusedVariables false
set_option linter.unusedSimpArgs false
namespace Go.Proofs.Ytokmommlabdcdaa
open Wd Fl Go.RowKit
theorem bl_one : bl 1 ≤ 100000 := by decide
/-- two to the k -/
theorem pow_any (k : Nat) (w : World) (hk : k ≤ 2000) :
    Calls Try.prog 93 #[.int .i64 (k : Int)] w (NewRet TW ((2 ^ k : Nat) : Int) w) := by
  have HK := Lib.hid (show k ≤ 100000 by omega)
  obtain ⟨r, hr⟩ : ∃ r, (1 : Int) * ((2 ^ k : Nat) : Int) = r := ⟨_, rfl⟩
  have e : ((2 ^ k : Nat) : Int) = r := by rw [← hr, Int.one_mul]
  rw [e]
  have HR := Lib.hid hr
  have k1 : IntKind.u64.wrap (k : Int) = (k : Int) := u64w _ (by omega) (by omega)
  have k2 : (k : Int) < 9223372036854775808 := by omega
  clear hk hr e
  go_enter Try.func93, Try.ntmps93
  go_wp2_with fail
  refine (newInt_any 1 _ (by decide) (by decide)).mono ?_
  intro e w1 h1
  rcases h1 with ⟨b1, rfl, hle, hi, hb⟩
  have Z := Lib.hid ((znew w).below hb)
  have I1 := Lib.hid hi
  have B1 := Lib.hid ((bnew w (.cells #[.bool false, .slice none 0 0] 45)).trans (hb.mono (bnew w (.cells #[.bool false, .slice none 0 0] 45)).size))
  clear hle hi hb
  go_wp2_with fail
  refine (lsh_any w.heap.size 0 b1 0 1 k w1 Z.out I1.out bl_one HK.out).mono ?_
  rintro e w2 ⟨rfl, hi2, hr2⟩
  rw [HR.out] at hi2
  have I2 := Lib.hid hi2
  have B2 := Lib.hid (bwr B1.out hr2 (Nat.le_refl _))
  clear hi2 hr2
  go_wp2_with fail
  go_ret
  exact ⟨_, rfl, Nat.le_refl _, I2.out, B2.out⟩
/-- a new fraction -/
def RNew (q : Rat) (w : World) (e : Ending) (w' : World) : Prop := ∃ b, e = .returned (.pointer (some ⟨b, 0, none⟩)) ∧ RatAt w' b q ∧ w.heap.size ≤ b ∧ Below w.heap.size w w'
set_option maxRecDepth 100000 in
set_option maxHeartbeats 4000000 in
theorem newRat_any (n : Int) (d : Nat) (w : World) (hd : 0 < d) (hn1 : -1000 ≤ n) (hn2 : n ≤ 1000) (hd2 : d ≤ 1000) (hs : Sm n.natAbs d) (hb1 : bl n ≤ 100000) (hb2 : bl (d : Int) ≤ 100000) :
    Calls Try.prog 25 #[.int .i64 n, .int .i64 (d : Int)] w (RNew (mkRat n d) w) := by
  have HD := Lib.hid hd
  have HS := Lib.hid hs
  have HN1 := Lib.hid (show -9223372036854775808 ≤ n by omega)
  have HN2 := Lib.hid (show n < 9223372036854775808 by omega)
  have HD1 := Lib.hid (show -9223372036854775808 ≤ (d : Int) by omega)
  have HD2 := Lib.hid (show (d : Int) < 9223372036854775808 by omega)
  have HB1 := Lib.hid hb1
  have HB2 := Lib.hid hb2
  clear hd hs hn1 hn2 hd2 hb1 hb2
  go_enter Try.func25, Try.ntmps25
  go_wp2_with fail
  refine (newInt_any n _ HN1.out HN2.out).mono ?_
  intro e w1 h1
  rcases h1 with ⟨b1, rfl, hle, hi, hb⟩
  have Z1 := Lib.hid ((znewr w).below hb)
  have I1 := Lib.hid hi
  have B1 := Lib.hid ((bnew w (.cells #[.bool false, .slice none 0 0, .bool false, .slice none 0 0] 73)).trans (hb.mono (bnew w (.cells #[.bool false, .slice none 0 0, .bool false, .slice none 0 0] 73)).size))
  clear hle hi hb
  go_wp2_with fail
  refine (newInt_any (d : Int) _ HD1.out HD2.out).mono ?_
  intro e w2 h2
  rcases h2 with ⟨b2, rfl, hle, hi, hb⟩
  have Z2 := Lib.hid (Z1.out.below hb)
  have J1 := Lib.hid (I1.out.below hb)
  have I2 := Lib.hid hi
  have B2 := Lib.hid (B1.out.trans (hb.mono B1.out.size))
  clear hle hi hb
  go_wp2_with fail
  refine (setFrac_any w.heap.size b1 0 b2 0 n d w2 Z2.out J1.out I2.out HD.out HB1.out HB2.out HS.out).mono ?_
  rintro e w3 ⟨rfl, hra, hr⟩
  have R := Lib.hid hra
  have B3 := Lib.hid (bwr B2.out hr (Nat.le_refl _))
  clear hra hr
  go_wp2_with fail
  go_ret
  exact ⟨_, rfl, R.out, Nat.le_refl _, B3.out⟩
end Go.Proofs.Ytokmommlabdcdaa
set_option linter.unusedVariables false
set_option linter.unusedSimpArgs false
namespace Go.Proofs.Ytokmommlabdcdaa
open Wd Fl Go.RowKit
theorem RatAt.zat {w : World} {b : Nat} {x : Rat} (h : RatAt w b x) : ZAt TW w b 2 2 := h.2.z
set_option maxRecDepth 100000 in
set_option maxHeartbeats 4000000 in
theorem rset_any (bz bx : Nat) (x : Rat) (w : World) (hz : ZAt TW w bz 0 4) (hx : RatAt w bx x) (hn : bl x.num ≤ 100000) (hd : bl (if x.den = 1 then 0 else (x.den : Int)) ≤ 100000) :
    Calls Try.prog 103 #[.pointer (some ⟨bz, 0, none⟩), .pointer (some ⟨bx, 0, none⟩)] w (RatRet bz x w) := by
  have HZ := Lib.hid hz
  have HX := Lib.hid hx
  have HN := Lib.hid hn
  have HD := Lib.hid hd
  clear hz hx hn hd
  go_enter Try.func103, Try.ntmps103
  have D0 : Hid (IntAt TW w ⟨bx, 2, none⟩ (if x.den = 1 then 0 else (x.den : Int))) := Lib.hid HX.out.2
  have Z1 : Hid (ZAt TW (w.alloc (.cells #[.bool false, .slice none 0 0] 45)).drew w.heap.size 0 2) := Lib.hid ((znew w).below (bdr _))
  have X1 : Hid (IntAt TW (w.alloc (.cells #[.bool false, .slice none 0 0] 45)).drew ⟨bx, 0, none⟩ x.num) := Lib.hid (HX.out.1.below ((bal (Below.refl _ w)).drew))
  have Z2 : Hid (ZAt TW ((w.alloc (.cells #[.bool false, .slice none 0 0] 45)).alloc (.cells #[.bool false, .slice none 0 0] 45)).drew w.heap.size 0 2) := Lib.hid (((znew w).below (bnew _ _)).below (bdr _))
  have Z3 : Hid (ZAt TW ((w.alloc (.cells #[.bool false, .slice none 0 0] 45)).alloc (.cells #[.bool false, .slice none 0 0] 45)).drew (w.heap.size + 1) 0 2) := Lib.hid ((znew2 w _).below (bdr _))
  have X2 : Hid (IntAt TW ((w.alloc (.cells #[.bool false, .slice none 0 0] 45)).alloc (.cells #[.bool false, .slice none 0 0] 45)).drew ⟨bx, 0, none⟩ x.num) := Lib.hid (HX.out.1.below ((bal (bal (Below.refl _ w))).drew))
  go_upto_region 1 with fail
  go_cut [5, 6] from 7 (fun sc sd wx => TwoNew w x.num (if x.den = 1 then 0 else (x.den : Int)) sc sd wx)
  case first =>
    go_region_law (first | (go_simp; go_at_call 86; (with_reducible refine (iset_any w.heap.size 0 bx 0 x.num _ Z1.out X1.out HN.out).mono ?_); rintro e w2 ⟨rfl, hi, hr⟩; have C2 := Lib.hid hi; have B2 : Hid (Below w.heap.size w w2) := Lib.hid (bwr (bal (Below.refl _ w)).drew hr (by omega)); clear hi hr) | (go_simp; go_at_call 86; (with_reducible refine (iset_any w.heap.size 0 bx 0 x.num _ Z2.out X2.out HN.out).mono ?_); rintro e w2 ⟨rfl, hi, hr⟩; have C2 := Lib.hid hi; have B2 : Hid (Below w.heap.size w w2) := Lib.hid (bwr (bal (bal (Below.refl _ w))).drew hr (by omega)); have Y2 : Hid (ZAt TW w2 (w.heap.size + 1) 0 2) := Lib.hid (Z3.out.wr hr); clear hi hr) | (go_simp; go_at_call 86; (with_reducible refine (iset_any (w.heap.size + 1) 0 bx 0 x.num _ Z3.out X2.out HN.out).mono ?_); rintro e w2 ⟨rfl, hi, hr⟩; have C2 := Lib.hid hi; have B2 : Hid (Below w.heap.size w w2) := Lib.hid (bwr (bal (bal (Below.refl _ w))).drew hr (by omega)); have Y1 : Hid (ZAt TW w2 w.heap.size 0 2) := Lib.hid (Z2.out.wr hr); clear hi hr) | (go_simp; go_at_call 86; (with_reducible refine (iset_any w2.heap.size 0 bx 2 (if x.den = 1 then 0 else (x.den : Int)) (w2.alloc (.cells #[.bool false, .slice none 0 0] 45)) (znew w2) (D0.out.below (bal B2.out)) HD.out).mono ?_); rintro e w3 ⟨rfl, hi, hr⟩; have D3 := Lib.hid hi; have B3 : Hid (Below w.heap.size w w3) := Lib.hid (bwr (bal B2.out) hr (by have := B2.out.size; omega)); have C3 := Lib.hid (IntAt.wr (C2.out.below (bnew w2 _)) hr (znew w2) (.inl (by have := C2.out.lt; have := B2.out.size; omega))); clear hi hr) | (go_simp; go_at_call 86; (with_reducible refine (iset_any (w.heap.size + 1) 0 bx 2 (if x.den = 1 then 0 else (x.den : Int)) w2 Y2.out (D0.out.below B2.out) HD.out).mono ?_); rintro e w3 ⟨rfl, hi, hr⟩; have D3 := Lib.hid hi; have B3 : Hid (Below w.heap.size w w3) := Lib.hid (bwr B2.out hr (by have := B2.out.size; omega)); have C3 := Lib.hid (IntAt.wr C2.out hr Y2.out (.inl (by have := C2.out.lt; have := B2.out.size; omega))); clear hi hr) | (go_simp; go_at_call 86; (with_reducible refine (iset_any w.heap.size 0 bx 2 (if x.den = 1 then 0 else (x.den : Int)) w2 Y1.out (D0.out.below B2.out) HD.out).mono ?_); rintro e w3 ⟨rfl, hi, hr⟩; have D3 := Lib.hid hi; have B3 : Hid (Below w.heap.size w w3) := Lib.hid (bwr B2.out hr (by have := B2.out.size; omega)); have C3 := Lib.hid (IntAt.wr C2.out hr Y1.out (.inl (by have := C2.out.lt; have := B2.out.size; omega))); clear hi hr))
    all_goals (try go_wp2_with fail)
    all_goals go_meet
    all_goals exact ⟨_, _, rfl, rfl, C3.out, D3.out, B3.out, (by have := B2.out.size; omega), (by have := B2.out.size; omega), (by have := C2.out.lt; have := B2.out.size; omega)⟩
  case rest =>
    obtain ⟨bC, bD, rfl, rfl, hC, hD, hb, lc, ld, ncd⟩ := hcut
    have HZ2 := Lib.hid (HZ.out.below hb)
    have B2 := Lib.hid hb
    obtain ⟨neg, a, cap, l, h1, h2, H3, OK, NM, HNN, HE, HK, N1⟩ := IntAt.open hC
    obtain ⟨neg', a', cap', l', h1', h2', H3', OK', NM', HNN', HE', HK', N1'⟩ := IntAt.open hD
    have hne : bC ≠ bz := by have := HZ.out.lt; omega
    have hne1 : bD ≠ bz := by have := HZ.out.lt; omega
    obtain ⟨x0, c0⟩ := HZ2.out.cell 0 (by omega)
    obtain ⟨x1, c1⟩ := HZ2.out.cell 1 (by omega)
    obtain ⟨x2, c2⟩ := HZ2.out.cell 2 (by omega)
    obtain ⟨x3, c3⟩ := HZ2.out.cell 3 (by omega)
    have f0 := HZ2.out.frozen 0
    have f1 := HZ2.out.frozen 1
    have f2 := HZ2.out.frozen 2
    have f3 := HZ2.out.frozen 3
    clear hC hD hb lc ld ncd
    go_wp2_with fail
    go_ret
    have hz := HZ2.out
    have z0 : ZAt TW wc bz 0 2 := hz.sub 0 2 (by omega)
    have i1 := put2_int (n := x.num) z0 H3.out OK.out NM.out HNN.out HE.out
    have W1 := put2_wr wc bz 0 (.bool neg) (.slice a l.length cap)
    have z1 : ZAt TW (put2 wc bz 0 (.bool neg) (.slice a l.length cap)) bz 2 2 := (hz.sub 2 2 (by omega)).wr W1
    have i2 := put2_int (n := if x.den = 1 then 0 else (x.den : Int)) z1 (H3'.out.wr W1 hz) OK'.out NM'.out HNN'.out HE'.out
    have W2 := put2_wr (put2 wc bz 0 (.bool neg) (.slice a l.length cap)) bz 2 (.bool neg') (.slice a' l'.length cap')
    exact ⟨rfl, ⟨i1.wr W2 z1 (by omega), i2⟩, (Wr.of_below _ _ _ B2.out).trans ((W1.mono (by omega) (by omega)).trans (W2.mono (by omega) (by omega)))⟩
set_option maxRecDepth 100000 in
set_option maxHeartbeats 4000000 in
theorem rneg_any (bz bx : Nat) (x : Rat) (w : World) (hz : ZAt TW w bz 0 4) (hx : RatAt w bx x) (hn : bl x.num ≤ 100000) (hd : bl (if x.den = 1 then 0 else (x.den : Int)) ≤ 100000) :
    Calls Try.prog 85 #[.pointer (some ⟨bz, 0, none⟩), .pointer (some ⟨bx, 0, none⟩)] w (RatRet bz (-x) w) := by
  have S := Lib.hid (rset_any bz bx x w hz hx hn hd)
  have HN := Lib.hid hn
  clear hz hx hn hd
  go_enter Try.func85, Try.ntmps85
  go_wp2_with fail
  refine S.out.mono ?_
  rintro e w1 ⟨rfl, hra, hr⟩
  have R := Lib.hid hra
  have W1 := Lib.hid hr
  clear hra hr
  go_wp2_with fail
  go_region_law ((go_simp; go_at_call 88; refine (ineg_any bz 0 bz 0 x.num w1.drew (R.out.below (bdr w1)).1.z (R.out.below (bdr w1)).1 HN.out).mono ?_; rintro e w2 ⟨rfl, hi, hr⟩; have I := Lib.hid hi; have J := Lib.hid ((R.out.below (bdr w1)).2.wr hr (R.out.below (bdr w1)).1.z (by omega)); have W2 := Lib.hid ((W1.out.trans (Wr.of_below bz 0 4 (bdr w1))).trans (hr.mono (by omega) (by omega))); clear hi hr))
  go_wp2_with fail
  go_ret
  exact ⟨rfl, ⟨by rw [Rat.neg_num]; exact I.out, by rw [Rat.neg_den]; exact J.out⟩, W2.out⟩
theorem dy_neg {B : Nat} {x : Rat} (h : Dy B x) : Dy B (-x) := by
  refine ⟨?_, ?_, ?_⟩
  · rw [Rat.neg_num, Int.natAbs_neg]; exact h.num
  · rw [Rat.neg_den]; exact h.den
  · rw [Rat.neg_num, Int.natAbs_neg]
    rcases h.odd with e | e
    · exact .inl (by rw [e]; rfl)
    · exact .inr e
theorem dy_denb {B : Nat} {x : Rat} (h : Dy B x) (hB : B ≤ 1200) : bl (if x.den = 1 then 0 else (x.den : Int)) ≤ 100000 := by
  split
  · decide
  · obtain ⟨i, hi, e⟩ := h.den
    rw [e]; exact Nat.le_trans (bl_pow_le hi) (by omega)
set_option maxRecDepth 100000 in
set_option maxHeartbeats 4000000 in
theorem rsub_any (bz bx bY : Nat) (x y : Rat) (w : World) (hz : ZAt TW w bz 0 4) (hx : RatAt w bx x) (hy : RatAt w bY y) (dx : Dy 1200 x) (dy : Dy 1200 y) :
    Calls Try.prog 52 #[.pointer (some ⟨bz, 0, none⟩), .pointer (some ⟨bx, 0, none⟩), .pointer (some ⟨bY, 0, none⟩)] w (RatRet bz (x + -y) w) := by
  have HZ := Lib.hid hz
  have HX := Lib.hid hx
  have HY := Lib.hid hy
  have DX := Lib.hid dx
  have DY := Lib.hid (dy_neg dy)
  have N1 := Lib.hid (show bl y.num ≤ 100000 from Nat.le_trans dy.num (by decide))
  have N2 := Lib.hid (dy_denb dy (Nat.le_refl _))
  clear hz hx hy dx dy
  go_enter Try.func52, Try.ntmps52
  go_wp2_with fail
  refine (rneg_any w.heap.size bY y _ (znewr w) (HY.out.below (bnew w _)) N1.out N2.out).mono ?_
  rintro e w1 ⟨rfl, hra, hr⟩
  have B1 := Lib.hid (newW hr)
  have Y1 := Lib.hid hra
  have X1 := Lib.hid (HX.out.below B1.out)
  have Z1 := Lib.hid (HZ.out.below B1.out)
  clear hra hr
  go_wp2_with fail
  refine (radd_any bz bx w.heap.size x (-y) w1 Z1.out X1.out Y1.out DX.out DY.out).mono ?_
  rintro e w2 ⟨rfl, hra, hr⟩
  have R := Lib.hid hra
  have W2 := Lib.hid ((Wr.of_below bz 0 4 B1.out).trans hr)
  clear hra hr
  go_wp2_with fail
  go_ret
  exact ⟨rfl, R.out, W2.out⟩
end Go.Proofs.Ytokmommlabdcdaa
