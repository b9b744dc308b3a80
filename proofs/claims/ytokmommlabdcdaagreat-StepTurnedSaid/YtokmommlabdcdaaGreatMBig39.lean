/- Contract of surdbig's Rat.rounded (of 53 bits, -1074 at least). (Printed by wip/gen39.py.) Contract of surdbig's Rat.Float64. Contracts of surdref5's finite, rat, signed, plus, less, times, over, and of math's Signbit, NaN, Inf, Copysign. (Printed by wip/gen41.py.) Contracts of surdref5's plus, less, times, over: the rounded sum, difference, product, quotient. (Printed by wip/gen42.py.) Contract of surdref5.times: the rounded product. (Printed by wip/gen42.py.) Contract of surdref5.over: the rounded quotient. (Printed by wip/gen42.py.) Contracts of surdref5's Add, Sub, Mul, Scale, Div: the relations that cpx's keep. (Printed by wip/gen43.py.) -/
import Derived.Test.YtokmommlabdcdaaGreatMBig37
import Derived.Test.YtokmommlabdcdaaGreatMBig11
import Derived.Test.YtokmommlabdcdaaGreatMBig23
import Derived.Test.YtokmommlabdcdaaGreatMCpx
import Derived.Test.YtokmommlabdcdaaGreatMFlRel
set_option linter.unusedVariables false
set_option linter.unusedSimpArgs false
set_option linter.unusedVariables false
set_option linter.unusedSimpArgs false
namespace Go.Proofs.YtokmommlabdcdaaGreat
open Wd Fl Go.RowKit
/-- what rounded answers -/
def RdRet (n d : Nat) (w : World) (e : Ending) (w' : World) : Prop := ∃ (m : Nat) (K : Int) (ex : Bool), e = .returned (.tuple #[.int .u64 (m : Int), .int .i64 K, .bool ex]) ∧ m = RNE (scN n K) (scD d K) ∧ -1074 ≤ K ∧ K ≤ 20000 ∧ scN n K / scD d K < 2 ^ 53 ∧ (K = -1074 ∨ 2 ^ 52 ≤ scN n K / scD d K) ∧ Below w.heap.size w w'
theorem cmpZ_lt {n m : Int} (h : n < m) : cmpZ n m = -1 := by unfold cmpZ; rw [if_pos h]
theorem cmpZ_gt {n m : Int} (h : m < n) : cmpZ n m = 1 := by unfold cmpZ; rw [if_neg (by omega), if_pos h]
theorem cmpZ_eq {n m : Int} (h : n = m) : cmpZ n m = 0 := by unfold cmpZ; rw [if_neg (by omega), if_neg (by omega)]
theorem rne_up {A B : Nat} (h : B < 2 * (A % B)) : A / B + 1 = RNE A B := by rw [RNE_cmp, if_pos (.inl h)]
theorem rne_tie {A B : Nat} (h : 2 * (A % B) = B) (h1 : A / B % 2 = 1) : A / B + 1 = RNE A B := by rw [RNE_cmp, if_pos (.inr ⟨h, h1⟩)]
theorem rne_even {A B : Nat} (h : 2 * (A % B) = B) (h1 : A / B % 2 = 0) : A / B = RNE A B := by rw [RNE_cmp, if_neg (by omega), Nat.add_zero]
theorem rne_down {A B : Nat} (h : 2 * (A % B) < B) : A / B = RNE A B := by rw [RNE_cmp, if_neg (by omega), Nat.add_zero]
theorem bl_scD {d B : Nat} {K : Int} (h : bl (d : Int) ≤ B) (hK : K ≤ B) : bl ((scD d K : Nat) : Int) ≤ 2 * B + 1 := bl_nat_mul h (by omega)
theorem bl_mod {a m B : Nat} (hm : 0 < m) (h : bl (m : Int) ≤ B) : bl ((a % m : Nat) : Int) ≤ B := by
  unfold bl at *
  rw [Int.natAbs_natCast] at *
  exact Nat.le_trans (blen_mono (Nat.le_of_lt (Nat.mod_lt _ hm))) h
theorem bl_53 {q : Nat} (h : q < 2 ^ 53) : bl (q : Int) ≤ 53 := by unfold bl; rw [Int.natAbs_natCast]; exact blen_le_of h
theorem bl_53' {n d : Nat} {k : Int} (hd : 0 < d) (hk : k = (blen n : Int) - blen d - 53) : bl ((scN n k / scD d k : Nat) : Int) ≤ 54 := by
  unfold bl; rw [Int.natAbs_natCast]
  exact blen_le_of ((Nat.div_lt_iff_lt_mul (scD_pos hd _)).2 (guess_hi (n := n) (d := d) (j := 0) (k := k) (by omega) (by omega)))
set_option maxRecDepth 100000 in
set_option maxHeartbeats 8000000 in
theorem rounded_A (b : Nat) (x : Rat) (w : World) (hx : RatAt w b x) (h0 : x.num ≠ 0) (hn : bl x.num ≤ 5000) (hd : bl (x.den : Int) ≤ 5000) (k : Int) (hk : (bl x.num : Int) - (bl (x.den : Int) : Nat) - 53 = k) (hc : k < -1074) :
    Calls Tryz.prog 117 #[.pointer (some ⟨b, 0, none⟩), .int .i64 53, .int .i64 (-1074)] w (RdRet x.num.natAbs x.den w) := by
  have hkd : k = (blen x.num.natAbs : Int) - blen x.den - 53 := by rw [← hk]; unfold bl; rw [Int.natAbs_natCast]
  have hn0 : x.num.natAbs ≠ 0 := fun h => h0 (Int.natAbs_eq_zero.1 h)
  have hd0 := x.den_pos
  have fin : scN x.num.natAbs (-1074) / scD x.den (-1074) < 2 ^ 53 ∧ ((-1074 : Int) = -1074 ∨ 2 ^ 52 ≤ scN x.num.natAbs (-1074) / scD x.den (-1074)) := ⟨place_small hd0 hkd hc rfl, .inl rfl⟩
  have HX := Lib.hid hx
  have HN := Lib.hid hn
  have HD := Lib.hid hd
  obtain ⟨k1, hk1⟩ : ∃ k : Int, (bl x.num : Int) - (bl (x.den : Int) : Nat) = k := ⟨_, rfl⟩
  obtain ⟨u, hu⟩ : ∃ u : Int, ((bl x.num : Nat) : Int) = u := ⟨_, rfl⟩
  obtain ⟨v, hv⟩ : ∃ v : Int, ((bl (x.den : Int) : Nat) : Int) = v := ⟨_, rfl⟩
  have hkb : -6000 ≤ k ∧ k ≤ 5000 := by omega
  have w1 : IntKind.i64.wrap (u - v) = k1 := by rw [← hu, ← hv, hk1]; exact IntWalk.i64_in _ (by omega)
  have w2 : IntKind.i64.wrap (k1 - 53) = k := by rw [← hk1, hk]; exact IntWalk.i64_in _ (by omega)
  have HU := Lib.hid hu
  have HV := Lib.hid hv
  have KB := Lib.hid hkb
  have g0 : decide (-1074 ≤ k) = false := decide_eq_false (by omega)
  have FIN := Lib.hid fin
  have KL := Lib.hid (show -1074 ≤ (-1074) ∧ (-1074) ≤ 6000 by omega)
  obtain ⟨n, hnn⟩ : ∃ n, x.num.natAbs = n := ⟨_, rfl⟩
  obtain ⟨d, hdd⟩ : ∃ d, x.den = d := ⟨_, rfl⟩
  rw [hnn, hdd] at FIN
  have HDB : Hid (bl ((scD d (-1074) : Nat) : Int) ≤ 20001) := Lib.hid (Nat.le_trans (bl_scD (B := 6000) (by rw [← hdd]; exact Nat.le_trans hd (by decide)) (by omega)) (by decide))
  have HDP := Lib.hid (scD_pos (d := d) (by rw [← hdd]; exact hd0) (-1074))
  rw [hnn, hdd]
  have HNN := Lib.hid hnn
  have HDD := Lib.hid hdd
  
  clear hx h0 hn hd hk hk1 hu hv hkb hkd hn0 hd0 fin hnn hdd  
  go_enter Tryz.func117, Tryz.ntmps117
  go_wp2_with fail
  refine (bitLen_any b 0 x.num w HX.out.num (Nat.le_trans HN.out (by decide))).mono ?_
  rintro e wa ⟨rfl, hb⟩
  rw [HU.out]
  have B1 := Lib.hid hb
  have HX1 := Lib.hid (HX.out.below hb)
  clear hb
  go_wp2_with fail
  refine (denom_any b x wa HX1.out).mono ?_
  rintro e wb ⟨bP, oP, rfl, hi, hb, hor⟩
  have B2 := Lib.hid (B1.out.trans (hb.mono B1.out.size))
  have P := Lib.hid hi
  have HX2 := Lib.hid (HX1.out.below hb)
  clear hi hb hor
  go_wp2_with fail
  refine (bitLen_any bP oP (x.den : Int) wb P.out (Nat.le_trans HD.out (by decide))).mono ?_
  rintro e wc0 ⟨rfl, hb⟩
  rw [HV.out]
  have B3 := Lib.hid (B2.out.trans (hb.mono B2.out.size))
  have HX3 := Lib.hid (HX2.out.below hb)
  clear hb
  go_wp2_with fail
  with_reducible refine (scaled_any b x (-1074) wc0 HX3.out (Nat.le_trans HN.out (by decide)) (Nat.le_trans HD.out (by decide)) (by have := KB.out; omega) (by have := KB.out; omega)).mono ?_
  intro e w5 h5
  rw [HNN.out, HDD.out] at h5
  rcases h5 with ⟨bq, br, bc, rfl, hq, hr, hcd, hb, hle⟩
  have B5 := Lib.hid (B3.out.trans (hb.mono B3.out.size))
  have LQ := Lib.hid (Nat.le_trans B3.out.size hle)
  have Q := Lib.hid hq
  have R := Lib.hid hr
  have C := Lib.hid hcd
  have HX5 := Lib.hid (HX3.out.below hb)
  clear hq hr hcd hb hle
  go_wp2_with fail
  obtain ⟨qn, hqn⟩ : ∃ q, scN n (-1074) / scD d (-1074) = q := ⟨_, rfl⟩
  obtain ⟨rn, hrn⟩ : ∃ q, scN n (-1074) % scD d (-1074) = q := ⟨_, rfl⟩
  have HQN := Lib.hid hqn
  have HRN := Lib.hid hrn
  have HRB : Hid (bl ((rn : Nat) : Int) ≤ 20001) := Lib.hid (by rw [← hrn]; exact bl_mod HDP.out HDB.out)
  rw [hqn] at Q
  rw [hrn] at R
  have HQB : Hid (qn < 2 ^ 53) := Lib.hid (by rw [← hqn]; exact FIN.out.1)
  have HQBL : Hid (bl (qn : Int) ≤ 53) := Lib.hid (bl_53 HQB.out)
  clear hqn hrn
  obtain ⟨sr, hsr⟩ : ∃ s, sigI (rn : Int) = s := ⟨_, rfl⟩
  have SG := Lib.hid (isign_any br 0 (rn : Int) w5 R.out (Nat.le_trans HRB.out (by decide)))
  rw [hsr] at SG
  clear hsr
  refine SG.out.mono ?_
  rintro e w' ⟨rfl, rfl⟩
  go_wp2_with fail
  refine (lsh_any w5.heap.size 0 br 0 (rn : Int) 1 _ (znew w5) (R.out.below (bnew w5 _)) (Nat.le_trans HRB.out (by decide)) (by decide)).mono ?_
  rintro e w8 ⟨rfl, hi, hr⟩
  have B8 := Lib.hid (bwr (bal B5.out) hr B5.out.size)
  have BS := Lib.hid (newW hr)
  have T8 := Lib.hid hi
  have Q8 := Lib.hid (Q.out.below BS.out)
  have C8 := Lib.hid (C.out.below BS.out)
  clear hi hr BS
  go_wp2_with fail
  with_reducible refine (cmp_any w5.heap.size 0 bc 0 _ _ w8 T8.out C8.out (by have := bl_mul (rn : Int) ((2 ^ 1 : Nat) : Int); have := bl_pow_le (Nat.le_refl 1); have := HRB.out; omega) (Nat.le_trans HDB.out (by decide))).mono ?_
  rintro e w9 ⟨rfl, hb⟩
  have B9 := Lib.hid (B8.out.trans (hb.mono B8.out.size))
  have Q9 := Lib.hid (Q8.out.below hb)
  clear hb
  have h2r : (rn : Int) * ((2 ^ 1 : Nat) : Int) = ((2 * rn : Nat) : Int) := by rw [Int.natCast_mul, Int.mul_comm]
  rw [h2r]
  clear h2r
  rcases Nat.lt_trichotomy (2 * rn) (scD d (-1074)) with h | h | h
  · have H := Lib.hid h
    rw [cmpZ_lt (show ((2 * rn : Nat) : Int) < _ from Int.ofNat_lt.2 h)]
    clear h
    go_wp2_with fail
    refine (uint64_any bq 0 (qn : Int) w9 Q9.out (by rw [Int.natAbs_natCast]; have := HQB.out; omega)).mono ?_
    rintro e w' ⟨rfl, rfl⟩
    rw [Int.natAbs_natCast]
    go_wp2_with fail
    go_ret3
    exact ⟨_, (-1074), _, rfl, (by rw [← HQN.out]; exact rne_down (by rw [HRN.out]; exact H.out)), KL.out.1, Int.le_trans KL.out.2 (by decide), FIN.out.1, .inl rfl, B9.out⟩
  · have H := Lib.hid h
    rw [cmpZ_eq (show ((2 * rn : Nat) : Int) = _ from congrArg _ h)]
    clear h
    go_wp2_with fail
    have BT := Lib.hid (bit0_any bq 0 (qn : Int) w9 Q9.out (Nat.le_trans HQBL.out (by decide)))
    rw [Int.natAbs_natCast] at BT
    rcases Nat.mod_two_eq_zero_or_one qn with c | c
    · have CC := Lib.hid c
      rw [c] at BT
      clear c
      refine BT.out.mono ?_
      rintro e w' ⟨rfl, rfl⟩
      go_wp2_with fail
      refine (uint64_any bq 0 (qn : Int) w9 Q9.out (by rw [Int.natAbs_natCast]; have := HQB.out; omega)).mono ?_
      rintro e w' ⟨rfl, rfl⟩
      rw [Int.natAbs_natCast]
      go_wp2_with fail
      go_ret3
      exact ⟨_, (-1074), _, rfl, (by rw [← HQN.out]; exact rne_even (by rw [HRN.out]; exact H.out) (by rw [HQN.out]; exact CC.out)), KL.out.1, Int.le_trans KL.out.2 (by decide), FIN.out.1, .inl rfl, B9.out⟩
    · have CC := Lib.hid c
      rw [c] at BT
      clear c
      refine BT.out.mono ?_
      rintro e w' ⟨rfl, rfl⟩
      go_wp2_with fail
      refine (newInt_any 1 w9 (by decide) (by decide)).mono ?_
      rintro e wx ⟨bn, rfl, hbn, hi, hb⟩
      have BX := Lib.hid (B9.out.trans (hb.mono B9.out.size))
      have QX := Lib.hid (Q9.out.below hb)
      have OX := Lib.hid hi
      clear hbn hi hb
      go_wp2_with fail
      refine (iadd_any bq 0 bq 0 bn 0 (qn : Int) 1 wx QX.out.z QX.out OX.out (Nat.le_trans HQBL.out (by decide)) (by decide)).mono ?_
      rintro e wy ⟨rfl, hi, hr⟩
      have BE := Lib.hid (bwr BX.out hr LQ.out)
      have QE : Hid (IntAt TW wy ⟨bq, 0, none⟩ ((qn + 1 : Nat) : Int)) := Lib.hid hi
      clear hi hr
      go_wp2_with fail
      refine (uint64_any bq 0 ((qn + 1 : Nat) : Int) wy QE.out (by rw [Int.natAbs_natCast]; have := HQB.out; omega)).mono ?_
      rintro e w' ⟨rfl, rfl⟩
      rw [Int.natAbs_natCast]
      go_wp2_with fail
      go_ret3
      exact ⟨_, (-1074), _, rfl, (by rw [← HQN.out]; exact rne_tie (by rw [HRN.out]; exact H.out) (by rw [HQN.out]; exact CC.out)), KL.out.1, Int.le_trans KL.out.2 (by decide), FIN.out.1, .inl rfl, BE.out⟩
  · have H := Lib.hid h
    rw [cmpZ_gt (show _ < ((2 * rn : Nat) : Int) from Int.ofNat_lt.2 h)]
    clear h
    go_wp2_with fail
    refine (newInt_any 1 w9 (by decide) (by decide)).mono ?_
    rintro e wx ⟨bn, rfl, hbn, hi, hb⟩
    have BX := Lib.hid (B9.out.trans (hb.mono B9.out.size))
    have QX := Lib.hid (Q9.out.below hb)
    have OX := Lib.hid hi
    clear hbn hi hb
    go_wp2_with fail
    refine (iadd_any bq 0 bq 0 bn 0 (qn : Int) 1 wx QX.out.z QX.out OX.out (Nat.le_trans HQBL.out (by decide)) (by decide)).mono ?_
    rintro e wy ⟨rfl, hi, hr⟩
    have BE := Lib.hid (bwr BX.out hr LQ.out)
    have QE : Hid (IntAt TW wy ⟨bq, 0, none⟩ ((qn + 1 : Nat) : Int)) := Lib.hid hi
    clear hi hr
    go_wp2_with fail
    refine (uint64_any bq 0 ((qn + 1 : Nat) : Int) wy QE.out (by rw [Int.natAbs_natCast]; have := HQB.out; omega)).mono ?_
    rintro e w' ⟨rfl, rfl⟩
    rw [Int.natAbs_natCast]
    go_wp2_with fail
    go_ret3
    exact ⟨_, (-1074), _, rfl, (by rw [← HQN.out]; exact rne_up (by rw [HRN.out]; exact H.out)), KL.out.1, Int.le_trans KL.out.2 (by decide), FIN.out.1, .inl rfl, BE.out⟩
set_option maxRecDepth 100000 in
set_option maxHeartbeats 8000000 in
theorem rounded_B (b : Nat) (x : Rat) (w : World) (hx : RatAt w b x) (h0 : x.num ≠ 0) (hn : bl x.num ≤ 5000) (hd : bl (x.den : Int) ≤ 5000) (k : Int) (hk : (bl x.num : Int) - (bl (x.den : Int) : Nat) - 53 = k) (hc : -1074 ≤ k) (hq : bl ((scN x.num.natAbs k / scD x.den k : Nat) : Int) ≤ 53) :
    Calls Tryz.prog 117 #[.pointer (some ⟨b, 0, none⟩), .int .i64 53, .int .i64 (-1074)] w (RdRet x.num.natAbs x.den w) := by
  have hkd : k = (blen x.num.natAbs : Int) - blen x.den - 53 := by rw [← hk]; unfold bl; rw [Int.natAbs_natCast]
  have hn0 : x.num.natAbs ≠ 0 := fun h => h0 (Int.natAbs_eq_zero.1 h)
  have hd0 := x.den_pos
  have hq' : blen (scN x.num.natAbs k / scD x.den k) ≤ 53 := by unfold bl at hq; rwa [Int.natAbs_natCast] at hq
  have fin : scN x.num.natAbs k / scD x.den k < 2 ^ 53 ∧ (k = -1074 ∨ 2 ^ 52 ≤ scN x.num.natAbs k / scD x.den k) := ⟨(place_here hn0 hd0 hkd hq').1, .inr (place_here hn0 hd0 hkd hq').2⟩
  have HX := Lib.hid hx
  have HN := Lib.hid hn
  have HD := Lib.hid hd
  obtain ⟨k1, hk1⟩ : ∃ k : Int, (bl x.num : Int) - (bl (x.den : Int) : Nat) = k := ⟨_, rfl⟩
  obtain ⟨u, hu⟩ : ∃ u : Int, ((bl x.num : Nat) : Int) = u := ⟨_, rfl⟩
  obtain ⟨v, hv⟩ : ∃ v : Int, ((bl (x.den : Int) : Nat) : Int) = v := ⟨_, rfl⟩
  have hkb : -6000 ≤ k ∧ k ≤ 5000 := by omega
  have w1 : IntKind.i64.wrap (u - v) = k1 := by rw [← hu, ← hv, hk1]; exact IntWalk.i64_in _ (by omega)
  have w2 : IntKind.i64.wrap (k1 - 53) = k := by rw [← hk1, hk]; exact IntWalk.i64_in _ (by omega)
  have HU := Lib.hid hu
  have HV := Lib.hid hv
  have KB := Lib.hid hkb
  have g0 : decide (-1074 ≤ k) = true := decide_eq_true hc
  obtain ⟨ql, hql⟩ : ∃ q : Int, ((bl ((scN x.num.natAbs k / scD x.den k : Nat) : Int) : Nat) : Int) = q := ⟨_, rfl⟩
  have g1 : decide (53 < ql) = false := decide_eq_false (by omega)
  have HQL := Lib.hid hql
  have BQ0 : bl ((scN x.num.natAbs k / scD x.den k : Nat) : Int) ≤ 100000 := Nat.le_trans (bl_53' hd0 hkd) (by decide)
  have BQ := Lib.hid BQ0
  have FIN := Lib.hid fin
  have KL := Lib.hid (show -1074 ≤ k ∧ k ≤ 6000 by omega)
  obtain ⟨n, hnn⟩ : ∃ n, x.num.natAbs = n := ⟨_, rfl⟩
  obtain ⟨d, hdd⟩ : ∃ d, x.den = d := ⟨_, rfl⟩
  rw [hnn, hdd] at FIN
  have HDB : Hid (bl ((scD d k : Nat) : Int) ≤ 20001) := Lib.hid (Nat.le_trans (bl_scD (B := 6000) (by rw [← hdd]; exact Nat.le_trans hd (by decide)) (by omega)) (by decide))
  have HDP := Lib.hid (scD_pos (d := d) (by rw [← hdd]; exact hd0) k)
  rw [hnn, hdd]
  have HNN := Lib.hid hnn
  have HDD := Lib.hid hdd
  rw [hnn, hdd] at HQL
  rw [HNN.out, HDD.out] at BQ
  clear BQ0 hx h0 hn hd hk hk1 hu hv hkb hkd hn0 hd0 fin hnn hdd hq hq' hql 
  go_enter Tryz.func117, Tryz.ntmps117
  go_wp2_with fail
  refine (bitLen_any b 0 x.num w HX.out.num (Nat.le_trans HN.out (by decide))).mono ?_
  rintro e wa ⟨rfl, hb⟩
  rw [HU.out]
  have B1 := Lib.hid hb
  have HX1 := Lib.hid (HX.out.below hb)
  clear hb
  go_wp2_with fail
  refine (denom_any b x wa HX1.out).mono ?_
  rintro e wb ⟨bP, oP, rfl, hi, hb, hor⟩
  have B2 := Lib.hid (B1.out.trans (hb.mono B1.out.size))
  have P := Lib.hid hi
  have HX2 := Lib.hid (HX1.out.below hb)
  clear hi hb hor
  go_wp2_with fail
  refine (bitLen_any bP oP (x.den : Int) wb P.out (Nat.le_trans HD.out (by decide))).mono ?_
  rintro e wc0 ⟨rfl, hb⟩
  rw [HV.out]
  have B3 := Lib.hid (B2.out.trans (hb.mono B2.out.size))
  have HX3 := Lib.hid (HX2.out.below hb)
  clear hb
  go_wp2_with fail
  with_reducible refine (scaled_any b x k wc0 HX3.out (Nat.le_trans HN.out (by decide)) (Nat.le_trans HD.out (by decide)) (by have := KB.out; omega) (by have := KB.out; omega)).mono ?_
  intro e w5 h5
  rw [HNN.out, HDD.out] at h5
  rcases h5 with ⟨bq, br, bc, rfl, hq, hr, hcd, hb, hle⟩
  have B5 := Lib.hid (B3.out.trans (hb.mono B3.out.size))
  have LQ := Lib.hid (Nat.le_trans B3.out.size hle)
  have Q := Lib.hid hq
  have R := Lib.hid hr
  have C := Lib.hid hcd
  have HX5 := Lib.hid (HX3.out.below hb)
  clear hq hr hcd hb hle
  go_wp2_with fail
  refine (bitLen_any bq 0 _ w5 Q.out BQ.out).mono ?_
  rintro e w6 ⟨rfl, hb⟩
  rw [HQL.out]
  have B6 := Lib.hid (B5.out.trans (hb.mono B5.out.size))
  have Q6 := Lib.hid (Q.out.below hb)
  have R6 := Lib.hid (R.out.below hb)
  have C6 := Lib.hid (C.out.below hb)
  have HX6 := Lib.hid (HX5.out.below hb)
  clear hb
  go_wp2_with fail
  obtain ⟨qn, hqn⟩ : ∃ q, scN n k / scD d k = q := ⟨_, rfl⟩
  obtain ⟨rn, hrn⟩ : ∃ q, scN n k % scD d k = q := ⟨_, rfl⟩
  have HQN := Lib.hid hqn
  have HRN := Lib.hid hrn
  have HRB : Hid (bl ((rn : Nat) : Int) ≤ 20001) := Lib.hid (by rw [← hrn]; exact bl_mod HDP.out HDB.out)
  rw [hqn] at Q6
  rw [hrn] at R6
  have HQB : Hid (qn < 2 ^ 53) := Lib.hid (by rw [← hqn]; exact FIN.out.1)
  have HQBL : Hid (bl (qn : Int) ≤ 53) := Lib.hid (bl_53 HQB.out)
  clear hqn hrn
  obtain ⟨sr, hsr⟩ : ∃ s, sigI (rn : Int) = s := ⟨_, rfl⟩
  have SG := Lib.hid (isign_any br 0 (rn : Int) w6 R6.out (Nat.le_trans HRB.out (by decide)))
  rw [hsr] at SG
  clear hsr
  refine SG.out.mono ?_
  rintro e w' ⟨rfl, rfl⟩
  go_wp2_with fail
  refine (lsh_any w6.heap.size 0 br 0 (rn : Int) 1 _ (znew w6) (R6.out.below (bnew w6 _)) (Nat.le_trans HRB.out (by decide)) (by decide)).mono ?_
  rintro e w8 ⟨rfl, hi, hr⟩
  have B8 := Lib.hid (bwr (bal B6.out) hr B6.out.size)
  have BS := Lib.hid (newW hr)
  have T8 := Lib.hid hi
  have Q8 := Lib.hid (Q6.out.below BS.out)
  have C8 := Lib.hid (C6.out.below BS.out)
  clear hi hr BS
  go_wp2_with fail
  with_reducible refine (cmp_any w6.heap.size 0 bc 0 _ _ w8 T8.out C8.out (by have := bl_mul (rn : Int) ((2 ^ 1 : Nat) : Int); have := bl_pow_le (Nat.le_refl 1); have := HRB.out; omega) (Nat.le_trans HDB.out (by decide))).mono ?_
  rintro e w9 ⟨rfl, hb⟩
  have B9 := Lib.hid (B8.out.trans (hb.mono B8.out.size))
  have Q9 := Lib.hid (Q8.out.below hb)
  clear hb
  have h2r : (rn : Int) * ((2 ^ 1 : Nat) : Int) = ((2 * rn : Nat) : Int) := by rw [Int.natCast_mul, Int.mul_comm]
  rw [h2r]
  clear h2r
  rcases Nat.lt_trichotomy (2 * rn) (scD d k) with h | h | h
  · have H := Lib.hid h
    rw [cmpZ_lt (show ((2 * rn : Nat) : Int) < _ from Int.ofNat_lt.2 h)]
    clear h
    go_wp2_with fail
    refine (uint64_any bq 0 (qn : Int) w9 Q9.out (by rw [Int.natAbs_natCast]; have := HQB.out; omega)).mono ?_
    rintro e w' ⟨rfl, rfl⟩
    rw [Int.natAbs_natCast]
    go_wp2_with fail
    go_ret3
    exact ⟨_, k, _, rfl, (by rw [← HQN.out]; exact rne_down (by rw [HRN.out]; exact H.out)), KL.out.1, Int.le_trans KL.out.2 (by decide), FIN.out.1, FIN.out.2, B9.out⟩
  · have H := Lib.hid h
    rw [cmpZ_eq (show ((2 * rn : Nat) : Int) = _ from congrArg _ h)]
    clear h
    go_wp2_with fail
    have BT := Lib.hid (bit0_any bq 0 (qn : Int) w9 Q9.out (Nat.le_trans HQBL.out (by decide)))
    rw [Int.natAbs_natCast] at BT
    rcases Nat.mod_two_eq_zero_or_one qn with c | c
    · have CC := Lib.hid c
      rw [c] at BT
      clear c
      refine BT.out.mono ?_
      rintro e w' ⟨rfl, rfl⟩
      go_wp2_with fail
      refine (uint64_any bq 0 (qn : Int) w9 Q9.out (by rw [Int.natAbs_natCast]; have := HQB.out; omega)).mono ?_
      rintro e w' ⟨rfl, rfl⟩
      rw [Int.natAbs_natCast]
      go_wp2_with fail
      go_ret3
      exact ⟨_, k, _, rfl, (by rw [← HQN.out]; exact rne_even (by rw [HRN.out]; exact H.out) (by rw [HQN.out]; exact CC.out)), KL.out.1, Int.le_trans KL.out.2 (by decide), FIN.out.1, FIN.out.2, B9.out⟩
    · have CC := Lib.hid c
      rw [c] at BT
      clear c
      refine BT.out.mono ?_
      rintro e w' ⟨rfl, rfl⟩
      go_wp2_with fail
      refine (newInt_any 1 w9 (by decide) (by decide)).mono ?_
      rintro e wx ⟨bn, rfl, hbn, hi, hb⟩
      have BX := Lib.hid (B9.out.trans (hb.mono B9.out.size))
      have QX := Lib.hid (Q9.out.below hb)
      have OX := Lib.hid hi
      clear hbn hi hb
      go_wp2_with fail
      refine (iadd_any bq 0 bq 0 bn 0 (qn : Int) 1 wx QX.out.z QX.out OX.out (Nat.le_trans HQBL.out (by decide)) (by decide)).mono ?_
      rintro e wy ⟨rfl, hi, hr⟩
      have BE := Lib.hid (bwr BX.out hr LQ.out)
      have QE : Hid (IntAt TW wy ⟨bq, 0, none⟩ ((qn + 1 : Nat) : Int)) := Lib.hid hi
      clear hi hr
      go_wp2_with fail
      refine (uint64_any bq 0 ((qn + 1 : Nat) : Int) wy QE.out (by rw [Int.natAbs_natCast]; have := HQB.out; omega)).mono ?_
      rintro e w' ⟨rfl, rfl⟩
      rw [Int.natAbs_natCast]
      go_wp2_with fail
      go_ret3
      exact ⟨_, k, _, rfl, (by rw [← HQN.out]; exact rne_tie (by rw [HRN.out]; exact H.out) (by rw [HQN.out]; exact CC.out)), KL.out.1, Int.le_trans KL.out.2 (by decide), FIN.out.1, FIN.out.2, BE.out⟩
  · have H := Lib.hid h
    rw [cmpZ_gt (show _ < ((2 * rn : Nat) : Int) from Int.ofNat_lt.2 h)]
    clear h
    go_wp2_with fail
    refine (newInt_any 1 w9 (by decide) (by decide)).mono ?_
    rintro e wx ⟨bn, rfl, hbn, hi, hb⟩
    have BX := Lib.hid (B9.out.trans (hb.mono B9.out.size))
    have QX := Lib.hid (Q9.out.below hb)
    have OX := Lib.hid hi
    clear hbn hi hb
    go_wp2_with fail
    refine (iadd_any bq 0 bq 0 bn 0 (qn : Int) 1 wx QX.out.z QX.out OX.out (Nat.le_trans HQBL.out (by decide)) (by decide)).mono ?_
    rintro e wy ⟨rfl, hi, hr⟩
    have BE := Lib.hid (bwr BX.out hr LQ.out)
    have QE : Hid (IntAt TW wy ⟨bq, 0, none⟩ ((qn + 1 : Nat) : Int)) := Lib.hid hi
    clear hi hr
    go_wp2_with fail
    refine (uint64_any bq 0 ((qn + 1 : Nat) : Int) wy QE.out (by rw [Int.natAbs_natCast]; have := HQB.out; omega)).mono ?_
    rintro e w' ⟨rfl, rfl⟩
    rw [Int.natAbs_natCast]
    go_wp2_with fail
    go_ret3
    exact ⟨_, k, _, rfl, (by rw [← HQN.out]; exact rne_up (by rw [HRN.out]; exact H.out)), KL.out.1, Int.le_trans KL.out.2 (by decide), FIN.out.1, FIN.out.2, BE.out⟩
set_option maxRecDepth 100000 in
set_option maxHeartbeats 8000000 in
theorem rounded_C (b : Nat) (x : Rat) (w : World) (hx : RatAt w b x) (h0 : x.num ≠ 0) (hn : bl x.num ≤ 5000) (hd : bl (x.den : Int) ≤ 5000) (k : Int) (hk : (bl x.num : Int) - (bl (x.den : Int) : Nat) - 53 = k) (hc : -1074 ≤ k) (hq : ¬ bl ((scN x.num.natAbs k / scD x.den k : Nat) : Int) ≤ 53) :
    Calls Tryz.prog 117 #[.pointer (some ⟨b, 0, none⟩), .int .i64 53, .int .i64 (-1074)] w (RdRet x.num.natAbs x.den w) := by
  have hkd : k = (blen x.num.natAbs : Int) - blen x.den - 53 := by rw [← hk]; unfold bl; rw [Int.natAbs_natCast]
  have hn0 : x.num.natAbs ≠ 0 := fun h => h0 (Int.natAbs_eq_zero.1 h)
  have hd0 := x.den_pos
  have hq' : ¬ blen (scN x.num.natAbs k / scD x.den k) ≤ 53 := by unfold bl at hq; rwa [Int.natAbs_natCast] at hq
  have fin : scN x.num.natAbs (k + 1) / scD x.den (k + 1) < 2 ^ 53 ∧ (k + 1 = -1074 ∨ 2 ^ 52 ≤ scN x.num.natAbs (k + 1) / scD x.den (k + 1)) := ⟨(place_more hd0 hkd hq').1, .inr (place_more hd0 hkd hq').2⟩
  have HX := Lib.hid hx
  have HN := Lib.hid hn
  have HD := Lib.hid hd
  obtain ⟨k1, hk1⟩ : ∃ k : Int, (bl x.num : Int) - (bl (x.den : Int) : Nat) = k := ⟨_, rfl⟩
  obtain ⟨u, hu⟩ : ∃ u : Int, ((bl x.num : Nat) : Int) = u := ⟨_, rfl⟩
  obtain ⟨v, hv⟩ : ∃ v : Int, ((bl (x.den : Int) : Nat) : Int) = v := ⟨_, rfl⟩
  have hkb : -6000 ≤ k ∧ k ≤ 5000 := by omega
  have w1 : IntKind.i64.wrap (u - v) = k1 := by rw [← hu, ← hv, hk1]; exact IntWalk.i64_in _ (by omega)
  have w2 : IntKind.i64.wrap (k1 - 53) = k := by rw [← hk1, hk]; exact IntWalk.i64_in _ (by omega)
  have HU := Lib.hid hu
  have HV := Lib.hid hv
  have KB := Lib.hid hkb
  have g0 : decide (-1074 ≤ k) = true := decide_eq_true hc
  obtain ⟨ql, hql⟩ : ∃ q : Int, ((bl ((scN x.num.natAbs k / scD x.den k : Nat) : Int) : Nat) : Int) = q := ⟨_, rfl⟩
  have g1 : decide (53 < ql) = true := decide_eq_true (by omega)
  have HQL := Lib.hid hql
  obtain ⟨KK, hKK⟩ : ∃ K : Int, k + 1 = K := ⟨_, rfl⟩
  have w3 : IntKind.i64.wrap (k + 1) = KK := by rw [hKK]; exact IntWalk.i64_in _ (by omega)
  have hcc : -1074 ≤ KK := by omega
  rw [hKK] at fin
  have HKK := Lib.hid hKK
  have BQ0 : bl ((scN x.num.natAbs k / scD x.den k : Nat) : Int) ≤ 100000 := Nat.le_trans (bl_53' hd0 hkd) (by decide)
  have BQ := Lib.hid BQ0
  have FIN := Lib.hid fin
  have KL := Lib.hid (show -1074 ≤ KK ∧ KK ≤ 6000 by omega)
  obtain ⟨n, hnn⟩ : ∃ n, x.num.natAbs = n := ⟨_, rfl⟩
  obtain ⟨d, hdd⟩ : ∃ d, x.den = d := ⟨_, rfl⟩
  rw [hnn, hdd] at FIN
  have HDB : Hid (bl ((scD d KK : Nat) : Int) ≤ 20001) := Lib.hid (Nat.le_trans (bl_scD (B := 6000) (by rw [← hdd]; exact Nat.le_trans hd (by decide)) (by omega)) (by decide))
  have HDP := Lib.hid (scD_pos (d := d) (by rw [← hdd]; exact hd0) KK)
  rw [hnn, hdd]
  have HNN := Lib.hid hnn
  have HDD := Lib.hid hdd
  rw [hnn, hdd] at HQL
  rw [HNN.out, HDD.out] at BQ
  clear BQ0 hx h0 hn hd hk hk1 hu hv hkb hkd hn0 hd0 fin hnn hdd hq hq' hql hKK
  go_enter Tryz.func117, Tryz.ntmps117
  go_wp2_with fail
  refine (bitLen_any b 0 x.num w HX.out.num (Nat.le_trans HN.out (by decide))).mono ?_
  rintro e wa ⟨rfl, hb⟩
  rw [HU.out]
  have B1 := Lib.hid hb
  have HX1 := Lib.hid (HX.out.below hb)
  clear hb
  go_wp2_with fail
  refine (denom_any b x wa HX1.out).mono ?_
  rintro e wb ⟨bP, oP, rfl, hi, hb, hor⟩
  have B2 := Lib.hid (B1.out.trans (hb.mono B1.out.size))
  have P := Lib.hid hi
  have HX2 := Lib.hid (HX1.out.below hb)
  clear hi hb hor
  go_wp2_with fail
  refine (bitLen_any bP oP (x.den : Int) wb P.out (Nat.le_trans HD.out (by decide))).mono ?_
  rintro e wc0 ⟨rfl, hb⟩
  rw [HV.out]
  have B3 := Lib.hid (B2.out.trans (hb.mono B2.out.size))
  have HX3 := Lib.hid (HX2.out.below hb)
  clear hb
  go_wp2_with fail
  with_reducible refine (scaled_any b x k wc0 HX3.out (Nat.le_trans HN.out (by decide)) (Nat.le_trans HD.out (by decide)) (by have := KB.out; omega) (by have := KB.out; omega)).mono ?_
  intro e w5 h5
  rw [HNN.out, HDD.out] at h5
  rcases h5 with ⟨bq, br, bc, rfl, hq, hr, hcd, hb, hle⟩
  have B5 := Lib.hid (B3.out.trans (hb.mono B3.out.size))
  have LQ := Lib.hid (Nat.le_trans B3.out.size hle)
  have Q := Lib.hid hq
  have R := Lib.hid hr
  have C := Lib.hid hcd
  have HX5 := Lib.hid (HX3.out.below hb)
  clear hq hr hcd hb hle
  go_wp2_with fail
  refine (bitLen_any bq 0 _ w5 Q.out BQ.out).mono ?_
  rintro e w6 ⟨rfl, hb⟩
  rw [HQL.out]
  have B6 := Lib.hid (B5.out.trans (hb.mono B5.out.size))
  have Q6 := Lib.hid (Q.out.below hb)
  have R6 := Lib.hid (R.out.below hb)
  have C6 := Lib.hid (C.out.below hb)
  have HX6 := Lib.hid (HX5.out.below hb)
  clear hb
  go_wp2_with fail
  with_reducible refine (scaled_any b x KK w6 HX6.out (Nat.le_trans HN.out (by decide)) (Nat.le_trans HD.out (by decide)) (by have := KL.out; omega) (by have := KL.out; omega)).mono ?_
  intro e w7 h7
  rw [HNN.out, HDD.out] at h7
  rcases h7 with ⟨bq2, br2, bc2, rfl, hq, hr, hcd, hb, hle⟩
  have B7 := Lib.hid (B6.out.trans (hb.mono B6.out.size))
  have LQ7 := Lib.hid (Nat.le_trans B6.out.size hle)
  have Q7 := Lib.hid hq
  have R7 := Lib.hid hr
  have C7 := Lib.hid hcd
  clear hq hr hcd hb hle
  go_wp2_with fail
  obtain ⟨qn, hqn⟩ : ∃ q, scN n KK / scD d KK = q := ⟨_, rfl⟩
  obtain ⟨rn, hrn⟩ : ∃ q, scN n KK % scD d KK = q := ⟨_, rfl⟩
  have HQN := Lib.hid hqn
  have HRN := Lib.hid hrn
  have HRB : Hid (bl ((rn : Nat) : Int) ≤ 20001) := Lib.hid (by rw [← hrn]; exact bl_mod HDP.out HDB.out)
  rw [hqn] at Q7
  rw [hrn] at R7
  have HQB : Hid (qn < 2 ^ 53) := Lib.hid (by rw [← hqn]; exact FIN.out.1)
  have HQBL : Hid (bl (qn : Int) ≤ 53) := Lib.hid (bl_53 HQB.out)
  clear hqn hrn
  obtain ⟨sr, hsr⟩ : ∃ s, sigI (rn : Int) = s := ⟨_, rfl⟩
  have SG := Lib.hid (isign_any br2 0 (rn : Int) w7 R7.out (Nat.le_trans HRB.out (by decide)))
  rw [hsr] at SG
  clear hsr
  refine SG.out.mono ?_
  rintro e w' ⟨rfl, rfl⟩
  go_wp2_with fail
  refine (lsh_any w7.heap.size 0 br2 0 (rn : Int) 1 _ (znew w7) (R7.out.below (bnew w7 _)) (Nat.le_trans HRB.out (by decide)) (by decide)).mono ?_
  rintro e w8 ⟨rfl, hi, hr⟩
  have B8 := Lib.hid (bwr (bal B7.out) hr B7.out.size)
  have BS := Lib.hid (newW hr)
  have T8 := Lib.hid hi
  have Q8 := Lib.hid (Q7.out.below BS.out)
  have C8 := Lib.hid (C7.out.below BS.out)
  clear hi hr BS
  go_wp2_with fail
  with_reducible refine (cmp_any w7.heap.size 0 bc2 0 _ _ w8 T8.out C8.out (by have := bl_mul (rn : Int) ((2 ^ 1 : Nat) : Int); have := bl_pow_le (Nat.le_refl 1); have := HRB.out; omega) (Nat.le_trans HDB.out (by decide))).mono ?_
  rintro e w9 ⟨rfl, hb⟩
  have B9 := Lib.hid (B8.out.trans (hb.mono B8.out.size))
  have Q9 := Lib.hid (Q8.out.below hb)
  clear hb
  have h2r : (rn : Int) * ((2 ^ 1 : Nat) : Int) = ((2 * rn : Nat) : Int) := by rw [Int.natCast_mul, Int.mul_comm]
  rw [h2r]
  clear h2r
  rcases Nat.lt_trichotomy (2 * rn) (scD d KK) with h | h | h
  · have H := Lib.hid h
    rw [cmpZ_lt (show ((2 * rn : Nat) : Int) < _ from Int.ofNat_lt.2 h)]
    clear h
    go_wp2_with fail
    refine (uint64_any bq2 0 (qn : Int) w9 Q9.out (by rw [Int.natAbs_natCast]; have := HQB.out; omega)).mono ?_
    rintro e w' ⟨rfl, rfl⟩
    rw [Int.natAbs_natCast]
    go_wp2_with fail
    go_ret3
    exact ⟨_, KK, _, rfl, (by rw [← HQN.out]; exact rne_down (by rw [HRN.out]; exact H.out)), KL.out.1, Int.le_trans KL.out.2 (by decide), FIN.out.1, FIN.out.2, B9.out⟩
  · have H := Lib.hid h
    rw [cmpZ_eq (show ((2 * rn : Nat) : Int) = _ from congrArg _ h)]
    clear h
    go_wp2_with fail
    have BT := Lib.hid (bit0_any bq2 0 (qn : Int) w9 Q9.out (Nat.le_trans HQBL.out (by decide)))
    rw [Int.natAbs_natCast] at BT
    rcases Nat.mod_two_eq_zero_or_one qn with c | c
    · have CC := Lib.hid c
      rw [c] at BT
      clear c
      refine BT.out.mono ?_
      rintro e w' ⟨rfl, rfl⟩
      go_wp2_with fail
      refine (uint64_any bq2 0 (qn : Int) w9 Q9.out (by rw [Int.natAbs_natCast]; have := HQB.out; omega)).mono ?_
      rintro e w' ⟨rfl, rfl⟩
      rw [Int.natAbs_natCast]
      go_wp2_with fail
      go_ret3
      exact ⟨_, KK, _, rfl, (by rw [← HQN.out]; exact rne_even (by rw [HRN.out]; exact H.out) (by rw [HQN.out]; exact CC.out)), KL.out.1, Int.le_trans KL.out.2 (by decide), FIN.out.1, FIN.out.2, B9.out⟩
    · have CC := Lib.hid c
      rw [c] at BT
      clear c
      refine BT.out.mono ?_
      rintro e w' ⟨rfl, rfl⟩
      go_wp2_with fail
      refine (newInt_any 1 w9 (by decide) (by decide)).mono ?_
      rintro e wx ⟨bn, rfl, hbn, hi, hb⟩
      have BX := Lib.hid (B9.out.trans (hb.mono B9.out.size))
      have QX := Lib.hid (Q9.out.below hb)
      have OX := Lib.hid hi
      clear hbn hi hb
      go_wp2_with fail
      refine (iadd_any bq2 0 bq2 0 bn 0 (qn : Int) 1 wx QX.out.z QX.out OX.out (Nat.le_trans HQBL.out (by decide)) (by decide)).mono ?_
      rintro e wy ⟨rfl, hi, hr⟩
      have BE := Lib.hid (bwr BX.out hr LQ7.out)
      have QE : Hid (IntAt TW wy ⟨bq2, 0, none⟩ ((qn + 1 : Nat) : Int)) := Lib.hid hi
      clear hi hr
      go_wp2_with fail
      refine (uint64_any bq2 0 ((qn + 1 : Nat) : Int) wy QE.out (by rw [Int.natAbs_natCast]; have := HQB.out; omega)).mono ?_
      rintro e w' ⟨rfl, rfl⟩
      rw [Int.natAbs_natCast]
      go_wp2_with fail
      go_ret3
      exact ⟨_, KK, _, rfl, (by rw [← HQN.out]; exact rne_tie (by rw [HRN.out]; exact H.out) (by rw [HQN.out]; exact CC.out)), KL.out.1, Int.le_trans KL.out.2 (by decide), FIN.out.1, FIN.out.2, BE.out⟩
  · have H := Lib.hid h
    rw [cmpZ_gt (show _ < ((2 * rn : Nat) : Int) from Int.ofNat_lt.2 h)]
    clear h
    go_wp2_with fail
    refine (newInt_any 1 w9 (by decide) (by decide)).mono ?_
    rintro e wx ⟨bn, rfl, hbn, hi, hb⟩
    have BX := Lib.hid (B9.out.trans (hb.mono B9.out.size))
    have QX := Lib.hid (Q9.out.below hb)
    have OX := Lib.hid hi
    clear hbn hi hb
    go_wp2_with fail
    refine (iadd_any bq2 0 bq2 0 bn 0 (qn : Int) 1 wx QX.out.z QX.out OX.out (Nat.le_trans HQBL.out (by decide)) (by decide)).mono ?_
    rintro e wy ⟨rfl, hi, hr⟩
    have BE := Lib.hid (bwr BX.out hr LQ7.out)
    have QE : Hid (IntAt TW wy ⟨bq2, 0, none⟩ ((qn + 1 : Nat) : Int)) := Lib.hid hi
    clear hi hr
    go_wp2_with fail
    refine (uint64_any bq2 0 ((qn + 1 : Nat) : Int) wy QE.out (by rw [Int.natAbs_natCast]; have := HQB.out; omega)).mono ?_
    rintro e w' ⟨rfl, rfl⟩
    rw [Int.natAbs_natCast]
    go_wp2_with fail
    go_ret3
    exact ⟨_, KK, _, rfl, (by rw [← HQN.out]; exact rne_up (by rw [HRN.out]; exact H.out)), KL.out.1, Int.le_trans KL.out.2 (by decide), FIN.out.1, FIN.out.2, BE.out⟩
/-- Rat.rounded, of 53 bits -/
theorem rounded_any (b : Nat) (x : Rat) (w : World) (hx : RatAt w b x) (h0 : x.num ≠ 0) (hn : bl x.num ≤ 5000) (hd : bl (x.den : Int) ≤ 5000) :
    Calls Tryz.prog 117 #[.pointer (some ⟨b, 0, none⟩), .int .i64 53, .int .i64 (-1074)] w (RdRet x.num.natAbs x.den w) := by
  by_cases hc : (bl x.num : Int) - (bl (x.den : Int) : Nat) - 53 < -1074
  · exact rounded_A b x w hx h0 hn hd _ rfl hc
  · by_cases hq : bl ((scN x.num.natAbs ((bl x.num : Int) - (bl (x.den : Int) : Nat) - 53) / scD x.den ((bl x.num : Int) - (bl (x.den : Int) : Nat) - 53) : Nat) : Int) ≤ 53
    · exact rounded_B b x w hx h0 hn hd _ rfl (by omega) hq
    · exact rounded_C b x w hx h0 hn hd _ rfl (by omega) hq
end Go.Proofs.YtokmommlabdcdaaGreat
set_option linter.unusedVariables false
set_option linter.unusedSimpArgs false
namespace Go.Proofs.YtokmommlabdcdaaGreat
open Wd Fl Go.RowKit
/-- a float, and whether it is just -/
def FlRet (f : Nat) (w : World) (e : Ending) (w' : World) : Prop := ∃ ex : Bool, e = .returned (.tuple #[.float .f64 f, .bool ex]) ∧ Below w.heap.size w w'
theorem neg_wd {r : Nat} (h : r < 2 ^ 63) : neg (wd false r) = wd true r := by
  unfold neg wd
  simp only [Bool.false_eq_true, if_false, if_true]
  rw [if_pos h]; omega
theorem sigI_neg {n : Int} : sigI n < 0 ↔ n < 0 := by
  unfold sigI
  by_cases c : n < 0
  · simp [c]
  · rw [if_neg c]
    constructor
    · intro h; split at h <;> omega
    · intro h; omega
set_option maxRecDepth 100000 in
set_option maxHeartbeats 8000000 in
theorem float64_zero (b : Nat) (x : Rat) (w : World) (hx : RatAt w b x) (h0 : x.num = 0) :
    Calls Tryz.prog 98 #[.pointer (some ⟨b, 0, none⟩)] w (FlRet (fq x false) w) := by
  have e : fq x false = 0 := by unfold fq; rw [if_pos h0]; rfl
  rw [e]
  have S := Lib.hid (rsign_any b x w hx (by rw [h0]; decide))
  rw [h0, show sigI 0 = 0 from rfl] at S
  clear hx h0 e
  go_enter Tryz.func98, Tryz.ntmps98
  go_wp2_with fail
  refine S.out.mono ?_
  rintro e w' ⟨rfl, rfl⟩
  go_wp2_with fail
  go_ret2
  exact ⟨_, rfl, Below.refl _ _⟩
set_option maxRecDepth 100000 in
set_option maxHeartbeats 8000000 in
theorem float64_some (b : Nat) (x : Rat) (w : World) (hx : RatAt w b x) (h0 : x.num ≠ 0) (hn : bl x.num ≤ 5000) (hd : bl (x.den : Int) ≤ 5000) :
    Calls Tryz.prog 98 #[.pointer (some ⟨b, 0, none⟩)] w (FlRet (fq x false) w) := by
  have HX := Lib.hid hx
  have HN := Lib.hid (Nat.le_trans hn (show 5000 ≤ 100000 by decide))
  have HR := Lib.hid (rounded_any b x w hx h0 hn hd)
  have S := Lib.hid (rsign_any b x w hx (Nat.le_trans hn (by decide)))
  obtain ⟨s, hs⟩ : ∃ s, sigI x.num = s := ⟨_, rfl⟩
  have k0 : (s == 0) = false := by rw [← hs]; exact sigI_ne h0
  have HS := Lib.hid hs
  rw [hs] at S
  obtain ⟨f, hf⟩ : ∃ f, fq x false = f := ⟨_, rfl⟩
  rw [hf]
  unfold fq at hf
  rw [if_neg h0] at hf
  have HF := Lib.hid hf
  have HD0 := Lib.hid x.den_pos
  clear hx h0 hn hd hs hf
  go_enter Tryz.func98, Tryz.ntmps98
  go_wp2_with fail
  refine S.out.mono ?_
  rintro e w' ⟨rfl, rfl⟩
  go_wp2_with fail
  refine HR.out.mono ?_
  intro e w1 h1
  rcases h1 with ⟨m, K, ex, rfl, hm, hK1, hK2, hq1, hq2, hb⟩
  have hm53 : m ≤ 2 ^ 53 := by rw [hm]; exact RNE_le53 hq1
  have hmc : K = -1074 ∨ 2 ^ 52 ≤ m := by
    rcases hq2 with h | h
    · exact .inl h
    · exact .inr (Nat.le_trans h (by rw [hm]; exact RNE_lo _ _))
  have LD := Lib.hid (ldexp_int m K hm53 hK1 hK2 hmc)
  have hld : ldR m K = rq (x.num.natAbs * UN) x.den := by rw [hm]; exact ldR_of HD0.out hK1 hq1 hq2
  have HL := Lib.hid hld
  have B1 := Lib.hid hb
  have mI : (m : Int) ≤ 9007199254740992 := by omega
  have S1 := Lib.hid (rsign_any b x w1 (HX.out.below hb) HN.out)
  rw [HS.out] at S1
  have HR63 : Hid (ldR m K < 2 ^ 63) := Lib.hid (by rw [hld]; exact Nat.lt_of_le_of_lt (rq_le _ _) INF_lt)
  clear hm hK1 hK2 hq1 hq2 hb hm53 hmc hld
  go_wp2_with fail
  refine (LD.out w1).mono ?_
  rintro e w2 ⟨rfl, nd, rfl⟩
  have U := Lib.hid (unary_neg (wd false (ldR m K)) (wd_lt _ _ HR63.out))
  have I := Lib.hid (isInf0_any (wd false (ldR m K)) (wd_lt _ _ HR63.out))
  have S2 := Lib.hid (rsign_any b x (w1.drewN nd) ((HX.out.below B1.out).below (below_drewN (Below.refl _ w1) nd)) HN.out)
  rw [HS.out] at S2
  have B2 := Lib.hid (below_drewN B1.out nd)
  have NG := Lib.hid (neg_wd HR63.out)
  rw [← HL.out] at HF
  obtain ⟨g, hg⟩ : ∃ g, wd false (ldR m K) = g := ⟨_, rfl⟩
  have HG := Lib.hid hg
  rw [hg] at U I NG ⊢
  clear hg
  by_cases hneg : x.num < 0
  · have k1 : decide (s < 0) = true := decide_eq_true (by rw [← HS.out]; exact sigI_neg.2 hneg)
    have hf : wd true (ldR m K) = f := by have := HF.out; rwa [decide_eq_true hneg] at this
    have HF2 := Lib.hid hf
    have u := U.out
    rw [NG.out, hf] at u
    clear hneg hf
    cases ex
    · go_wp2_with fail
      refine S2.out.mono ?_
      rintro e w' ⟨rfl, rfl⟩
      go_wp2_with fail
      go_ret2
      exact ⟨_, rfl, B2.out⟩
    · go_wp2_with fail
      refine (I.out _).mono ?_
      rintro e w' ⟨rfl, rfl⟩
      go_wp2_with fail
      refine S2.out.mono ?_
      rintro e w' ⟨rfl, rfl⟩
      go_wp2_with fail
      go_ret2
      exact ⟨_, rfl, B2.out⟩
  · have k1 : decide (s < 0) = false := decide_eq_false (by rw [← HS.out]; exact fun h => hneg (sigI_neg.1 h))
    have hf : g = f := by have := HF.out; rw [decide_eq_false hneg] at this; rw [← HG.out]; exact this
    clear hneg
    subst hf
    clear U
    cases ex
    · go_wp2_with fail
      refine S2.out.mono ?_
      rintro e w' ⟨rfl, rfl⟩
      go_wp2_with fail
      go_ret2
      exact ⟨_, rfl, B2.out⟩
    · go_wp2_with fail
      refine (I.out _).mono ?_
      rintro e w' ⟨rfl, rfl⟩
      go_wp2_with fail
      refine S2.out.mono ?_
      rintro e w' ⟨rfl, rfl⟩
      go_wp2_with fail
      go_ret2
      exact ⟨_, rfl, B2.out⟩
/-- Rat.Float64 -/
theorem float64_any (b : Nat) (x : Rat) (w : World) (hx : RatAt w b x) (hn : bl x.num ≤ 5000) (hd : bl (x.den : Int) ≤ 5000) :
    Calls Tryz.prog 98 #[.pointer (some ⟨b, 0, none⟩)] w (FlRet (fq x false) w) := by
  by_cases h0 : x.num = 0
  · exact float64_zero b x w hx h0
  · exact float64_some b x w hx h0 hn hd
end Go.Proofs.YtokmommlabdcdaaGreat
set_option linter.unusedVariables false
set_option linter.unusedSimpArgs false
namespace Go.Proofs.YtokmommlabdcdaaGreat
open Wd Fl Go.RowKit
theorem signbit_any (x : Nat) (hx : x < 2 ^ 64) (w : World) :
    Calls Tryz.prog 81 #[.float .f64 x] w fun e w' => e = .returned (.bool (sg x)) ∧ w = w' := by
  have h2 := f64bits_run
  have e : decide (RowKit.wrap64 (x : Int) < 0) = sg x := by
    have hr := rg_lt x
    cases hs : sg x
    · rw [place_pos x hx hs, pl_false hs]; exact decide_eq_false (by omega)
    · have := sg_true hx hs
      unfold RowKit.wrap64
      exact decide_eq_true (by omega)
  have E := Lib.hid e; clear e hx
  go_enter Tryz.func81, Tryz.ntmps81
  go_wp2
  go_ret
  exact ⟨ret_bool E.out, rfl⟩
theorem mnan_any (w : World) :
    Calls Tryz.prog 82 #[] w fun e w' => e = .returned (.float .f64 9221120237041090561) ∧ w = w' := by
  have h4 := frombits_run
  go_enter Tryz.func82, Tryz.ntmps82
  go_wp2
  go_ret
  exact ⟨rfl, rfl⟩
theorem infm_any (w : World) :
    Calls Tryz.prog 87 #[.int .i64 (-1)] w fun e w' => e = .returned (.float .f64 18442240474082181120) ∧ w = w' := by
  have h4 := frombits_run
  go_enter Tryz.func87, Tryz.ntmps87
  go_wp2
  go_ret
  exact ⟨rfl, rfl⟩
theorem copysign0_any (w : World) :
    Calls Tryz.prog 100 #[.float .f64 0, .float .f64 13830554455654793216] w fun e w' => e = .returned (.float .f64 9223372036854775808) ∧ w = w' := by
  have h3 := f64bits_run
  have h4 := frombits_run
  go_enter Tryz.func100, Tryz.ntmps100
  go_wp2
  go_ret
  exact ⟨ret_float (by decide), rfl⟩
theorem finite_any (x : Nat) (hx : x < 2 ^ 64) (w : World) :
    Calls Tryz.prog 80 #[.float .f64 x] w fun e w' => e = .returned (.bool (decide (fin x))) ∧ ∃ n, w' = w.drewN n := by
  have e := Lib.hid (fun w => (order_zeroB (fop .sub x x w)).trans (self_sub hx (fop_sub x x w)))
  clear hx
  go_enter Tryz.func80, Tryz.ntmps80
  go_wp2
  go_ret
  exact ⟨ret_bool (e.out _), _, rfl⟩
/-- a new fraction -/
def RatNew (q : Rat) (w : World) (e : Ending) (w' : World) : Prop := ∃ b, e = .returned (.pointer (some ⟨b, 0, none⟩)) ∧ RatAt w' b q ∧ w.heap.size ≤ b ∧ Below w.heap.size w w'
theorem newR {w w1 : World} {c : Obj} (h : Wr w.heap.size 0 4 (w.alloc c) w1) : Below w.heap.size w w1 := (bnew w c).trans (h.below (Nat.le_refl _) (by simp))
set_option maxRecDepth 100000 in
set_option maxHeartbeats 4000000 in
theorem rat_any (x : Nat) (hx : x < 2 ^ 64) (hf : fin x) (w : World) :
    Calls Tryz.prog 85 #[.float .f64 x] w (RatNew (fv x) w) := by
  have H := Lib.hid (setFloat_any w.heap.size x _ (znewr w) hx hf)
  clear hx hf
  go_enter Tryz.func85, Tryz.ntmps85
  go_wp2_with fail
  refine H.out.mono ?_
  rintro e w1 ⟨rfl, hra, hr⟩
  have R := Lib.hid hra
  have B := Lib.hid (newR hr)
  clear hra hr
  go_wp2_with fail
  go_ret
  exact ⟨_, rfl, R.out, Nat.le_refl _, B.out⟩
theorem wd0 : wd true 0 = 9223372036854775808 := by decide
theorem rg_fq {q : Rat} : rg (fq q false) = rg (fq q false) := rfl
theorem fq_neg_zero {q : Rat} (h : q.num < 0) (h0 : zeroB (fq q false) = true) : (9223372036854775808 : Nat) = fq q false := by
  have hl := rq_lt (q.num.natAbs * UN) q.den
  unfold fq at *
  rw [if_neg (by omega), decide_eq_true h] at *
  unfold zeroB at h0
  have := of_decide_eq_true h0
  rw [rg_wd _ _ hl] at this
  rw [this]; rfl
theorem fq_sign {q : Rat} (h : q.num ≠ 0) (s : Bool) : fq q s = fq q false := by unfold fq; rw [if_neg h, if_neg h]
/-- a float, and new memory -/
def FloNew (f : Nat) (w : World) (e : Ending) (w' : World) : Prop := e = .returned (.float .f64 f) ∧ Below w.heap.size w w'
set_option maxRecDepth 100000 in
set_option maxHeartbeats 8000000 in
theorem signed_neg (b : Nat) (q : Rat) (s : Bool) (w : World) (hx : RatAt w b q) (hn : bl q.num ≤ 5000) (hd : bl (q.den : Int) ≤ 5000) (h : q.num < 0) :
    Calls Tryz.prog 83 #[.pointer (some ⟨b, 0, none⟩), .bool s] w (FloNew (fq q s) w) := by
  have hs : sigI q.num = -1 := by unfold sigI; rw [if_pos h]
  have FL := Lib.hid (float64_any b q w hx hn hd)
  have SI := Lib.hid (fun w' (hb : Below w.heap.size w w') => rsign_any b q w' (hx.below hb) (Nat.le_trans hn (by decide)))
  rw [hs] at SI
  rw [fq_sign (by omega) s]
  have NZ := Lib.hid (fun h0 => fq_neg_zero (q := q) h h0)
  obtain ⟨f, hf⟩ : ∃ f, fq q false = f := ⟨_, rfl⟩
  rw [hf] at FL NZ ⊢
  have OZ := order_zeroB f
  obtain ⟨z, hz⟩ : ∃ z, zeroB f = z := ⟨_, rfl⟩
  rw [hz] at NZ OZ
  clear hx hn hd h hs hf hz
  go_enter Tryz.func83, Tryz.ntmps83
  go_wp2_with fail
  refine FL.out.mono ?_
  intro e w1 h1
  rcases h1 with ⟨ex, rfl, hb⟩
  have B := Lib.hid hb
  have S := Lib.hid (SI.out w1 hb)
  clear hb
  go_wp2_with fail
  refine S.out.mono ?_
  rintro e w' ⟨rfl, rfl⟩
  go_wp2_with fail
  refine S.out.mono ?_
  rintro e w' ⟨rfl, rfl⟩
  cases z
  · go_wp2_with fail
    go_ret
    exact ⟨rfl, B.out⟩
  · go_wp2_with fail
    refine (copysign0_any w1).mono ?_
    rintro e w' ⟨rfl, rfl⟩
    go_wp2_with fail
    go_ret
    exact ⟨ret_float (NZ.out trivial), B.out⟩
set_option maxRecDepth 100000 in
set_option maxHeartbeats 8000000 in
theorem signed_zero (b : Nat) (q : Rat) (s : Bool) (w : World) (hx : RatAt w b q) (hn : bl q.num ≤ 5000) (hd : bl (q.den : Int) ≤ 5000) (h : q.num = 0) :
    Calls Tryz.prog 83 #[.pointer (some ⟨b, 0, none⟩), .bool s] w (FloNew (fq q s) w) := by
  have hs : sigI q.num = 0 := by unfold sigI; rw [h]; rfl
  have FL := Lib.hid (float64_any b q w hx hn hd)
  have SI := Lib.hid (fun w' (hb : Below w.heap.size w w') => rsign_any b q w' (hx.below hb) (Nat.le_trans hn (by decide)))
  rw [hs] at SI
  have e0 : fq q false = 0 := by unfold fq; rw [if_pos h]; rfl
  have es : fq q s = wd s 0 := by unfold fq; rw [if_pos h]
  rw [e0] at FL
  rw [es]
  have z0 : (FloatKind.f64.format.order 0 0 == some Ordering.eq) = true := by decide
  clear hx hn hd h hs e0 es
  go_enter Tryz.func83, Tryz.ntmps83
  go_wp2_with fail
  refine FL.out.mono ?_
  intro e w1 h1
  rcases h1 with ⟨ex, rfl, hb⟩
  have B := Lib.hid hb
  have S := Lib.hid (SI.out w1 hb)
  clear hb
  go_wp2_with fail
  refine S.out.mono ?_
  rintro e w' ⟨rfl, rfl⟩
  go_wp2_with fail
  refine S.out.mono ?_
  rintro e w' ⟨rfl, rfl⟩
  cases s
  · go_wp2_with fail
    go_ret
    exact ⟨rfl, B.out⟩
  · go_wp2_with fail
    refine (copysign0_any w1).mono ?_
    rintro e w' ⟨rfl, rfl⟩
    go_wp2_with fail
    go_ret
    exact ⟨rfl, B.out⟩
set_option maxRecDepth 100000 in
set_option maxHeartbeats 8000000 in
theorem signed_pos (b : Nat) (q : Rat) (s : Bool) (w : World) (hx : RatAt w b q) (hn : bl q.num ≤ 5000) (hd : bl (q.den : Int) ≤ 5000) (h : 0 < q.num) :
    Calls Tryz.prog 83 #[.pointer (some ⟨b, 0, none⟩), .bool s] w (FloNew (fq q s) w) := by
  have hs : sigI q.num = 1 := by unfold sigI; rw [if_neg (by omega), if_neg (by omega)]
  have FL := Lib.hid (float64_any b q w hx hn hd)
  have SI := Lib.hid (fun w' (hb : Below w.heap.size w w') => rsign_any b q w' (hx.below hb) (Nat.le_trans hn (by decide)))
  rw [hs] at SI
  rw [fq_sign (by omega) s]
  obtain ⟨f, hf⟩ : ∃ f, fq q false = f := ⟨_, rfl⟩
  rw [hf] at FL ⊢
  have OZ := order_zeroB f
  obtain ⟨z, hz⟩ : ∃ z, zeroB f = z := ⟨_, rfl⟩
  rw [hz] at OZ
  clear hx hn hd h hs hf hz
  go_enter Tryz.func83, Tryz.ntmps83
  go_wp2_with fail
  refine FL.out.mono ?_
  intro e w1 h1
  rcases h1 with ⟨ex, rfl, hb⟩
  have B := Lib.hid hb
  have S := Lib.hid (SI.out w1 hb)
  clear hb
  go_wp2_with fail
  refine S.out.mono ?_
  rintro e w' ⟨rfl, rfl⟩
  go_wp2_with fail
  refine S.out.mono ?_
  rintro e w' ⟨rfl, rfl⟩
  cases z
  all_goals
    go_wp2_with fail
    go_ret
    exact ⟨rfl, B.out⟩
/-- surdref5.signed -/
theorem signed_any (b : Nat) (q : Rat) (s : Bool) (w : World) (hx : RatAt w b q) (hn : bl q.num ≤ 5000) (hd : bl (q.den : Int) ≤ 5000) :
    Calls Tryz.prog 83 #[.pointer (some ⟨b, 0, none⟩), .bool s] w (FloNew (fq q s) w) := by
  rcases Int.lt_trichotomy q.num 0 with h | h | h
  · exact signed_neg b q s w hx hn hd h
  · exact signed_zero b q s w hx hn hd h
  · exact signed_pos b q s w hx hn hd h
end Go.Proofs.YtokmommlabdcdaaGreat
set_option linter.unusedVariables false
set_option linter.unusedSimpArgs false
namespace Go.Proofs.YtokmommlabdcdaaGreat
open Wd Fl Go.RowKit
theorem mkRat_bl {n : Int} {d B C : Nat} (hd : 0 < d) (h1 : bl n ≤ B) (h2 : bl (d : Int) ≤ C) : bl (mkRat n d).num ≤ B ∧ bl ((mkRat n d).den : Int) ≤ C := by
  obtain ⟨e1, e2⟩ := mkRat_parts n hd
  rw [e1, e2]
  exact ⟨Nat.le_trans (bl_tdiv _ _) h1, Nat.le_trans (bl_tdiv _ _) h2⟩
theorem dy_den {B : Nat} {x : Rat} (h : Dy B x) : bl (x.den : Int) ≤ B + 1 := by
  obtain ⟨i, hi, e⟩ := h.den
  rw [e]; exact bl_pow_le hi
theorem add_bl {x y : Rat} (hx : Dy 1200 x) (hy : Dy 1200 y) : bl (x + y).num ≤ 5000 ∧ bl ((x + y).den : Int) ≤ 5000 := by
  have a1 := dy_den hx
  have a2 := dy_den hy
  have b1 : bl x.num ≤ 1200 := hx.num
  have b2 : bl y.num ≤ 1200 := hy.num
  rw [Rat.add_def']
  have m1 := bl_mul x.num (y.den : Int)
  have m2 := bl_mul y.num (x.den : Int)
  have m3 := bl_mul (x.den : Int) (y.den : Int)
  have m4 := bl_add (x.num * (y.den : Int)) (y.num * (x.den : Int)) 2401 (by omega) (by omega)
  exact mkRat_bl (Nat.mul_pos x.den_pos y.den_pos) (by omega) (by rw [Int.natCast_mul]; omega)
theorem mul_bl {x y : Rat} {B : Nat} (hx : bl x.num ≤ B) (hy : bl y.num ≤ B) (dx : bl (x.den : Int) ≤ B) (dy : bl (y.den : Int) ≤ B) : bl (x * y).num ≤ 2 * B ∧ bl ((x * y).den : Int) ≤ 2 * B := by
  rw [Rat.mul_def']
  have m1 := bl_mul x.num y.num
  have m3 := bl_mul (x.den : Int) (y.den : Int)
  exact mkRat_bl (Nat.mul_pos x.den_pos y.den_pos) (by omega) (by rw [Int.natCast_mul]; omega)
theorem mul_bl' {x y : Rat} (hx : Dy 1200 x) (hy : Dy 1200 y) : bl (x * y).num ≤ 5000 ∧ bl ((x * y).den : Int) ≤ 5000 := by
  have a1 := dy_den hx
  have a2 := dy_den hy
  have b1 : bl x.num ≤ 1200 := hx.num
  have b2 : bl y.num ≤ 1200 := hy.num
  have := mul_bl (x := x) (y := y) (B := 1201) (by omega) (by omega) a1 a2
  omega
theorem div_bl {x y : Rat} (hx : Dy 1200 x) (hy : Dy 1200 y) (h0 : y.num ≠ 0) : bl (x / y).num ≤ 5000 ∧ bl ((x / y).den : Int) ≤ 5000 := by
  have a1 := dy_den hx
  have a2 := dy_den hy
  have b1 : bl x.num ≤ 1200 := hx.num
  have b2 : bl y.num ≤ 1200 := hy.num
  obtain ⟨i1, i2⟩ := Rl.inv_parts h0
  have c1 : bl (y⁻¹).num ≤ 1201 := by
    rw [i1]
    split
    · rw [bl_neg]; exact a2
    · exact a2
  have c2 : bl ((y⁻¹).den : Int) ≤ 1201 := by
    rw [i2]; unfold bl at *; rw [Int.natAbs_natCast]; omega
  have := mul_bl (x := x) (y := y⁻¹) (B := 1201) (by omega) c1 a1 c2
  rw [← Rat.div_def] at this
  omega
theorem fv_num {y : Nat} (h : mv y ≠ 0) : (fv y).num ≠ 0 := by
  intro e
  have e2 : fv y = 0 := Rat.num_eq_zero.1 e
  unfold fv at e2
  have : (0 : Rat) = mkRat 0 UN := by simp
  rw [this, Rat.mkRat_eq_iff UN_ne UN_ne, Int.zero_mul] at e2
  rcases Int.mul_eq_zero.1 e2 with e3 | e3
  · exact h (mv_zero.2 e3)
  · have := UN_ne; omega
/-- a float that is one of those that an operation may answer -/
def OpRet (R : Nat → Prop) (w : World) (e : Ending) (w' : World) : Prop := ∃ r, e = .returned (.float .f64 r) ∧ R r ∧ Below w.heap.size w w'
theorem OpRet.mk {R : Nat → Prop} {w w' : World} {r : Nat} (h : R r) (hb : Below w.heap.size w w') : OpRet R w (.returned (.float .f64 r)) w' := ⟨r, rfl, h, hb⟩
theorem bdn {w W : World} (n : Nat) (h : Below w.heap.size w W) : Below w.heap.size w (W.drewN n) := below_drewN h n
set_option maxRecDepth 100000 in
set_option maxHeartbeats 8000000 in
theorem plus_fin (x y : Nat) (w : World) (hx : x < 2 ^ 64) (hy : y < 2 ^ 64) (fx : fin x) (fy : fin y) :
    Calls Tryz.prog 52 #[.float .f64 x, .float .f64 y] w (OpRet (FAdd x y) w) := by
  have FX := finite_any x hx
  have FY := finite_any y hy
  have GX := signbit_any x hx
  have GY := signbit_any y hy
  rw [decide_eq_true fx] at FX
  rw [decide_eq_true fy] at FY
  have RX := Lib.hid (rat_any x hx fx)
  have RY := Lib.hid (rat_any y hy fy)
  have DX := Lib.hid ((Dy.fv fx).mono (show 1080 ≤ 1200 by decide))
  have DY := Lib.hid ((Dy.fv fy).mono (show 1080 ≤ 1200 by decide))
  have BL := Lib.hid (add_bl DX.out DY.out)
  have HF := Lib.hid (fadd_of (fq_add fx fy))
  have FX := Lib.hid FX
  have FY := Lib.hid FY
  have GX := Lib.hid GX
  have GY := Lib.hid GY
  obtain ⟨s, hs⟩ : ∃ s, sg x = s := ⟨_, rfl⟩
  rw [hs] at HF GX
  clear hx hy fx fy hs
  go_enter Tryz.func52, Tryz.ntmps52
  go_wp2_with fail
  refine (FX.out w).mono ?_
  rintro e wa ⟨rfl, nwa, hwa⟩
  have Bwa : Hid (Below w.heap.size w wa) := Lib.hid (by rw [hwa]; exact bdn _ (Below.refl _ _))
  clear hwa
  go_wp2_with fail
  refine (FY.out wa).mono ?_
  rintro e wb ⟨rfl, nwb, hwb⟩
  have Bwb : Hid (Below w.heap.size w wb) := Lib.hid (by rw [hwb]; exact bdn _ Bwa.out)
  clear hwb
  go_wp2_with fail
  refine (RX.out (wb.alloc (.cells #[.bool false, .slice none 0 0, .bool false, .slice none 0 0] 92))).mono ?_
  rintro e wc ⟨bx, rfl, hra, hle, hb⟩
  have Z1 := Lib.hid ((znewr wb).below hb)
  have X1 := Lib.hid hra
  have BC := Lib.hid ((bal Bwb.out).trans (hb.mono (bal Bwb.out).size))
  have LB0 := Lib.hid Bwb.out.size
  clear hra hle hb
  go_wp2_with fail
  refine (RY.out wc).mono ?_
  rintro e wd ⟨bY, rfl, hra, hle, hb⟩
  have Z2 := Lib.hid (Z1.out.below hb)
  have X2 := Lib.hid (X1.out.below hb)
  have Y2 := Lib.hid hra
  have BD := Lib.hid (BC.out.trans (hb.mono BC.out.size))
  clear hra hle hb
  go_wp2_with fail
  with_reducible refine (radd_any wb.heap.size bx bY (fv x) (fv y) wd Z2.out X2.out Y2.out DX.out DY.out).mono ?_
  rintro e we ⟨rfl, hra, hr⟩
  have Q := Lib.hid hra
  have BE := Lib.hid (bwr BD.out hr LB0.out)
  clear hra hr
  go_wp2_with fail
  refine (GX.out we).mono ?_
  rintro e w' ⟨rfl, rfl⟩
  cases s
  · go_wp2_with fail
    with_reducible refine (signed_any wb.heap.size _ false we Q.out BL.out.1 BL.out.2).mono ?_
    rintro e wf ⟨rfl, hb⟩
    have BF := Lib.hid (BE.out.trans (hb.mono BE.out.size))
    clear hb
    go_wp2_with fail
    go_ret
    exact OpRet.mk HF.out BF.out
  · go_wp2_with fail
    refine (GY.out we).mono ?_
    rintro e w' ⟨rfl, rfl⟩
    go_wp2_with fail
    with_reducible refine (signed_any wb.heap.size _ (sg y) we Q.out BL.out.1 BL.out.2).mono ?_
    rintro e wf ⟨rfl, hb⟩
    have BF := Lib.hid (BE.out.trans (hb.mono BE.out.size))
    clear hb
    go_wp2_with fail
    go_ret
    exact OpRet.mk HF.out BF.out
set_option maxRecDepth 100000 in
set_option maxHeartbeats 8000000 in
theorem plus_nan_l (x y : Nat) (w : World) (hx : x < 2 ^ 64) (hy : y < 2 ^ 64) (nx : isNan x) :
    Calls Tryz.prog 52 #[.float .f64 x, .float .f64 y] w (OpRet (FAdd x y) w) := by
  have FX := finite_any x hx
  have FY := finite_any y hy
  have GX := signbit_any x hx
  have GY := signbit_any y hy
  have fx : ¬ fin x := by unfold fin; unfold isNan at nx; omega
  rw [decide_eq_false fx] at FX
  have ex := ne_self_true nx
  have FX := Lib.hid FX
  have FY := Lib.hid FY
  have GX := Lib.hid GX
  have GY := Lib.hid GY
  have HF : Hid (FAdd x y (9221120237041090561)) := Lib.hid (fadd_nan (add_nan x y (.inl nx)) nanQ)
  clear hx hy nx fx
  go_enter Tryz.func52, Tryz.ntmps52
  go_wp2_with (first | (go_at_call 80; (first | (refine (FX.out _).mono ?_; rintro e w' ⟨rfl, n, rfl⟩) | (refine (FY.out _).mono ?_; rintro e w' ⟨rfl, n, rfl⟩))) | (go_at_call 81; (first | (refine (GX.out _).mono ?_; rintro e w' ⟨rfl, rfl⟩) | (refine (GY.out _).mono ?_; rintro e w' ⟨rfl, rfl⟩))) | (go_at_call 82; refine (mnan_any _).mono ?_; rintro e w' ⟨rfl, rfl⟩) | (go_at_call 87; first | (refine (inf1_any _).mono ?_; rintro e w' ⟨rfl, rfl⟩) | (refine (infm_any _).mono ?_; rintro e w' ⟨rfl, rfl⟩)))
  go_ret
  exact OpRet.mk HF.out (by repeat (first | exact Below.refl _ _ | refine bdn _ ?_))
set_option maxRecDepth 100000 in
set_option maxHeartbeats 8000000 in
theorem plus_nan_r_fin (x y : Nat) (w : World) (hx : x < 2 ^ 64) (hy : y < 2 ^ 64) (fx : fin x) (ny : isNan y) :
    Calls Tryz.prog 52 #[.float .f64 x, .float .f64 y] w (OpRet (FAdd x y) w) := by
  have FX := finite_any x hx
  have FY := finite_any y hy
  have GX := signbit_any x hx
  have GY := signbit_any y hy
  have nx : ¬ isNan x := by unfold isNan; unfold fin at fx; omega
  rw [decide_eq_true fx] at FX
  have ex := ne_self_false nx
  have fy : ¬ fin y := by unfold fin; unfold isNan at ny; omega
  rw [decide_eq_false fy] at FY
  have ey := ne_self_true ny
  have FX := Lib.hid FX
  have FY := Lib.hid FY
  have GX := Lib.hid GX
  have GY := Lib.hid GY
  have HF : Hid (FAdd x y (9221120237041090561)) := Lib.hid (fadd_nan (add_nan x y (.inr ny)) nanQ)
  clear hx hy nx ny fx fy
  go_enter Tryz.func52, Tryz.ntmps52
  go_wp2_with (first | (go_at_call 80; (first | (refine (FX.out _).mono ?_; rintro e w' ⟨rfl, n, rfl⟩) | (refine (FY.out _).mono ?_; rintro e w' ⟨rfl, n, rfl⟩))) | (go_at_call 81; (first | (refine (GX.out _).mono ?_; rintro e w' ⟨rfl, rfl⟩) | (refine (GY.out _).mono ?_; rintro e w' ⟨rfl, rfl⟩))) | (go_at_call 82; refine (mnan_any _).mono ?_; rintro e w' ⟨rfl, rfl⟩) | (go_at_call 87; first | (refine (inf1_any _).mono ?_; rintro e w' ⟨rfl, rfl⟩) | (refine (infm_any _).mono ?_; rintro e w' ⟨rfl, rfl⟩)))
  go_ret
  exact OpRet.mk HF.out (by repeat (first | exact Below.refl _ _ | refine bdn _ ?_))
set_option maxRecDepth 100000 in
set_option maxHeartbeats 8000000 in
theorem plus_nan_r_inf (x y : Nat) (w : World) (hx : x < 2 ^ 64) (hy : y < 2 ^ 64) (ix : rg x = INF) (ny : isNan y) :
    Calls Tryz.prog 52 #[.float .f64 x, .float .f64 y] w (OpRet (FAdd x y) w) := by
  have FX := finite_any x hx
  have FY := finite_any y hy
  have GX := signbit_any x hx
  have GY := signbit_any y hy
  have fx : ¬ fin x := by unfold fin; omega
  have nx : ¬ isNan x := by unfold isNan; omega
  rw [decide_eq_false fx] at FX
  have ex := ne_self_false nx
  have fy : ¬ fin y := by unfold fin; unfold isNan at ny; omega
  rw [decide_eq_false fy] at FY
  have ey := ne_self_true ny
  have FX := Lib.hid FX
  have FY := Lib.hid FY
  have GX := Lib.hid GX
  have GY := Lib.hid GY
  have HF : Hid (FAdd x y (9221120237041090561)) := Lib.hid (fadd_nan (add_nan x y (.inr ny)) nanQ)
  clear hx hy nx ny fx fy ix
  go_enter Tryz.func52, Tryz.ntmps52
  go_wp2_with (first | (go_at_call 80; (first | (refine (FX.out _).mono ?_; rintro e w' ⟨rfl, n, rfl⟩) | (refine (FY.out _).mono ?_; rintro e w' ⟨rfl, n, rfl⟩))) | (go_at_call 81; (first | (refine (GX.out _).mono ?_; rintro e w' ⟨rfl, rfl⟩) | (refine (GY.out _).mono ?_; rintro e w' ⟨rfl, rfl⟩))) | (go_at_call 82; refine (mnan_any _).mono ?_; rintro e w' ⟨rfl, rfl⟩) | (go_at_call 87; first | (refine (inf1_any _).mono ?_; rintro e w' ⟨rfl, rfl⟩) | (refine (infm_any _).mono ?_; rintro e w' ⟨rfl, rfl⟩)))
  go_ret
  exact OpRet.mk HF.out (by repeat (first | exact Below.refl _ _ | refine bdn _ ?_))
set_option maxRecDepth 100000 in
set_option maxHeartbeats 8000000 in
theorem plus_inf_true_true (x y : Nat) (w : World) (hx : x < 2 ^ 64) (hy : y < 2 ^ 64) (ix : rg x = INF) (iy : rg y = INF) (sx : sg x = true) (sy : sg y = true) :
    Calls Tryz.prog 52 #[.float .f64 x, .float .f64 y] w (OpRet (FAdd x y) w) := by
  have FX := finite_any x hx
  have FY := finite_any y hy
  have GX := signbit_any x hx
  have GY := signbit_any y hy
  have fx : ¬ fin x := by unfold fin; omega
  have nx : ¬ isNan x := by unfold isNan; omega
  rw [decide_eq_false fx] at FX
  have ex := ne_self_false nx
  have fy : ¬ fin y := by unfold fin; omega
  have ny : ¬ isNan y := by unfold isNan; omega
  rw [decide_eq_false fy] at FY
  have ey := ne_self_false ny
  rw [sx] at GX
  rw [sy] at GY
  have FX := Lib.hid FX
  have FY := Lib.hid FY
  have GX := Lib.hid GX
  have GY := Lib.hid GY
  have HF : Hid (FAdd x y (x)) := Lib.hid (fadd_of (by rw [add_inf_inf ix iy, sx, sy, if_pos rfl, ← sx, inf_word hx ix]))
  clear hx hy nx ny fx fy ix iy sx sy
  go_enter Tryz.func52, Tryz.ntmps52
  go_wp2_with (first | (go_at_call 80; (first | (refine (FX.out _).mono ?_; rintro e w' ⟨rfl, n, rfl⟩) | (refine (FY.out _).mono ?_; rintro e w' ⟨rfl, n, rfl⟩))) | (go_at_call 81; (first | (refine (GX.out _).mono ?_; rintro e w' ⟨rfl, rfl⟩) | (refine (GY.out _).mono ?_; rintro e w' ⟨rfl, rfl⟩))) | (go_at_call 82; refine (mnan_any _).mono ?_; rintro e w' ⟨rfl, rfl⟩) | (go_at_call 87; first | (refine (inf1_any _).mono ?_; rintro e w' ⟨rfl, rfl⟩) | (refine (infm_any _).mono ?_; rintro e w' ⟨rfl, rfl⟩)))
  go_ret
  exact OpRet.mk HF.out (by repeat (first | exact Below.refl _ _ | refine bdn _ ?_))
set_option maxRecDepth 100000 in
set_option maxHeartbeats 8000000 in
theorem plus_inf_true_false (x y : Nat) (w : World) (hx : x < 2 ^ 64) (hy : y < 2 ^ 64) (ix : rg x = INF) (iy : rg y = INF) (sx : sg x = true) (sy : sg y = false) :
    Calls Tryz.prog 52 #[.float .f64 x, .float .f64 y] w (OpRet (FAdd x y) w) := by
  have FX := finite_any x hx
  have FY := finite_any y hy
  have GX := signbit_any x hx
  have GY := signbit_any y hy
  have fx : ¬ fin x := by unfold fin; omega
  have nx : ¬ isNan x := by unfold isNan; omega
  rw [decide_eq_false fx] at FX
  have ex := ne_self_false nx
  have fy : ¬ fin y := by unfold fin; omega
  have ny : ¬ isNan y := by unfold isNan; omega
  rw [decide_eq_false fy] at FY
  have ey := ne_self_false ny
  rw [sx] at GX
  rw [sy] at GY
  have FX := Lib.hid FX
  have FY := Lib.hid FY
  have GX := Lib.hid GX
  have GY := Lib.hid GY
  have HF : Hid (FAdd x y (9221120237041090561)) := Lib.hid (fadd_nan (by rw [add_inf_inf ix iy, sx, sy]; rfl) nanQ)
  clear hx hy nx ny fx fy ix iy sx sy
  go_enter Tryz.func52, Tryz.ntmps52
  go_wp2_with (first | (go_at_call 80; (first | (refine (FX.out _).mono ?_; rintro e w' ⟨rfl, n, rfl⟩) | (refine (FY.out _).mono ?_; rintro e w' ⟨rfl, n, rfl⟩))) | (go_at_call 81; (first | (refine (GX.out _).mono ?_; rintro e w' ⟨rfl, rfl⟩) | (refine (GY.out _).mono ?_; rintro e w' ⟨rfl, rfl⟩))) | (go_at_call 82; refine (mnan_any _).mono ?_; rintro e w' ⟨rfl, rfl⟩) | (go_at_call 87; first | (refine (inf1_any _).mono ?_; rintro e w' ⟨rfl, rfl⟩) | (refine (infm_any _).mono ?_; rintro e w' ⟨rfl, rfl⟩)))
  go_ret
  exact OpRet.mk HF.out (by repeat (first | exact Below.refl _ _ | refine bdn _ ?_))
set_option maxRecDepth 100000 in
set_option maxHeartbeats 8000000 in
theorem plus_inf_false_true (x y : Nat) (w : World) (hx : x < 2 ^ 64) (hy : y < 2 ^ 64) (ix : rg x = INF) (iy : rg y = INF) (sx : sg x = false) (sy : sg y = true) :
    Calls Tryz.prog 52 #[.float .f64 x, .float .f64 y] w (OpRet (FAdd x y) w) := by
  have FX := finite_any x hx
  have FY := finite_any y hy
  have GX := signbit_any x hx
  have GY := signbit_any y hy
  have fx : ¬ fin x := by unfold fin; omega
  have nx : ¬ isNan x := by unfold isNan; omega
  rw [decide_eq_false fx] at FX
  have ex := ne_self_false nx
  have fy : ¬ fin y := by unfold fin; omega
  have ny : ¬ isNan y := by unfold isNan; omega
  rw [decide_eq_false fy] at FY
  have ey := ne_self_false ny
  rw [sx] at GX
  rw [sy] at GY
  have FX := Lib.hid FX
  have FY := Lib.hid FY
  have GX := Lib.hid GX
  have GY := Lib.hid GY
  have HF : Hid (FAdd x y (9221120237041090561)) := Lib.hid (fadd_nan (by rw [add_inf_inf ix iy, sx, sy]; rfl) nanQ)
  clear hx hy nx ny fx fy ix iy sx sy
  go_enter Tryz.func52, Tryz.ntmps52
  go_wp2_with (first | (go_at_call 80; (first | (refine (FX.out _).mono ?_; rintro e w' ⟨rfl, n, rfl⟩) | (refine (FY.out _).mono ?_; rintro e w' ⟨rfl, n, rfl⟩))) | (go_at_call 81; (first | (refine (GX.out _).mono ?_; rintro e w' ⟨rfl, rfl⟩) | (refine (GY.out _).mono ?_; rintro e w' ⟨rfl, rfl⟩))) | (go_at_call 82; refine (mnan_any _).mono ?_; rintro e w' ⟨rfl, rfl⟩) | (go_at_call 87; first | (refine (inf1_any _).mono ?_; rintro e w' ⟨rfl, rfl⟩) | (refine (infm_any _).mono ?_; rintro e w' ⟨rfl, rfl⟩)))
  go_ret
  exact OpRet.mk HF.out (by repeat (first | exact Below.refl _ _ | refine bdn _ ?_))
set_option maxRecDepth 100000 in
set_option maxHeartbeats 8000000 in
theorem plus_inf_false_false (x y : Nat) (w : World) (hx : x < 2 ^ 64) (hy : y < 2 ^ 64) (ix : rg x = INF) (iy : rg y = INF) (sx : sg x = false) (sy : sg y = false) :
    Calls Tryz.prog 52 #[.float .f64 x, .float .f64 y] w (OpRet (FAdd x y) w) := by
  have FX := finite_any x hx
  have FY := finite_any y hy
  have GX := signbit_any x hx
  have GY := signbit_any y hy
  have fx : ¬ fin x := by unfold fin; omega
  have nx : ¬ isNan x := by unfold isNan; omega
  rw [decide_eq_false fx] at FX
  have ex := ne_self_false nx
  have fy : ¬ fin y := by unfold fin; omega
  have ny : ¬ isNan y := by unfold isNan; omega
  rw [decide_eq_false fy] at FY
  have ey := ne_self_false ny
  rw [sx] at GX
  rw [sy] at GY
  have FX := Lib.hid FX
  have FY := Lib.hid FY
  have GX := Lib.hid GX
  have GY := Lib.hid GY
  have HF : Hid (FAdd x y (x)) := Lib.hid (fadd_of (by rw [add_inf_inf ix iy, sx, sy, if_pos rfl, ← sx, inf_word hx ix]))
  clear hx hy nx ny fx fy ix iy sx sy
  go_enter Tryz.func52, Tryz.ntmps52
  go_wp2_with (first | (go_at_call 80; (first | (refine (FX.out _).mono ?_; rintro e w' ⟨rfl, n, rfl⟩) | (refine (FY.out _).mono ?_; rintro e w' ⟨rfl, n, rfl⟩))) | (go_at_call 81; (first | (refine (GX.out _).mono ?_; rintro e w' ⟨rfl, rfl⟩) | (refine (GY.out _).mono ?_; rintro e w' ⟨rfl, rfl⟩))) | (go_at_call 82; refine (mnan_any _).mono ?_; rintro e w' ⟨rfl, rfl⟩) | (go_at_call 87; first | (refine (inf1_any _).mono ?_; rintro e w' ⟨rfl, rfl⟩) | (refine (infm_any _).mono ?_; rintro e w' ⟨rfl, rfl⟩)))
  go_ret
  exact OpRet.mk HF.out (by repeat (first | exact Below.refl _ _ | refine bdn _ ?_))
set_option maxRecDepth 100000 in
set_option maxHeartbeats 8000000 in
theorem plus_inf_fin (x y : Nat) (w : World) (hx : x < 2 ^ 64) (hy : y < 2 ^ 64) (ix : rg x = INF) (fy : fin y) :
    Calls Tryz.prog 52 #[.float .f64 x, .float .f64 y] w (OpRet (FAdd x y) w) := by
  have FX := finite_any x hx
  have FY := finite_any y hy
  have GX := signbit_any x hx
  have GY := signbit_any y hy
  have fx : ¬ fin x := by unfold fin; omega
  have nx : ¬ isNan x := by unfold isNan; omega
  rw [decide_eq_false fx] at FX
  have ex := ne_self_false nx
  have ny : ¬ isNan y := by unfold isNan; unfold fin at fy; omega
  rw [decide_eq_true fy] at FY
  have ey := ne_self_false ny
  have FX := Lib.hid FX
  have FY := Lib.hid FY
  have GX := Lib.hid GX
  have GY := Lib.hid GY
  have HF : Hid (FAdd x y (x)) := Lib.hid (fadd_of (by rw [add_inf_l ix fy, inf_word hx ix]))
  clear hx hy nx ny fx fy ix
  go_enter Tryz.func52, Tryz.ntmps52
  go_wp2_with (first | (go_at_call 80; (first | (refine (FX.out _).mono ?_; rintro e w' ⟨rfl, n, rfl⟩) | (refine (FY.out _).mono ?_; rintro e w' ⟨rfl, n, rfl⟩))) | (go_at_call 81; (first | (refine (GX.out _).mono ?_; rintro e w' ⟨rfl, rfl⟩) | (refine (GY.out _).mono ?_; rintro e w' ⟨rfl, rfl⟩))) | (go_at_call 82; refine (mnan_any _).mono ?_; rintro e w' ⟨rfl, rfl⟩) | (go_at_call 87; first | (refine (inf1_any _).mono ?_; rintro e w' ⟨rfl, rfl⟩) | (refine (infm_any _).mono ?_; rintro e w' ⟨rfl, rfl⟩)))
  go_ret
  exact OpRet.mk HF.out (by repeat (first | exact Below.refl _ _ | refine bdn _ ?_))
set_option maxRecDepth 100000 in
set_option maxHeartbeats 8000000 in
theorem plus_fin_inf (x y : Nat) (w : World) (hx : x < 2 ^ 64) (hy : y < 2 ^ 64) (fx : fin x) (iy : rg y = INF) :
    Calls Tryz.prog 52 #[.float .f64 x, .float .f64 y] w (OpRet (FAdd x y) w) := by
  have FX := finite_any x hx
  have FY := finite_any y hy
  have GX := signbit_any x hx
  have GY := signbit_any y hy
  have nx : ¬ isNan x := by unfold isNan; unfold fin at fx; omega
  rw [decide_eq_true fx] at FX
  have ex := ne_self_false nx
  have fy : ¬ fin y := by unfold fin; omega
  have ny : ¬ isNan y := by unfold isNan; omega
  rw [decide_eq_false fy] at FY
  have ey := ne_self_false ny
  have FX := Lib.hid FX
  have FY := Lib.hid FY
  have GX := Lib.hid GX
  have GY := Lib.hid GY
  have HF : Hid (FAdd x y (y)) := Lib.hid (fadd_of (by rw [add_comm, add_inf_l iy fx, inf_word hy iy]))
  clear hx hy nx ny fx fy iy
  go_enter Tryz.func52, Tryz.ntmps52
  go_wp2_with (first | (go_at_call 80; (first | (refine (FX.out _).mono ?_; rintro e w' ⟨rfl, n, rfl⟩) | (refine (FY.out _).mono ?_; rintro e w' ⟨rfl, n, rfl⟩))) | (go_at_call 81; (first | (refine (GX.out _).mono ?_; rintro e w' ⟨rfl, rfl⟩) | (refine (GY.out _).mono ?_; rintro e w' ⟨rfl, rfl⟩))) | (go_at_call 82; refine (mnan_any _).mono ?_; rintro e w' ⟨rfl, rfl⟩) | (go_at_call 87; first | (refine (inf1_any _).mono ?_; rintro e w' ⟨rfl, rfl⟩) | (refine (infm_any _).mono ?_; rintro e w' ⟨rfl, rfl⟩)))
  go_ret
  exact OpRet.mk HF.out (by repeat (first | exact Below.refl _ _ | refine bdn _ ?_))
/-- surdref5.plus -/
theorem plus_any (x y : Nat) (w : World) (hx : x < 2 ^ 64) (hy : y < 2 ^ 64) :
    Calls Tryz.prog 52 #[.float .f64 x, .float .f64 y] w (OpRet (FAdd x y) w) := by
  rcases cases3 x with cx | cx | cx
  · rcases cases3 y with cy | cy | cy
    · exact plus_fin x y w hx hy cx cy
    · exact plus_fin_inf x y w hx hy cx cy
    · exact plus_nan_r_fin x y w hx hy cx cy
  · rcases cases3 y with cy | cy | cy
    · exact plus_inf_fin x y w hx hy cx cy
    · cases sx : sg x <;> cases sy : sg y
      · exact plus_inf_false_false x y w hx hy cx cy sx sy
      · exact plus_inf_false_true x y w hx hy cx cy sx sy
      · exact plus_inf_true_false x y w hx hy cx cy sx sy
      · exact plus_inf_true_true x y w hx hy cx cy sx sy
    · exact plus_nan_r_inf x y w hx hy cx cy
  · exact plus_nan_l x y w hx hy cx
/-- surdref5.less -/
theorem rless_any (x y : Nat) (w : World) (hx : x < 2 ^ 64) (hy : y < 2 ^ 64) :
    Calls Tryz.prog 53 #[.float .f64 x, .float .f64 y] w (OpRet (FSub x y) w) := by
  have H := Lib.hid (plus_any x (neg y) w hx (neg_lt y hy))
  have U := unary_neg y hy
  have HY := Lib.hid hy
  clear hx hy
  go_enter Tryz.func53, Tryz.ntmps53
  go_wp2_with fail
  refine H.out.mono ?_
  intro e w1 h1
  rcases h1 with ⟨r, rfl, hr, hb⟩
  have HR := Lib.hid (sub_of_add HY.out hr)
  have HB := Lib.hid hb
  clear hr hb
  go_wp2_with fail
  go_ret
  exact OpRet.mk HR.out HB.out
end Go.Proofs.YtokmommlabdcdaaGreat
set_option linter.unusedVariables false
set_option linter.unusedSimpArgs false
namespace Go.Proofs.YtokmommlabdcdaaGreat
open Wd Fl Go.RowKit
set_option maxRecDepth 100000 in
set_option maxHeartbeats 8000000 in
theorem times_fin (x y : Nat) (w : World) (hx : x < 2 ^ 64) (hy : y < 2 ^ 64) (fx : fin x) (fy : fin y) :
    Calls Tryz.prog 54 #[.float .f64 x, .float .f64 y] w (OpRet (FMul x y) w) := by
  have FX := finite_any x hx
  have FY := finite_any y hy
  have GX := signbit_any x hx
  have GY := signbit_any y hy
  rw [decide_eq_true fx] at FX
  rw [decide_eq_true fy] at FY
  have RX := Lib.hid (rat_any x hx fx)
  have RY := Lib.hid (rat_any y hy fy)
  have DX := Lib.hid ((Dy.fv fx).mono (show 1080 ≤ 1200 by decide))
  have DY := Lib.hid ((Dy.fv fy).mono (show 1080 ≤ 1200 by decide))
  have BL := Lib.hid (mul_bl' DX.out DY.out)
  have HF := Lib.hid (fmul_of (fq_mul fx fy))
  have FX := Lib.hid FX
  have FY := Lib.hid FY
  have GX := Lib.hid GX
  have GY := Lib.hid GY
  obtain ⟨s, hs⟩ : ∃ s, sg x = s := ⟨_, rfl⟩
  obtain ⟨s2, hs2⟩ : ∃ s, sg y = s := ⟨_, rfl⟩
  rw [hs, hs2] at HF
  rw [hs] at GX
  rw [hs2] at GY
  have hxor : (!(s == s2)) = (s ^^ s2) := by cases s <;> cases s2 <;> rfl
  rw [← hxor] at HF
  clear hx hy fx fy hs hs2 hxor
  go_enter Tryz.func54, Tryz.ntmps54
  go_wp2_with fail
  refine (GX.out w).mono ?_
  rintro e w' ⟨rfl, rfl⟩
  go_wp2_with fail
  refine (GY.out w).mono ?_
  rintro e w' ⟨rfl, rfl⟩
  go_wp2_with fail
  refine (FX.out w).mono ?_
  rintro e wa ⟨rfl, nwa, hwa⟩
  have Bwa : Hid (Below w.heap.size w wa) := Lib.hid (by rw [hwa]; exact bdn _ (Below.refl _ _))
  clear hwa
  go_wp2_with fail
  refine (FY.out wa).mono ?_
  rintro e wb ⟨rfl, nwb, hwb⟩
  have Bwb : Hid (Below w.heap.size w wb) := Lib.hid (by rw [hwb]; exact bdn _ Bwa.out)
  clear hwb
  go_wp2_with fail
  refine (RX.out (wb.alloc (.cells #[.bool false, .slice none 0 0, .bool false, .slice none 0 0] 92))).mono ?_
  rintro e wc ⟨bx, rfl, hra, hle, hb⟩
  have Z1 := Lib.hid ((znewr wb).below hb)
  have X1 := Lib.hid hra
  have BC := Lib.hid ((bal Bwb.out).trans (hb.mono (bal Bwb.out).size))
  have LB0 := Lib.hid Bwb.out.size
  clear hra hle hb
  go_wp2_with fail
  refine (RY.out wc).mono ?_
  rintro e wd ⟨bY, rfl, hra, hle, hb⟩
  have Z2 := Lib.hid (Z1.out.below hb)
  have X2 := Lib.hid (X1.out.below hb)
  have Y2 := Lib.hid hra
  have BD := Lib.hid (BC.out.trans (hb.mono BC.out.size))
  clear hra hle hb
  go_wp2_with fail
  with_reducible refine (rmul_any wb.heap.size bx bY (fv x) (fv y) wd Z2.out X2.out Y2.out DX.out DY.out).mono ?_
  rintro e we ⟨rfl, hra, hr⟩
  have Q := Lib.hid hra
  have BE := Lib.hid (bwr BD.out hr LB0.out)
  clear hra hr
  go_wp2_with fail
  with_reducible refine (signed_any wb.heap.size _ (!(s == s2)) we Q.out BL.out.1 BL.out.2).mono ?_
  rintro e wf ⟨rfl, hb⟩
  have BF := Lib.hid (BE.out.trans (hb.mono BE.out.size))
  clear hb
  go_wp2_with fail
  go_ret
  exact OpRet.mk HF.out BF.out
set_option maxRecDepth 100000 in
set_option maxHeartbeats 8000000 in
theorem times_nan_l (x y : Nat) (w : World) (hx : x < 2 ^ 64) (hy : y < 2 ^ 64) (nx : isNan x) :
    Calls Tryz.prog 54 #[.float .f64 x, .float .f64 y] w (OpRet (FMul x y) w) := by
  have FX := finite_any x hx
  have FY := finite_any y hy
  have GX := signbit_any x hx
  have GY := signbit_any y hy
  have fx : ¬ fin x := by unfold fin; unfold isNan at nx; omega
  rw [decide_eq_false fx] at FX
  have ex := ne_self_true nx
  have FX := Lib.hid FX
  have FY := Lib.hid FY
  have GX := Lib.hid GX
  have GY := Lib.hid GY
  have HF : Hid (FMul x y (9221120237041090561)) := Lib.hid (fmul_nan (mul_nan x y (.inl nx)) nanQ)
  clear hx hy nx fx
  go_enter Tryz.func54, Tryz.ntmps54
  go_wp2_with (first | (go_at_call 80; (first | (refine (FX.out _).mono ?_; rintro e w' ⟨rfl, n, rfl⟩) | (refine (FY.out _).mono ?_; rintro e w' ⟨rfl, n, rfl⟩))) | (go_at_call 81; (first | (refine (GX.out _).mono ?_; rintro e w' ⟨rfl, rfl⟩) | (refine (GY.out _).mono ?_; rintro e w' ⟨rfl, rfl⟩))) | (go_at_call 82; refine (mnan_any _).mono ?_; rintro e w' ⟨rfl, rfl⟩) | (go_at_call 87; first | (refine (inf1_any _).mono ?_; rintro e w' ⟨rfl, rfl⟩) | (refine (infm_any _).mono ?_; rintro e w' ⟨rfl, rfl⟩)))
  go_ret
  exact OpRet.mk HF.out (by repeat (first | exact Below.refl _ _ | refine bdn _ ?_))
set_option maxRecDepth 100000 in
set_option maxHeartbeats 8000000 in
theorem times_nan_r_fin (x y : Nat) (w : World) (hx : x < 2 ^ 64) (hy : y < 2 ^ 64) (fx : fin x) (ny : isNan y) :
    Calls Tryz.prog 54 #[.float .f64 x, .float .f64 y] w (OpRet (FMul x y) w) := by
  have FX := finite_any x hx
  have FY := finite_any y hy
  have GX := signbit_any x hx
  have GY := signbit_any y hy
  have nx : ¬ isNan x := by unfold isNan; unfold fin at fx; omega
  rw [decide_eq_true fx] at FX
  have ex := ne_self_false nx
  have fy : ¬ fin y := by unfold fin; unfold isNan at ny; omega
  rw [decide_eq_false fy] at FY
  have ey := ne_self_true ny
  have FX := Lib.hid FX
  have FY := Lib.hid FY
  have GX := Lib.hid GX
  have GY := Lib.hid GY
  have HF : Hid (FMul x y (9221120237041090561)) := Lib.hid (fmul_nan (mul_nan x y (.inr ny)) nanQ)
  clear hx hy nx ny fx fy
  go_enter Tryz.func54, Tryz.ntmps54
  go_wp2_with (first | (go_at_call 80; (first | (refine (FX.out _).mono ?_; rintro e w' ⟨rfl, n, rfl⟩) | (refine (FY.out _).mono ?_; rintro e w' ⟨rfl, n, rfl⟩))) | (go_at_call 81; (first | (refine (GX.out _).mono ?_; rintro e w' ⟨rfl, rfl⟩) | (refine (GY.out _).mono ?_; rintro e w' ⟨rfl, rfl⟩))) | (go_at_call 82; refine (mnan_any _).mono ?_; rintro e w' ⟨rfl, rfl⟩) | (go_at_call 87; first | (refine (inf1_any _).mono ?_; rintro e w' ⟨rfl, rfl⟩) | (refine (infm_any _).mono ?_; rintro e w' ⟨rfl, rfl⟩)))
  go_ret
  exact OpRet.mk HF.out (by repeat (first | exact Below.refl _ _ | refine bdn _ ?_))
set_option maxRecDepth 100000 in
set_option maxHeartbeats 8000000 in
theorem times_nan_r_inf (x y : Nat) (w : World) (hx : x < 2 ^ 64) (hy : y < 2 ^ 64) (ix : rg x = INF) (ny : isNan y) :
    Calls Tryz.prog 54 #[.float .f64 x, .float .f64 y] w (OpRet (FMul x y) w) := by
  have FX := finite_any x hx
  have FY := finite_any y hy
  have GX := signbit_any x hx
  have GY := signbit_any y hy
  have fx : ¬ fin x := by unfold fin; omega
  have nx : ¬ isNan x := by unfold isNan; omega
  rw [decide_eq_false fx] at FX
  have ex := ne_self_false nx
  have fy : ¬ fin y := by unfold fin; unfold isNan at ny; omega
  rw [decide_eq_false fy] at FY
  have ey := ne_self_true ny
  have FX := Lib.hid FX
  have FY := Lib.hid FY
  have GX := Lib.hid GX
  have GY := Lib.hid GY
  have HF : Hid (FMul x y (9221120237041090561)) := Lib.hid (fmul_nan (mul_nan x y (.inr ny)) nanQ)
  clear hx hy nx ny fx fy ix
  go_enter Tryz.func54, Tryz.ntmps54
  go_wp2_with (first | (go_at_call 80; (first | (refine (FX.out _).mono ?_; rintro e w' ⟨rfl, n, rfl⟩) | (refine (FY.out _).mono ?_; rintro e w' ⟨rfl, n, rfl⟩))) | (go_at_call 81; (first | (refine (GX.out _).mono ?_; rintro e w' ⟨rfl, rfl⟩) | (refine (GY.out _).mono ?_; rintro e w' ⟨rfl, rfl⟩))) | (go_at_call 82; refine (mnan_any _).mono ?_; rintro e w' ⟨rfl, rfl⟩) | (go_at_call 87; first | (refine (inf1_any _).mono ?_; rintro e w' ⟨rfl, rfl⟩) | (refine (infm_any _).mono ?_; rintro e w' ⟨rfl, rfl⟩)))
  go_ret
  exact OpRet.mk HF.out (by repeat (first | exact Below.refl _ _ | refine bdn _ ?_))
set_option maxRecDepth 100000 in
set_option maxHeartbeats 8000000 in
theorem times_inf_inf_true_true (x y : Nat) (w : World) (hx : x < 2 ^ 64) (hy : y < 2 ^ 64) (ix : rg x = INF) (iy : rg y = INF) (sx : sg x = true) (sy : sg y = true) :
    Calls Tryz.prog 54 #[.float .f64 x, .float .f64 y] w (OpRet (FMul x y) w) := by
  have FX := finite_any x hx
  have FY := finite_any y hy
  have GX := signbit_any x hx
  have GY := signbit_any y hy
  have fx : ¬ fin x := by unfold fin; omega
  have nx : ¬ isNan x := by unfold isNan; omega
  rw [decide_eq_false fx] at FX
  have ex := ne_self_false nx
  have fy : ¬ fin y := by unfold fin; omega
  have ny : ¬ isNan y := by unfold isNan; omega
  rw [decide_eq_false fy] at FY
  have ey := ne_self_false ny
  rw [sx] at GX
  rw [sy] at GY
  have ox := order_zeroB x
  have oy := order_zeroB y
  have zx : zeroB x = false := decide_eq_false (by rw [ix]; decide)
  rw [zx] at ox
  have zy : zeroB y = false := decide_eq_false (by rw [iy]; decide)
  rw [zy] at oy
  have FX := Lib.hid FX
  have FY := Lib.hid FY
  have GX := Lib.hid GX
  have GY := Lib.hid GY
  have HF : Hid (FMul x y (9218868437227405312)) := Lib.hid (fmul_of (by rw [mul_inf_inf ix iy, sx, sy]; decide))
  clear hx hy nx ny fx fy ix iy sx sy zx zy
  go_enter Tryz.func54, Tryz.ntmps54
  go_wp2_with (first | (go_at_call 80; (first | (refine (FX.out _).mono ?_; rintro e w' ⟨rfl, n, rfl⟩) | (refine (FY.out _).mono ?_; rintro e w' ⟨rfl, n, rfl⟩))) | (go_at_call 81; (first | (refine (GX.out _).mono ?_; rintro e w' ⟨rfl, rfl⟩) | (refine (GY.out _).mono ?_; rintro e w' ⟨rfl, rfl⟩))) | (go_at_call 82; refine (mnan_any _).mono ?_; rintro e w' ⟨rfl, rfl⟩) | (go_at_call 87; first | (refine (inf1_any _).mono ?_; rintro e w' ⟨rfl, rfl⟩) | (refine (infm_any _).mono ?_; rintro e w' ⟨rfl, rfl⟩)))
  go_ret
  exact OpRet.mk HF.out (by repeat (first | exact Below.refl _ _ | refine bdn _ ?_))
set_option maxRecDepth 100000 in
set_option maxHeartbeats 8000000 in
theorem times_inf_fin_true_true (x y : Nat) (w : World) (hx : x < 2 ^ 64) (hy : y < 2 ^ 64) (ix : rg x = INF) (fy : fin y) (my : mv y ≠ 0) (sx : sg x = true) (sy : sg y = true) :
    Calls Tryz.prog 54 #[.float .f64 x, .float .f64 y] w (OpRet (FMul x y) w) := by
  have FX := finite_any x hx
  have FY := finite_any y hy
  have GX := signbit_any x hx
  have GY := signbit_any y hy
  have fx : ¬ fin x := by unfold fin; omega
  have nx : ¬ isNan x := by unfold isNan; omega
  rw [decide_eq_false fx] at FX
  have ex := ne_self_false nx
  have ny : ¬ isNan y := by unfold isNan; unfold fin at fy; omega
  rw [decide_eq_true fy] at FY
  have ey := ne_self_false ny
  rw [sx] at GX
  rw [sy] at GY
  have ox := order_zeroB x
  have oy := order_zeroB y
  have zx : zeroB x = false := decide_eq_false (by rw [ix]; decide)
  rw [zx] at ox
  have zy : zeroB y = false := decide_eq_false (fun h => my (mv_rg.2 h))
  rw [zy] at oy
  have FX := Lib.hid FX
  have FY := Lib.hid FY
  have GX := Lib.hid GX
  have GY := Lib.hid GY
  have HF : Hid (FMul x y (9218868437227405312)) := Lib.hid (fmul_of (by rw [mul_inf_l ix fy, if_neg my, sx, sy]; decide))
  clear hx hy nx ny fx fy ix my sx sy zx zy
  go_enter Tryz.func54, Tryz.ntmps54
  go_wp2_with (first | (go_at_call 80; (first | (refine (FX.out _).mono ?_; rintro e w' ⟨rfl, n, rfl⟩) | (refine (FY.out _).mono ?_; rintro e w' ⟨rfl, n, rfl⟩))) | (go_at_call 81; (first | (refine (GX.out _).mono ?_; rintro e w' ⟨rfl, rfl⟩) | (refine (GY.out _).mono ?_; rintro e w' ⟨rfl, rfl⟩))) | (go_at_call 82; refine (mnan_any _).mono ?_; rintro e w' ⟨rfl, rfl⟩) | (go_at_call 87; first | (refine (inf1_any _).mono ?_; rintro e w' ⟨rfl, rfl⟩) | (refine (infm_any _).mono ?_; rintro e w' ⟨rfl, rfl⟩)))
  go_ret
  exact OpRet.mk HF.out (by repeat (first | exact Below.refl _ _ | refine bdn _ ?_))
set_option maxRecDepth 100000 in
set_option maxHeartbeats 8000000 in
theorem times_fin_inf_true_true (x y : Nat) (w : World) (hx : x < 2 ^ 64) (hy : y < 2 ^ 64) (fx : fin x) (mx : mv x ≠ 0) (iy : rg y = INF) (sx : sg x = true) (sy : sg y = true) :
    Calls Tryz.prog 54 #[.float .f64 x, .float .f64 y] w (OpRet (FMul x y) w) := by
  have FX := finite_any x hx
  have FY := finite_any y hy
  have GX := signbit_any x hx
  have GY := signbit_any y hy
  have nx : ¬ isNan x := by unfold isNan; unfold fin at fx; omega
  rw [decide_eq_true fx] at FX
  have ex := ne_self_false nx
  have fy : ¬ fin y := by unfold fin; omega
  have ny : ¬ isNan y := by unfold isNan; omega
  rw [decide_eq_false fy] at FY
  have ey := ne_self_false ny
  rw [sx] at GX
  rw [sy] at GY
  have ox := order_zeroB x
  have oy := order_zeroB y
  have zx : zeroB x = false := decide_eq_false (fun h => mx (mv_rg.2 h))
  rw [zx] at ox
  have zy : zeroB y = false := decide_eq_false (by rw [iy]; decide)
  rw [zy] at oy
  have FX := Lib.hid FX
  have FY := Lib.hid FY
  have GX := Lib.hid GX
  have GY := Lib.hid GY
  have HF : Hid (FMul x y (9218868437227405312)) := Lib.hid (fmul_of (by rw [mul_comm, mul_inf_l iy fx, if_neg mx, sx, sy]; decide))
  clear hx hy nx ny fx fy iy mx sx sy zx zy
  go_enter Tryz.func54, Tryz.ntmps54
  go_wp2_with (first | (go_at_call 80; (first | (refine (FX.out _).mono ?_; rintro e w' ⟨rfl, n, rfl⟩) | (refine (FY.out _).mono ?_; rintro e w' ⟨rfl, n, rfl⟩))) | (go_at_call 81; (first | (refine (GX.out _).mono ?_; rintro e w' ⟨rfl, rfl⟩) | (refine (GY.out _).mono ?_; rintro e w' ⟨rfl, rfl⟩))) | (go_at_call 82; refine (mnan_any _).mono ?_; rintro e w' ⟨rfl, rfl⟩) | (go_at_call 87; first | (refine (inf1_any _).mono ?_; rintro e w' ⟨rfl, rfl⟩) | (refine (infm_any _).mono ?_; rintro e w' ⟨rfl, rfl⟩)))
  go_ret
  exact OpRet.mk HF.out (by repeat (first | exact Below.refl _ _ | refine bdn _ ?_))
set_option maxRecDepth 100000 in
set_option maxHeartbeats 8000000 in
theorem times_inf_inf_true_false (x y : Nat) (w : World) (hx : x < 2 ^ 64) (hy : y < 2 ^ 64) (ix : rg x = INF) (iy : rg y = INF) (sx : sg x = true) (sy : sg y = false) :
    Calls Tryz.prog 54 #[.float .f64 x, .float .f64 y] w (OpRet (FMul x y) w) := by
  have FX := finite_any x hx
  have FY := finite_any y hy
  have GX := signbit_any x hx
  have GY := signbit_any y hy
  have fx : ¬ fin x := by unfold fin; omega
  have nx : ¬ isNan x := by unfold isNan; omega
  rw [decide_eq_false fx] at FX
  have ex := ne_self_false nx
  have fy : ¬ fin y := by unfold fin; omega
  have ny : ¬ isNan y := by unfold isNan; omega
  rw [decide_eq_false fy] at FY
  have ey := ne_self_false ny
  rw [sx] at GX
  rw [sy] at GY
  have ox := order_zeroB x
  have oy := order_zeroB y
  have zx : zeroB x = false := decide_eq_false (by rw [ix]; decide)
  rw [zx] at ox
  have zy : zeroB y = false := decide_eq_false (by rw [iy]; decide)
  rw [zy] at oy
  have FX := Lib.hid FX
  have FY := Lib.hid FY
  have GX := Lib.hid GX
  have GY := Lib.hid GY
  have HF : Hid (FMul x y (18442240474082181120)) := Lib.hid (fmul_of (by rw [mul_inf_inf ix iy, sx, sy]; decide))
  clear hx hy nx ny fx fy ix iy sx sy zx zy
  go_enter Tryz.func54, Tryz.ntmps54
  go_wp2_with (first | (go_at_call 80; (first | (refine (FX.out _).mono ?_; rintro e w' ⟨rfl, n, rfl⟩) | (refine (FY.out _).mono ?_; rintro e w' ⟨rfl, n, rfl⟩))) | (go_at_call 81; (first | (refine (GX.out _).mono ?_; rintro e w' ⟨rfl, rfl⟩) | (refine (GY.out _).mono ?_; rintro e w' ⟨rfl, rfl⟩))) | (go_at_call 82; refine (mnan_any _).mono ?_; rintro e w' ⟨rfl, rfl⟩) | (go_at_call 87; first | (refine (inf1_any _).mono ?_; rintro e w' ⟨rfl, rfl⟩) | (refine (infm_any _).mono ?_; rintro e w' ⟨rfl, rfl⟩)))
  go_ret
  exact OpRet.mk HF.out (by repeat (first | exact Below.refl _ _ | refine bdn _ ?_))
set_option maxRecDepth 100000 in
set_option maxHeartbeats 8000000 in
theorem times_inf_fin_true_false (x y : Nat) (w : World) (hx : x < 2 ^ 64) (hy : y < 2 ^ 64) (ix : rg x = INF) (fy : fin y) (my : mv y ≠ 0) (sx : sg x = true) (sy : sg y = false) :
    Calls Tryz.prog 54 #[.float .f64 x, .float .f64 y] w (OpRet (FMul x y) w) := by
  have FX := finite_any x hx
  have FY := finite_any y hy
  have GX := signbit_any x hx
  have GY := signbit_any y hy
  have fx : ¬ fin x := by unfold fin; omega
  have nx : ¬ isNan x := by unfold isNan; omega
  rw [decide_eq_false fx] at FX
  have ex := ne_self_false nx
  have ny : ¬ isNan y := by unfold isNan; unfold fin at fy; omega
  rw [decide_eq_true fy] at FY
  have ey := ne_self_false ny
  rw [sx] at GX
  rw [sy] at GY
  have ox := order_zeroB x
  have oy := order_zeroB y
  have zx : zeroB x = false := decide_eq_false (by rw [ix]; decide)
  rw [zx] at ox
  have zy : zeroB y = false := decide_eq_false (fun h => my (mv_rg.2 h))
  rw [zy] at oy
  have FX := Lib.hid FX
  have FY := Lib.hid FY
  have GX := Lib.hid GX
  have GY := Lib.hid GY
  have HF : Hid (FMul x y (18442240474082181120)) := Lib.hid (fmul_of (by rw [mul_inf_l ix fy, if_neg my, sx, sy]; decide))
  clear hx hy nx ny fx fy ix my sx sy zx zy
  go_enter Tryz.func54, Tryz.ntmps54
  go_wp2_with (first | (go_at_call 80; (first | (refine (FX.out _).mono ?_; rintro e w' ⟨rfl, n, rfl⟩) | (refine (FY.out _).mono ?_; rintro e w' ⟨rfl, n, rfl⟩))) | (go_at_call 81; (first | (refine (GX.out _).mono ?_; rintro e w' ⟨rfl, rfl⟩) | (refine (GY.out _).mono ?_; rintro e w' ⟨rfl, rfl⟩))) | (go_at_call 82; refine (mnan_any _).mono ?_; rintro e w' ⟨rfl, rfl⟩) | (go_at_call 87; first | (refine (inf1_any _).mono ?_; rintro e w' ⟨rfl, rfl⟩) | (refine (infm_any _).mono ?_; rintro e w' ⟨rfl, rfl⟩)))
  go_ret
  exact OpRet.mk HF.out (by repeat (first | exact Below.refl _ _ | refine bdn _ ?_))
set_option maxRecDepth 100000 in
set_option maxHeartbeats 8000000 in
theorem times_fin_inf_true_false (x y : Nat) (w : World) (hx : x < 2 ^ 64) (hy : y < 2 ^ 64) (fx : fin x) (mx : mv x ≠ 0) (iy : rg y = INF) (sx : sg x = true) (sy : sg y = false) :
    Calls Tryz.prog 54 #[.float .f64 x, .float .f64 y] w (OpRet (FMul x y) w) := by
  have FX := finite_any x hx
  have FY := finite_any y hy
  have GX := signbit_any x hx
  have GY := signbit_any y hy
  have nx : ¬ isNan x := by unfold isNan; unfold fin at fx; omega
  rw [decide_eq_true fx] at FX
  have ex := ne_self_false nx
  have fy : ¬ fin y := by unfold fin; omega
  have ny : ¬ isNan y := by unfold isNan; omega
  rw [decide_eq_false fy] at FY
  have ey := ne_self_false ny
  rw [sx] at GX
  rw [sy] at GY
  have ox := order_zeroB x
  have oy := order_zeroB y
  have zx : zeroB x = false := decide_eq_false (fun h => mx (mv_rg.2 h))
  rw [zx] at ox
  have zy : zeroB y = false := decide_eq_false (by rw [iy]; decide)
  rw [zy] at oy
  have FX := Lib.hid FX
  have FY := Lib.hid FY
  have GX := Lib.hid GX
  have GY := Lib.hid GY
  have HF : Hid (FMul x y (18442240474082181120)) := Lib.hid (fmul_of (by rw [mul_comm, mul_inf_l iy fx, if_neg mx, sx, sy]; decide))
  clear hx hy nx ny fx fy iy mx sx sy zx zy
  go_enter Tryz.func54, Tryz.ntmps54
  go_wp2_with (first | (go_at_call 80; (first | (refine (FX.out _).mono ?_; rintro e w' ⟨rfl, n, rfl⟩) | (refine (FY.out _).mono ?_; rintro e w' ⟨rfl, n, rfl⟩))) | (go_at_call 81; (first | (refine (GX.out _).mono ?_; rintro e w' ⟨rfl, rfl⟩) | (refine (GY.out _).mono ?_; rintro e w' ⟨rfl, rfl⟩))) | (go_at_call 82; refine (mnan_any _).mono ?_; rintro e w' ⟨rfl, rfl⟩) | (go_at_call 87; first | (refine (inf1_any _).mono ?_; rintro e w' ⟨rfl, rfl⟩) | (refine (infm_any _).mono ?_; rintro e w' ⟨rfl, rfl⟩)))
  go_ret
  exact OpRet.mk HF.out (by repeat (first | exact Below.refl _ _ | refine bdn _ ?_))
set_option maxRecDepth 100000 in
set_option maxHeartbeats 8000000 in
theorem times_inf_inf_false_true (x y : Nat) (w : World) (hx : x < 2 ^ 64) (hy : y < 2 ^ 64) (ix : rg x = INF) (iy : rg y = INF) (sx : sg x = false) (sy : sg y = true) :
    Calls Tryz.prog 54 #[.float .f64 x, .float .f64 y] w (OpRet (FMul x y) w) := by
  have FX := finite_any x hx
  have FY := finite_any y hy
  have GX := signbit_any x hx
  have GY := signbit_any y hy
  have fx : ¬ fin x := by unfold fin; omega
  have nx : ¬ isNan x := by unfold isNan; omega
  rw [decide_eq_false fx] at FX
  have ex := ne_self_false nx
  have fy : ¬ fin y := by unfold fin; omega
  have ny : ¬ isNan y := by unfold isNan; omega
  rw [decide_eq_false fy] at FY
  have ey := ne_self_false ny
  rw [sx] at GX
  rw [sy] at GY
  have ox := order_zeroB x
  have oy := order_zeroB y
  have zx : zeroB x = false := decide_eq_false (by rw [ix]; decide)
  rw [zx] at ox
  have zy : zeroB y = false := decide_eq_false (by rw [iy]; decide)
  rw [zy] at oy
  have FX := Lib.hid FX
  have FY := Lib.hid FY
  have GX := Lib.hid GX
  have GY := Lib.hid GY
  have HF : Hid (FMul x y (18442240474082181120)) := Lib.hid (fmul_of (by rw [mul_inf_inf ix iy, sx, sy]; decide))
  clear hx hy nx ny fx fy ix iy sx sy zx zy
  go_enter Tryz.func54, Tryz.ntmps54
  go_wp2_with (first | (go_at_call 80; (first | (refine (FX.out _).mono ?_; rintro e w' ⟨rfl, n, rfl⟩) | (refine (FY.out _).mono ?_; rintro e w' ⟨rfl, n, rfl⟩))) | (go_at_call 81; (first | (refine (GX.out _).mono ?_; rintro e w' ⟨rfl, rfl⟩) | (refine (GY.out _).mono ?_; rintro e w' ⟨rfl, rfl⟩))) | (go_at_call 82; refine (mnan_any _).mono ?_; rintro e w' ⟨rfl, rfl⟩) | (go_at_call 87; first | (refine (inf1_any _).mono ?_; rintro e w' ⟨rfl, rfl⟩) | (refine (infm_any _).mono ?_; rintro e w' ⟨rfl, rfl⟩)))
  go_ret
  exact OpRet.mk HF.out (by repeat (first | exact Below.refl _ _ | refine bdn _ ?_))
set_option maxRecDepth 100000 in
set_option maxHeartbeats 8000000 in
theorem times_inf_fin_false_true (x y : Nat) (w : World) (hx : x < 2 ^ 64) (hy : y < 2 ^ 64) (ix : rg x = INF) (fy : fin y) (my : mv y ≠ 0) (sx : sg x = false) (sy : sg y = true) :
    Calls Tryz.prog 54 #[.float .f64 x, .float .f64 y] w (OpRet (FMul x y) w) := by
  have FX := finite_any x hx
  have FY := finite_any y hy
  have GX := signbit_any x hx
  have GY := signbit_any y hy
  have fx : ¬ fin x := by unfold fin; omega
  have nx : ¬ isNan x := by unfold isNan; omega
  rw [decide_eq_false fx] at FX
  have ex := ne_self_false nx
  have ny : ¬ isNan y := by unfold isNan; unfold fin at fy; omega
  rw [decide_eq_true fy] at FY
  have ey := ne_self_false ny
  rw [sx] at GX
  rw [sy] at GY
  have ox := order_zeroB x
  have oy := order_zeroB y
  have zx : zeroB x = false := decide_eq_false (by rw [ix]; decide)
  rw [zx] at ox
  have zy : zeroB y = false := decide_eq_false (fun h => my (mv_rg.2 h))
  rw [zy] at oy
  have FX := Lib.hid FX
  have FY := Lib.hid FY
  have GX := Lib.hid GX
  have GY := Lib.hid GY
  have HF : Hid (FMul x y (18442240474082181120)) := Lib.hid (fmul_of (by rw [mul_inf_l ix fy, if_neg my, sx, sy]; decide))
  clear hx hy nx ny fx fy ix my sx sy zx zy
  go_enter Tryz.func54, Tryz.ntmps54
  go_wp2_with (first | (go_at_call 80; (first | (refine (FX.out _).mono ?_; rintro e w' ⟨rfl, n, rfl⟩) | (refine (FY.out _).mono ?_; rintro e w' ⟨rfl, n, rfl⟩))) | (go_at_call 81; (first | (refine (GX.out _).mono ?_; rintro e w' ⟨rfl, rfl⟩) | (refine (GY.out _).mono ?_; rintro e w' ⟨rfl, rfl⟩))) | (go_at_call 82; refine (mnan_any _).mono ?_; rintro e w' ⟨rfl, rfl⟩) | (go_at_call 87; first | (refine (inf1_any _).mono ?_; rintro e w' ⟨rfl, rfl⟩) | (refine (infm_any _).mono ?_; rintro e w' ⟨rfl, rfl⟩)))
  go_ret
  exact OpRet.mk HF.out (by repeat (first | exact Below.refl _ _ | refine bdn _ ?_))
set_option maxRecDepth 100000 in
set_option maxHeartbeats 8000000 in
theorem times_fin_inf_false_true (x y : Nat) (w : World) (hx : x < 2 ^ 64) (hy : y < 2 ^ 64) (fx : fin x) (mx : mv x ≠ 0) (iy : rg y = INF) (sx : sg x = false) (sy : sg y = true) :
    Calls Tryz.prog 54 #[.float .f64 x, .float .f64 y] w (OpRet (FMul x y) w) := by
  have FX := finite_any x hx
  have FY := finite_any y hy
  have GX := signbit_any x hx
  have GY := signbit_any y hy
  have nx : ¬ isNan x := by unfold isNan; unfold fin at fx; omega
  rw [decide_eq_true fx] at FX
  have ex := ne_self_false nx
  have fy : ¬ fin y := by unfold fin; omega
  have ny : ¬ isNan y := by unfold isNan; omega
  rw [decide_eq_false fy] at FY
  have ey := ne_self_false ny
  rw [sx] at GX
  rw [sy] at GY
  have ox := order_zeroB x
  have oy := order_zeroB y
  have zx : zeroB x = false := decide_eq_false (fun h => mx (mv_rg.2 h))
  rw [zx] at ox
  have zy : zeroB y = false := decide_eq_false (by rw [iy]; decide)
  rw [zy] at oy
  have FX := Lib.hid FX
  have FY := Lib.hid FY
  have GX := Lib.hid GX
  have GY := Lib.hid GY
  have HF : Hid (FMul x y (18442240474082181120)) := Lib.hid (fmul_of (by rw [mul_comm, mul_inf_l iy fx, if_neg mx, sx, sy]; decide))
  clear hx hy nx ny fx fy iy mx sx sy zx zy
  go_enter Tryz.func54, Tryz.ntmps54
  go_wp2_with (first | (go_at_call 80; (first | (refine (FX.out _).mono ?_; rintro e w' ⟨rfl, n, rfl⟩) | (refine (FY.out _).mono ?_; rintro e w' ⟨rfl, n, rfl⟩))) | (go_at_call 81; (first | (refine (GX.out _).mono ?_; rintro e w' ⟨rfl, rfl⟩) | (refine (GY.out _).mono ?_; rintro e w' ⟨rfl, rfl⟩))) | (go_at_call 82; refine (mnan_any _).mono ?_; rintro e w' ⟨rfl, rfl⟩) | (go_at_call 87; first | (refine (inf1_any _).mono ?_; rintro e w' ⟨rfl, rfl⟩) | (refine (infm_any _).mono ?_; rintro e w' ⟨rfl, rfl⟩)))
  go_ret
  exact OpRet.mk HF.out (by repeat (first | exact Below.refl _ _ | refine bdn _ ?_))
set_option maxRecDepth 100000 in
set_option maxHeartbeats 8000000 in
theorem times_inf_inf_false_false (x y : Nat) (w : World) (hx : x < 2 ^ 64) (hy : y < 2 ^ 64) (ix : rg x = INF) (iy : rg y = INF) (sx : sg x = false) (sy : sg y = false) :
    Calls Tryz.prog 54 #[.float .f64 x, .float .f64 y] w (OpRet (FMul x y) w) := by
  have FX := finite_any x hx
  have FY := finite_any y hy
  have GX := signbit_any x hx
  have GY := signbit_any y hy
  have fx : ¬ fin x := by unfold fin; omega
  have nx : ¬ isNan x := by unfold isNan; omega
  rw [decide_eq_false fx] at FX
  have ex := ne_self_false nx
  have fy : ¬ fin y := by unfold fin; omega
  have ny : ¬ isNan y := by unfold isNan; omega
  rw [decide_eq_false fy] at FY
  have ey := ne_self_false ny
  rw [sx] at GX
  rw [sy] at GY
  have ox := order_zeroB x
  have oy := order_zeroB y
  have zx : zeroB x = false := decide_eq_false (by rw [ix]; decide)
  rw [zx] at ox
  have zy : zeroB y = false := decide_eq_false (by rw [iy]; decide)
  rw [zy] at oy
  have FX := Lib.hid FX
  have FY := Lib.hid FY
  have GX := Lib.hid GX
  have GY := Lib.hid GY
  have HF : Hid (FMul x y (9218868437227405312)) := Lib.hid (fmul_of (by rw [mul_inf_inf ix iy, sx, sy]; decide))
  clear hx hy nx ny fx fy ix iy sx sy zx zy
  go_enter Tryz.func54, Tryz.ntmps54
  go_wp2_with (first | (go_at_call 80; (first | (refine (FX.out _).mono ?_; rintro e w' ⟨rfl, n, rfl⟩) | (refine (FY.out _).mono ?_; rintro e w' ⟨rfl, n, rfl⟩))) | (go_at_call 81; (first | (refine (GX.out _).mono ?_; rintro e w' ⟨rfl, rfl⟩) | (refine (GY.out _).mono ?_; rintro e w' ⟨rfl, rfl⟩))) | (go_at_call 82; refine (mnan_any _).mono ?_; rintro e w' ⟨rfl, rfl⟩) | (go_at_call 87; first | (refine (inf1_any _).mono ?_; rintro e w' ⟨rfl, rfl⟩) | (refine (infm_any _).mono ?_; rintro e w' ⟨rfl, rfl⟩)))
  go_ret
  exact OpRet.mk HF.out (by repeat (first | exact Below.refl _ _ | refine bdn _ ?_))
set_option maxRecDepth 100000 in
set_option maxHeartbeats 8000000 in
theorem times_inf_fin_false_false (x y : Nat) (w : World) (hx : x < 2 ^ 64) (hy : y < 2 ^ 64) (ix : rg x = INF) (fy : fin y) (my : mv y ≠ 0) (sx : sg x = false) (sy : sg y = false) :
    Calls Tryz.prog 54 #[.float .f64 x, .float .f64 y] w (OpRet (FMul x y) w) := by
  have FX := finite_any x hx
  have FY := finite_any y hy
  have GX := signbit_any x hx
  have GY := signbit_any y hy
  have fx : ¬ fin x := by unfold fin; omega
  have nx : ¬ isNan x := by unfold isNan; omega
  rw [decide_eq_false fx] at FX
  have ex := ne_self_false nx
  have ny : ¬ isNan y := by unfold isNan; unfold fin at fy; omega
  rw [decide_eq_true fy] at FY
  have ey := ne_self_false ny
  rw [sx] at GX
  rw [sy] at GY
  have ox := order_zeroB x
  have oy := order_zeroB y
  have zx : zeroB x = false := decide_eq_false (by rw [ix]; decide)
  rw [zx] at ox
  have zy : zeroB y = false := decide_eq_false (fun h => my (mv_rg.2 h))
  rw [zy] at oy
  have FX := Lib.hid FX
  have FY := Lib.hid FY
  have GX := Lib.hid GX
  have GY := Lib.hid GY
  have HF : Hid (FMul x y (9218868437227405312)) := Lib.hid (fmul_of (by rw [mul_inf_l ix fy, if_neg my, sx, sy]; decide))
  clear hx hy nx ny fx fy ix my sx sy zx zy
  go_enter Tryz.func54, Tryz.ntmps54
  go_wp2_with (first | (go_at_call 80; (first | (refine (FX.out _).mono ?_; rintro e w' ⟨rfl, n, rfl⟩) | (refine (FY.out _).mono ?_; rintro e w' ⟨rfl, n, rfl⟩))) | (go_at_call 81; (first | (refine (GX.out _).mono ?_; rintro e w' ⟨rfl, rfl⟩) | (refine (GY.out _).mono ?_; rintro e w' ⟨rfl, rfl⟩))) | (go_at_call 82; refine (mnan_any _).mono ?_; rintro e w' ⟨rfl, rfl⟩) | (go_at_call 87; first | (refine (inf1_any _).mono ?_; rintro e w' ⟨rfl, rfl⟩) | (refine (infm_any _).mono ?_; rintro e w' ⟨rfl, rfl⟩)))
  go_ret
  exact OpRet.mk HF.out (by repeat (first | exact Below.refl _ _ | refine bdn _ ?_))
set_option maxRecDepth 100000 in
set_option maxHeartbeats 8000000 in
theorem times_fin_inf_false_false (x y : Nat) (w : World) (hx : x < 2 ^ 64) (hy : y < 2 ^ 64) (fx : fin x) (mx : mv x ≠ 0) (iy : rg y = INF) (sx : sg x = false) (sy : sg y = false) :
    Calls Tryz.prog 54 #[.float .f64 x, .float .f64 y] w (OpRet (FMul x y) w) := by
  have FX := finite_any x hx
  have FY := finite_any y hy
  have GX := signbit_any x hx
  have GY := signbit_any y hy
  have nx : ¬ isNan x := by unfold isNan; unfold fin at fx; omega
  rw [decide_eq_true fx] at FX
  have ex := ne_self_false nx
  have fy : ¬ fin y := by unfold fin; omega
  have ny : ¬ isNan y := by unfold isNan; omega
  rw [decide_eq_false fy] at FY
  have ey := ne_self_false ny
  rw [sx] at GX
  rw [sy] at GY
  have ox := order_zeroB x
  have oy := order_zeroB y
  have zx : zeroB x = false := decide_eq_false (fun h => mx (mv_rg.2 h))
  rw [zx] at ox
  have zy : zeroB y = false := decide_eq_false (by rw [iy]; decide)
  rw [zy] at oy
  have FX := Lib.hid FX
  have FY := Lib.hid FY
  have GX := Lib.hid GX
  have GY := Lib.hid GY
  have HF : Hid (FMul x y (9218868437227405312)) := Lib.hid (fmul_of (by rw [mul_comm, mul_inf_l iy fx, if_neg mx, sx, sy]; decide))
  clear hx hy nx ny fx fy iy mx sx sy zx zy
  go_enter Tryz.func54, Tryz.ntmps54
  go_wp2_with (first | (go_at_call 80; (first | (refine (FX.out _).mono ?_; rintro e w' ⟨rfl, n, rfl⟩) | (refine (FY.out _).mono ?_; rintro e w' ⟨rfl, n, rfl⟩))) | (go_at_call 81; (first | (refine (GX.out _).mono ?_; rintro e w' ⟨rfl, rfl⟩) | (refine (GY.out _).mono ?_; rintro e w' ⟨rfl, rfl⟩))) | (go_at_call 82; refine (mnan_any _).mono ?_; rintro e w' ⟨rfl, rfl⟩) | (go_at_call 87; first | (refine (inf1_any _).mono ?_; rintro e w' ⟨rfl, rfl⟩) | (refine (infm_any _).mono ?_; rintro e w' ⟨rfl, rfl⟩)))
  go_ret
  exact OpRet.mk HF.out (by repeat (first | exact Below.refl _ _ | refine bdn _ ?_))
set_option maxRecDepth 100000 in
set_option maxHeartbeats 8000000 in
theorem times_inf_zero (x y : Nat) (w : World) (hx : x < 2 ^ 64) (hy : y < 2 ^ 64) (ix : rg x = INF) (fy : fin y) (my : mv y = 0) :
    Calls Tryz.prog 54 #[.float .f64 x, .float .f64 y] w (OpRet (FMul x y) w) := by
  have FX := finite_any x hx
  have FY := finite_any y hy
  have GX := signbit_any x hx
  have GY := signbit_any y hy
  have fx : ¬ fin x := by unfold fin; omega
  have nx : ¬ isNan x := by unfold isNan; omega
  rw [decide_eq_false fx] at FX
  have ex := ne_self_false nx
  have ny : ¬ isNan y := by unfold isNan; unfold fin at fy; omega
  rw [decide_eq_true fy] at FY
  have ey := ne_self_false ny
  have ox := order_zeroB x
  have oy := order_zeroB y
  have zx : zeroB x = false := decide_eq_false (by rw [ix]; decide)
  rw [zx] at ox
  have zy : zeroB y = true := decide_eq_true (mv_rg.1 my)
  rw [zy] at oy
  have FX := Lib.hid FX
  have FY := Lib.hid FY
  have GX := Lib.hid GX
  have GY := Lib.hid GY
  have HF : Hid (FMul x y (9221120237041090561)) := Lib.hid (fmul_nan (by rw [mul_inf_l ix fy, if_pos my]) nanQ)
  clear hx hy nx ny fx fy ix my zx zy
  go_enter Tryz.func54, Tryz.ntmps54
  go_wp2_with (first | (go_at_call 80; (first | (refine (FX.out _).mono ?_; rintro e w' ⟨rfl, n, rfl⟩) | (refine (FY.out _).mono ?_; rintro e w' ⟨rfl, n, rfl⟩))) | (go_at_call 81; (first | (refine (GX.out _).mono ?_; rintro e w' ⟨rfl, rfl⟩) | (refine (GY.out _).mono ?_; rintro e w' ⟨rfl, rfl⟩))) | (go_at_call 82; refine (mnan_any _).mono ?_; rintro e w' ⟨rfl, rfl⟩) | (go_at_call 87; first | (refine (inf1_any _).mono ?_; rintro e w' ⟨rfl, rfl⟩) | (refine (infm_any _).mono ?_; rintro e w' ⟨rfl, rfl⟩)))
  go_ret
  exact OpRet.mk HF.out (by repeat (first | exact Below.refl _ _ | refine bdn _ ?_))
set_option maxRecDepth 100000 in
set_option maxHeartbeats 8000000 in
theorem times_zero_inf (x y : Nat) (w : World) (hx : x < 2 ^ 64) (hy : y < 2 ^ 64) (fx : fin x) (mx : mv x = 0) (iy : rg y = INF) :
    Calls Tryz.prog 54 #[.float .f64 x, .float .f64 y] w (OpRet (FMul x y) w) := by
  have FX := finite_any x hx
  have FY := finite_any y hy
  have GX := signbit_any x hx
  have GY := signbit_any y hy
  have nx : ¬ isNan x := by unfold isNan; unfold fin at fx; omega
  rw [decide_eq_true fx] at FX
  have ex := ne_self_false nx
  have fy : ¬ fin y := by unfold fin; omega
  have ny : ¬ isNan y := by unfold isNan; omega
  rw [decide_eq_false fy] at FY
  have ey := ne_self_false ny
  have ox := order_zeroB x
  have oy := order_zeroB y
  have zx : zeroB x = true := decide_eq_true (mv_rg.1 mx)
  rw [zx] at ox
  have zy : zeroB y = false := decide_eq_false (by rw [iy]; decide)
  rw [zy] at oy
  have FX := Lib.hid FX
  have FY := Lib.hid FY
  have GX := Lib.hid GX
  have GY := Lib.hid GY
  have HF : Hid (FMul x y (9221120237041090561)) := Lib.hid (fmul_nan (by rw [mul_comm, mul_inf_l iy fx, if_pos mx]) nanQ)
  clear hx hy nx ny fx fy iy mx zx zy
  go_enter Tryz.func54, Tryz.ntmps54
  go_wp2_with (first | (go_at_call 80; (first | (refine (FX.out _).mono ?_; rintro e w' ⟨rfl, n, rfl⟩) | (refine (FY.out _).mono ?_; rintro e w' ⟨rfl, n, rfl⟩))) | (go_at_call 81; (first | (refine (GX.out _).mono ?_; rintro e w' ⟨rfl, rfl⟩) | (refine (GY.out _).mono ?_; rintro e w' ⟨rfl, rfl⟩))) | (go_at_call 82; refine (mnan_any _).mono ?_; rintro e w' ⟨rfl, rfl⟩) | (go_at_call 87; first | (refine (inf1_any _).mono ?_; rintro e w' ⟨rfl, rfl⟩) | (refine (infm_any _).mono ?_; rintro e w' ⟨rfl, rfl⟩)))
  go_ret
  exact OpRet.mk HF.out (by repeat (first | exact Below.refl _ _ | refine bdn _ ?_))
/-- surdref5.times -/
theorem rtimes_any (x y : Nat) (w : World) (hx : x < 2 ^ 64) (hy : y < 2 ^ 64) :
    Calls Tryz.prog 54 #[.float .f64 x, .float .f64 y] w (OpRet (FMul x y) w) := by
  rcases cases3 x with cx | cx | cx
  · rcases cases3 y with cy | cy | cy
    · exact times_fin x y w hx hy cx cy
    · by_cases mx : mv x = 0
      · exact times_zero_inf x y w hx hy cx mx cy
      · cases sx : sg x <;> cases sy : sg y
        · exact times_fin_inf_false_false x y w hx hy cx mx cy sx sy
        · exact times_fin_inf_false_true x y w hx hy cx mx cy sx sy
        · exact times_fin_inf_true_false x y w hx hy cx mx cy sx sy
        · exact times_fin_inf_true_true x y w hx hy cx mx cy sx sy
    · exact times_nan_r_fin x y w hx hy cx cy
  · rcases cases3 y with cy | cy | cy
    · by_cases my : mv y = 0
      · exact times_inf_zero x y w hx hy cx cy my
      · cases sx : sg x <;> cases sy : sg y
        · exact times_inf_fin_false_false x y w hx hy cx cy my sx sy
        · exact times_inf_fin_false_true x y w hx hy cx cy my sx sy
        · exact times_inf_fin_true_false x y w hx hy cx cy my sx sy
        · exact times_inf_fin_true_true x y w hx hy cx cy my sx sy
    · cases sx : sg x <;> cases sy : sg y
      · exact times_inf_inf_false_false x y w hx hy cx cy sx sy
      · exact times_inf_inf_false_true x y w hx hy cx cy sx sy
      · exact times_inf_inf_true_false x y w hx hy cx cy sx sy
      · exact times_inf_inf_true_true x y w hx hy cx cy sx sy
    · exact times_nan_r_inf x y w hx hy cx cy
  · exact times_nan_l x y w hx hy cx
end Go.Proofs.YtokmommlabdcdaaGreat
set_option linter.unusedVariables false
set_option linter.unusedSimpArgs false
namespace Go.Proofs.YtokmommlabdcdaaGreat
open Wd Fl Go.RowKit
set_option maxRecDepth 100000 in
set_option maxHeartbeats 8000000 in
theorem over_fin (x y : Nat) (w : World) (hx : x < 2 ^ 64) (hy : y < 2 ^ 64) (fx : fin x) (fy : fin y) (my : mv y ≠ 0) :
    Calls Tryz.prog 57 #[.float .f64 x, .float .f64 y] w (OpRet (FDiv x y) w) := by
  have FX := finite_any x hx
  have FY := finite_any y hy
  have GX := signbit_any x hx
  have GY := signbit_any y hy
  have nx : ¬ isNan x := by unfold isNan; unfold fin at fx; omega
  have ny : ¬ isNan y := by unfold isNan; unfold fin at fy; omega
  have ex := ne_self_false nx
  have ey := ne_self_false ny
  have ox := order_zeroB x
  have oy := order_zeroB y
  have zy : zeroB y = false := decide_eq_false (fun h => my (mv_rg.2 h))
  rw [zy] at oy
  rw [decide_eq_true fx] at FX
  rw [decide_eq_true fy] at FY
  have RX := Lib.hid (rat_any x hx fx)
  have RY := Lib.hid (rat_any y hy fy)
  have DX := Lib.hid ((Dy.fv fx).mono (show 1080 ≤ 1200 by decide))
  have DY := Lib.hid ((Dy.fv fy).mono (show 1080 ≤ 1200 by decide))
  have HY0 := Lib.hid (fv_num my)
  have BL := Lib.hid (div_bl DX.out DY.out HY0.out)
  have HF := Lib.hid (fdiv_of (fq_div fx fy my))
  have oyn : (FloatKind.f64.format.order y 0 != some Ordering.eq) = true := by unfold bne; rw [oy]; rfl
  obtain ⟨zz, hzz⟩ : ∃ z, zeroB x = z := ⟨_, rfl⟩
  rw [hzz] at ox
  have FX := Lib.hid FX
  have FY := Lib.hid FY
  have GX := Lib.hid GX
  have GY := Lib.hid GY
  obtain ⟨s, hs⟩ : ∃ s, sg x = s := ⟨_, rfl⟩
  obtain ⟨s2, hs2⟩ : ∃ s, sg y = s := ⟨_, rfl⟩
  rw [hs, hs2] at HF
  rw [hs] at GX
  rw [hs2] at GY
  have hxor : (!(s == s2)) = (s ^^ s2) := by cases s <;> cases s2 <;> rfl
  rw [← hxor] at HF
  clear hx hy fx fy hs hs2 hxor nx ny my zy hzz
  go_enter Tryz.func57, Tryz.ntmps57
  cases zz
  all_goals
    go_wp2_with fail
    refine (GX.out w).mono ?_
    rintro e w' ⟨rfl, rfl⟩
    go_wp2_with fail
    refine (GY.out w).mono ?_
    rintro e w' ⟨rfl, rfl⟩
    go_wp2_with fail
    refine (FX.out w).mono ?_
    rintro e wa0 ⟨rfl, nwa0, hwa0⟩
    have Bwa0 : Hid (Below w.heap.size w wa0) := Lib.hid (by rw [hwa0]; exact bdn _ (Below.refl _ _))
    clear hwa0
    go_wp2_with fail
    refine (FX.out wa0).mono ?_
    rintro e wa ⟨rfl, nwa, hwa⟩
    have Bwa : Hid (Below w.heap.size w wa) := Lib.hid (by rw [hwa]; exact bdn _ Bwa0.out)
    clear hwa
    go_wp2_with fail
    refine (FY.out wa).mono ?_
    rintro e wb ⟨rfl, nwb, hwb⟩
    have Bwb : Hid (Below w.heap.size w wb) := Lib.hid (by rw [hwb]; exact bdn _ Bwa.out)
    clear hwb
    go_wp2_with fail
    refine (RX.out (wb.alloc (.cells #[.bool false, .slice none 0 0, .bool false, .slice none 0 0] 92))).mono ?_
    rintro e wc ⟨bx, rfl, hra, hle, hb⟩
    have Z1 := Lib.hid ((znewr wb).below hb)
    have X1 := Lib.hid hra
    have BC := Lib.hid ((bal Bwb.out).trans (hb.mono (bal Bwb.out).size))
    have LB0 := Lib.hid Bwb.out.size
    clear hra hle hb
    go_wp2_with fail
    refine (RY.out wc).mono ?_
    rintro e wd ⟨bY, rfl, hra, hle, hb⟩
    have Z2 := Lib.hid (Z1.out.below hb)
    have X2 := Lib.hid (X1.out.below hb)
    have Y2 := Lib.hid hra
    have BD := Lib.hid (BC.out.trans (hb.mono BC.out.size))
    clear hra hle hb
    go_wp2_with fail
    with_reducible refine (rquo_any wb.heap.size bx bY (fv x) (fv y) wd Z2.out X2.out Y2.out DX.out DY.out HY0.out).mono ?_
    rintro e we ⟨rfl, hra, hr⟩
    have Q := Lib.hid hra
    have BE := Lib.hid (bwr BD.out hr LB0.out)
    clear hra hr
    go_wp2_with fail
    with_reducible refine (signed_any wb.heap.size _ (!(s == s2)) we Q.out BL.out.1 BL.out.2).mono ?_
    rintro e wf ⟨rfl, hb⟩
    have BF := Lib.hid (BE.out.trans (hb.mono BE.out.size))
    clear hb
    go_wp2_with fail
    go_ret
    exact OpRet.mk HF.out BF.out
set_option maxRecDepth 100000 in
set_option maxHeartbeats 8000000 in
theorem over_nan_l (x y : Nat) (w : World) (hx : x < 2 ^ 64) (hy : y < 2 ^ 64) (nx : isNan x) :
    Calls Tryz.prog 57 #[.float .f64 x, .float .f64 y] w (OpRet (FDiv x y) w) := by
  have FX := finite_any x hx
  have FY := finite_any y hy
  have GX := signbit_any x hx
  have GY := signbit_any y hy
  have fx : ¬ fin x := by unfold fin; unfold isNan at nx; omega
  rw [decide_eq_false fx] at FX
  have ex := ne_self_true nx
  have FX := Lib.hid FX
  have FY := Lib.hid FY
  have GX := Lib.hid GX
  have GY := Lib.hid GY
  have HF : Hid (FDiv x y (9221120237041090561)) := Lib.hid (fdiv_nan (div_nan x y (.inl nx)) nanQ)
  clear hx hy nx fx
  go_enter Tryz.func57, Tryz.ntmps57
  go_wp2_with (first | (go_at_call 80; (first | (refine (FX.out _).mono ?_; rintro e w' ⟨rfl, n, rfl⟩) | (refine (FY.out _).mono ?_; rintro e w' ⟨rfl, n, rfl⟩))) | (go_at_call 81; (first | (refine (GX.out _).mono ?_; rintro e w' ⟨rfl, rfl⟩) | (refine (GY.out _).mono ?_; rintro e w' ⟨rfl, rfl⟩))) | (go_at_call 82; refine (mnan_any _).mono ?_; rintro e w' ⟨rfl, rfl⟩) | (go_at_call 87; first | (refine (inf1_any _).mono ?_; rintro e w' ⟨rfl, rfl⟩) | (refine (infm_any _).mono ?_; rintro e w' ⟨rfl, rfl⟩)))
  go_ret
  exact OpRet.mk HF.out (by repeat (first | exact Below.refl _ _ | refine bdn _ ?_))
set_option maxRecDepth 100000 in
set_option maxHeartbeats 8000000 in
theorem over_nan_r_fin (x y : Nat) (w : World) (hx : x < 2 ^ 64) (hy : y < 2 ^ 64) (fx : fin x) (ny : isNan y) :
    Calls Tryz.prog 57 #[.float .f64 x, .float .f64 y] w (OpRet (FDiv x y) w) := by
  have FX := finite_any x hx
  have FY := finite_any y hy
  have GX := signbit_any x hx
  have GY := signbit_any y hy
  have nx : ¬ isNan x := by unfold isNan; unfold fin at fx; omega
  rw [decide_eq_true fx] at FX
  have ex := ne_self_false nx
  have fy : ¬ fin y := by unfold fin; unfold isNan at ny; omega
  rw [decide_eq_false fy] at FY
  have ey := ne_self_true ny
  have FX := Lib.hid FX
  have FY := Lib.hid FY
  have GX := Lib.hid GX
  have GY := Lib.hid GY
  have HF : Hid (FDiv x y (9221120237041090561)) := Lib.hid (fdiv_nan (div_nan x y (.inr ny)) nanQ)
  clear hx hy nx ny fx fy
  go_enter Tryz.func57, Tryz.ntmps57
  go_wp2_with (first | (go_at_call 80; (first | (refine (FX.out _).mono ?_; rintro e w' ⟨rfl, n, rfl⟩) | (refine (FY.out _).mono ?_; rintro e w' ⟨rfl, n, rfl⟩))) | (go_at_call 81; (first | (refine (GX.out _).mono ?_; rintro e w' ⟨rfl, rfl⟩) | (refine (GY.out _).mono ?_; rintro e w' ⟨rfl, rfl⟩))) | (go_at_call 82; refine (mnan_any _).mono ?_; rintro e w' ⟨rfl, rfl⟩) | (go_at_call 87; first | (refine (inf1_any _).mono ?_; rintro e w' ⟨rfl, rfl⟩) | (refine (infm_any _).mono ?_; rintro e w' ⟨rfl, rfl⟩)))
  go_ret
  exact OpRet.mk HF.out (by repeat (first | exact Below.refl _ _ | refine bdn _ ?_))
set_option maxRecDepth 100000 in
set_option maxHeartbeats 8000000 in
theorem over_nan_r_inf (x y : Nat) (w : World) (hx : x < 2 ^ 64) (hy : y < 2 ^ 64) (ix : rg x = INF) (ny : isNan y) :
    Calls Tryz.prog 57 #[.float .f64 x, .float .f64 y] w (OpRet (FDiv x y) w) := by
  have FX := finite_any x hx
  have FY := finite_any y hy
  have GX := signbit_any x hx
  have GY := signbit_any y hy
  have fx : ¬ fin x := by unfold fin; omega
  have nx : ¬ isNan x := by unfold isNan; omega
  rw [decide_eq_false fx] at FX
  have ex := ne_self_false nx
  have fy : ¬ fin y := by unfold fin; unfold isNan at ny; omega
  rw [decide_eq_false fy] at FY
  have ey := ne_self_true ny
  have FX := Lib.hid FX
  have FY := Lib.hid FY
  have GX := Lib.hid GX
  have GY := Lib.hid GY
  have HF : Hid (FDiv x y (9221120237041090561)) := Lib.hid (fdiv_nan (div_nan x y (.inr ny)) nanQ)
  clear hx hy nx ny fx fy ix
  go_enter Tryz.func57, Tryz.ntmps57
  go_wp2_with (first | (go_at_call 80; (first | (refine (FX.out _).mono ?_; rintro e w' ⟨rfl, n, rfl⟩) | (refine (FY.out _).mono ?_; rintro e w' ⟨rfl, n, rfl⟩))) | (go_at_call 81; (first | (refine (GX.out _).mono ?_; rintro e w' ⟨rfl, rfl⟩) | (refine (GY.out _).mono ?_; rintro e w' ⟨rfl, rfl⟩))) | (go_at_call 82; refine (mnan_any _).mono ?_; rintro e w' ⟨rfl, rfl⟩) | (go_at_call 87; first | (refine (inf1_any _).mono ?_; rintro e w' ⟨rfl, rfl⟩) | (refine (infm_any _).mono ?_; rintro e w' ⟨rfl, rfl⟩)))
  go_ret
  exact OpRet.mk HF.out (by repeat (first | exact Below.refl _ _ | refine bdn _ ?_))
set_option maxRecDepth 100000 in
set_option maxHeartbeats 8000000 in
theorem over_inf_inf (x y : Nat) (w : World) (hx : x < 2 ^ 64) (hy : y < 2 ^ 64) (ix : rg x = INF) (iy : rg y = INF) :
    Calls Tryz.prog 57 #[.float .f64 x, .float .f64 y] w (OpRet (FDiv x y) w) := by
  have FX := finite_any x hx
  have FY := finite_any y hy
  have GX := signbit_any x hx
  have GY := signbit_any y hy
  have fx : ¬ fin x := by unfold fin; omega
  have nx : ¬ isNan x := by unfold isNan; omega
  rw [decide_eq_false fx] at FX
  have ex := ne_self_false nx
  have fy : ¬ fin y := by unfold fin; omega
  have ny : ¬ isNan y := by unfold isNan; omega
  rw [decide_eq_false fy] at FY
  have ey := ne_self_false ny
  have ox := order_zeroB x
  have oy := order_zeroB y
  have zx : zeroB x = false := decide_eq_false (by rw [ix]; decide)
  rw [zx] at ox
  have zy : zeroB y = false := decide_eq_false (by rw [iy]; decide)
  rw [zy] at oy
  have FX := Lib.hid FX
  have FY := Lib.hid FY
  have GX := Lib.hid GX
  have GY := Lib.hid GY
  have HF : Hid (FDiv x y (9221120237041090561)) := Lib.hid (fdiv_nan (div_inf_inf ix iy) nanQ)
  clear hx hy nx ny fx fy ix iy zx zy
  go_enter Tryz.func57, Tryz.ntmps57
  go_wp2_with (first | (go_at_call 80; (first | (refine (FX.out _).mono ?_; rintro e w' ⟨rfl, n, rfl⟩) | (refine (FY.out _).mono ?_; rintro e w' ⟨rfl, n, rfl⟩))) | (go_at_call 81; (first | (refine (GX.out _).mono ?_; rintro e w' ⟨rfl, rfl⟩) | (refine (GY.out _).mono ?_; rintro e w' ⟨rfl, rfl⟩))) | (go_at_call 82; refine (mnan_any _).mono ?_; rintro e w' ⟨rfl, rfl⟩) | (go_at_call 87; first | (refine (inf1_any _).mono ?_; rintro e w' ⟨rfl, rfl⟩) | (refine (infm_any _).mono ?_; rintro e w' ⟨rfl, rfl⟩)))
  go_ret
  exact OpRet.mk HF.out (by repeat (first | exact Below.refl _ _ | refine bdn _ ?_))
set_option maxRecDepth 100000 in
set_option maxHeartbeats 8000000 in
theorem over_zero_zero (x y : Nat) (w : World) (hx : x < 2 ^ 64) (hy : y < 2 ^ 64) (fx : fin x) (mx : mv x = 0) (my : mv y = 0) :
    Calls Tryz.prog 57 #[.float .f64 x, .float .f64 y] w (OpRet (FDiv x y) w) := by
  have FX := finite_any x hx
  have FY := finite_any y hy
  have GX := signbit_any x hx
  have GY := signbit_any y hy
  have fy : fin y := by unfold fin; rw [mv_rg.1 my]; decide
  have nx : ¬ isNan x := by unfold isNan; unfold fin at fx; omega
  rw [decide_eq_true fx] at FX
  have ex := ne_self_false nx
  have ny : ¬ isNan y := by unfold isNan; unfold fin at fy; omega
  rw [decide_eq_true fy] at FY
  have ey := ne_self_false ny
  have ox := order_zeroB x
  have oy := order_zeroB y
  have zx : zeroB x = true := decide_eq_true (mv_rg.1 mx)
  rw [zx] at ox
  have zy : zeroB y = true := decide_eq_true (mv_rg.1 my)
  rw [zy] at oy
  have FX := Lib.hid FX
  have FY := Lib.hid FY
  have GX := Lib.hid GX
  have GY := Lib.hid GY
  have HF : Hid (FDiv x y (9221120237041090561)) := Lib.hid (fdiv_nan (by rw [div_zero fx my, if_pos mx]) nanQ)
  clear hx hy nx ny fx fy mx my zx zy
  go_enter Tryz.func57, Tryz.ntmps57
  go_wp2_with (first | (go_at_call 80; (first | (refine (FX.out _).mono ?_; rintro e w' ⟨rfl, n, rfl⟩) | (refine (FY.out _).mono ?_; rintro e w' ⟨rfl, n, rfl⟩))) | (go_at_call 81; (first | (refine (GX.out _).mono ?_; rintro e w' ⟨rfl, rfl⟩) | (refine (GY.out _).mono ?_; rintro e w' ⟨rfl, rfl⟩))) | (go_at_call 82; refine (mnan_any _).mono ?_; rintro e w' ⟨rfl, rfl⟩) | (go_at_call 87; first | (refine (inf1_any _).mono ?_; rintro e w' ⟨rfl, rfl⟩) | (refine (infm_any _).mono ?_; rintro e w' ⟨rfl, rfl⟩)))
  go_ret
  exact OpRet.mk HF.out (by repeat (first | exact Below.refl _ _ | refine bdn _ ?_))
set_option maxRecDepth 100000 in
set_option maxHeartbeats 8000000 in
theorem over_inf_zero_true_true (x y : Nat) (w : World) (hx : x < 2 ^ 64) (hy : y < 2 ^ 64) (ix : rg x = INF) (fy : fin y) (my : mv y = 0) (sx : sg x = true) (sy : sg y = true) :
    Calls Tryz.prog 57 #[.float .f64 x, .float .f64 y] w (OpRet (FDiv x y) w) := by
  have FX := finite_any x hx
  have FY := finite_any y hy
  have GX := signbit_any x hx
  have GY := signbit_any y hy
  have fx : ¬ fin x := by unfold fin; omega
  have nx : ¬ isNan x := by unfold isNan; omega
  rw [decide_eq_false fx] at FX
  have ex := ne_self_false nx
  have ny : ¬ isNan y := by unfold isNan; unfold fin at fy; omega
  rw [decide_eq_true fy] at FY
  have ey := ne_self_false ny
  rw [sx] at GX
  rw [sy] at GY
  have ox := order_zeroB x
  have oy := order_zeroB y
  have zx : zeroB x = false := decide_eq_false (by rw [ix]; decide)
  rw [zx] at ox
  have zy : zeroB y = true := decide_eq_true (mv_rg.1 my)
  rw [zy] at oy
  have U1 := unary_neg 9218868437227405312 (by decide)
  have U2 := unary_neg 0 (by decide)
  rw [show neg 9218868437227405312 = 18442240474082181120 by decide] at U1
  rw [show neg 0 = 9223372036854775808 by decide] at U2
  have FX := Lib.hid FX
  have FY := Lib.hid FY
  have GX := Lib.hid GX
  have GY := Lib.hid GY
  have HF : Hid (FDiv x y (9218868437227405312)) := Lib.hid (fdiv_of (by rw [div_inf_l ix fy, sx, sy]; decide))
  clear hx hy nx ny fx fy ix my sx sy zx zy
  go_enter Tryz.func57, Tryz.ntmps57
  go_wp2_with (first | (go_at_call 80; (first | (refine (FX.out _).mono ?_; rintro e w' ⟨rfl, n, rfl⟩) | (refine (FY.out _).mono ?_; rintro e w' ⟨rfl, n, rfl⟩))) | (go_at_call 81; (first | (refine (GX.out _).mono ?_; rintro e w' ⟨rfl, rfl⟩) | (refine (GY.out _).mono ?_; rintro e w' ⟨rfl, rfl⟩))) | (go_at_call 82; refine (mnan_any _).mono ?_; rintro e w' ⟨rfl, rfl⟩) | (go_at_call 87; first | (refine (inf1_any _).mono ?_; rintro e w' ⟨rfl, rfl⟩) | (refine (infm_any _).mono ?_; rintro e w' ⟨rfl, rfl⟩)))
  go_ret
  exact OpRet.mk HF.out (by repeat (first | exact Below.refl _ _ | refine bdn _ ?_))
set_option maxRecDepth 100000 in
set_option maxHeartbeats 8000000 in
theorem over_zero_inf_true_true (x y : Nat) (w : World) (hx : x < 2 ^ 64) (hy : y < 2 ^ 64) (fx : fin x) (mx : mv x = 0) (iy : rg y = INF) (sx : sg x = true) (sy : sg y = true) :
    Calls Tryz.prog 57 #[.float .f64 x, .float .f64 y] w (OpRet (FDiv x y) w) := by
  have FX := finite_any x hx
  have FY := finite_any y hy
  have GX := signbit_any x hx
  have GY := signbit_any y hy
  have nx : ¬ isNan x := by unfold isNan; unfold fin at fx; omega
  rw [decide_eq_true fx] at FX
  have ex := ne_self_false nx
  have fy : ¬ fin y := by unfold fin; omega
  have ny : ¬ isNan y := by unfold isNan; omega
  rw [decide_eq_false fy] at FY
  have ey := ne_self_false ny
  rw [sx] at GX
  rw [sy] at GY
  have ox := order_zeroB x
  have oy := order_zeroB y
  have zx : zeroB x = true := decide_eq_true (mv_rg.1 mx)
  rw [zx] at ox
  have zy : zeroB y = false := decide_eq_false (by rw [iy]; decide)
  rw [zy] at oy
  have U1 := unary_neg 9218868437227405312 (by decide)
  have U2 := unary_neg 0 (by decide)
  rw [show neg 9218868437227405312 = 18442240474082181120 by decide] at U1
  rw [show neg 0 = 9223372036854775808 by decide] at U2
  have FX := Lib.hid FX
  have FY := Lib.hid FY
  have GX := Lib.hid GX
  have GY := Lib.hid GY
  have HF : Hid (FDiv x y (0)) := Lib.hid (fdiv_of (by rw [div_inf_r fx iy, sx, sy]; decide))
  clear hx hy nx ny fx fy iy mx sx sy zx zy
  go_enter Tryz.func57, Tryz.ntmps57
  go_wp2_with (first | (go_at_call 80; (first | (refine (FX.out _).mono ?_; rintro e w' ⟨rfl, n, rfl⟩) | (refine (FY.out _).mono ?_; rintro e w' ⟨rfl, n, rfl⟩))) | (go_at_call 81; (first | (refine (GX.out _).mono ?_; rintro e w' ⟨rfl, rfl⟩) | (refine (GY.out _).mono ?_; rintro e w' ⟨rfl, rfl⟩))) | (go_at_call 82; refine (mnan_any _).mono ?_; rintro e w' ⟨rfl, rfl⟩) | (go_at_call 87; first | (refine (inf1_any _).mono ?_; rintro e w' ⟨rfl, rfl⟩) | (refine (infm_any _).mono ?_; rintro e w' ⟨rfl, rfl⟩)))
  go_ret
  exact OpRet.mk HF.out (by repeat (first | exact Below.refl _ _ | refine bdn _ ?_))
set_option maxRecDepth 100000 in
set_option maxHeartbeats 8000000 in
theorem over_inf_fin_true_true (x y : Nat) (w : World) (hx : x < 2 ^ 64) (hy : y < 2 ^ 64) (ix : rg x = INF) (fy : fin y) (my : mv y ≠ 0) (sx : sg x = true) (sy : sg y = true) :
    Calls Tryz.prog 57 #[.float .f64 x, .float .f64 y] w (OpRet (FDiv x y) w) := by
  have FX := finite_any x hx
  have FY := finite_any y hy
  have GX := signbit_any x hx
  have GY := signbit_any y hy
  have fx : ¬ fin x := by unfold fin; omega
  have nx : ¬ isNan x := by unfold isNan; omega
  rw [decide_eq_false fx] at FX
  have ex := ne_self_false nx
  have ny : ¬ isNan y := by unfold isNan; unfold fin at fy; omega
  rw [decide_eq_true fy] at FY
  have ey := ne_self_false ny
  rw [sx] at GX
  rw [sy] at GY
  have ox := order_zeroB x
  have oy := order_zeroB y
  have zx : zeroB x = false := decide_eq_false (by rw [ix]; decide)
  rw [zx] at ox
  have zy : zeroB y = false := decide_eq_false (fun h => my (mv_rg.2 h))
  rw [zy] at oy
  have U1 := unary_neg 9218868437227405312 (by decide)
  have U2 := unary_neg 0 (by decide)
  rw [show neg 9218868437227405312 = 18442240474082181120 by decide] at U1
  rw [show neg 0 = 9223372036854775808 by decide] at U2
  have FX := Lib.hid FX
  have FY := Lib.hid FY
  have GX := Lib.hid GX
  have GY := Lib.hid GY
  have HF : Hid (FDiv x y (9218868437227405312)) := Lib.hid (fdiv_of (by rw [div_inf_l ix fy, sx, sy]; decide))
  clear hx hy nx ny fx fy ix my sx sy zx zy
  go_enter Tryz.func57, Tryz.ntmps57
  go_wp2_with (first | (go_at_call 80; (first | (refine (FX.out _).mono ?_; rintro e w' ⟨rfl, n, rfl⟩) | (refine (FY.out _).mono ?_; rintro e w' ⟨rfl, n, rfl⟩))) | (go_at_call 81; (first | (refine (GX.out _).mono ?_; rintro e w' ⟨rfl, rfl⟩) | (refine (GY.out _).mono ?_; rintro e w' ⟨rfl, rfl⟩))) | (go_at_call 82; refine (mnan_any _).mono ?_; rintro e w' ⟨rfl, rfl⟩) | (go_at_call 87; first | (refine (inf1_any _).mono ?_; rintro e w' ⟨rfl, rfl⟩) | (refine (infm_any _).mono ?_; rintro e w' ⟨rfl, rfl⟩)))
  go_ret
  exact OpRet.mk HF.out (by repeat (first | exact Below.refl _ _ | refine bdn _ ?_))
set_option maxRecDepth 100000 in
set_option maxHeartbeats 8000000 in
theorem over_fin_inf_true_true (x y : Nat) (w : World) (hx : x < 2 ^ 64) (hy : y < 2 ^ 64) (fx : fin x) (mx : mv x ≠ 0) (iy : rg y = INF) (sx : sg x = true) (sy : sg y = true) :
    Calls Tryz.prog 57 #[.float .f64 x, .float .f64 y] w (OpRet (FDiv x y) w) := by
  have FX := finite_any x hx
  have FY := finite_any y hy
  have GX := signbit_any x hx
  have GY := signbit_any y hy
  have nx : ¬ isNan x := by unfold isNan; unfold fin at fx; omega
  rw [decide_eq_true fx] at FX
  have ex := ne_self_false nx
  have fy : ¬ fin y := by unfold fin; omega
  have ny : ¬ isNan y := by unfold isNan; omega
  rw [decide_eq_false fy] at FY
  have ey := ne_self_false ny
  rw [sx] at GX
  rw [sy] at GY
  have ox := order_zeroB x
  have oy := order_zeroB y
  have zx : zeroB x = false := decide_eq_false (fun h => mx (mv_rg.2 h))
  rw [zx] at ox
  have zy : zeroB y = false := decide_eq_false (by rw [iy]; decide)
  rw [zy] at oy
  have U1 := unary_neg 9218868437227405312 (by decide)
  have U2 := unary_neg 0 (by decide)
  rw [show neg 9218868437227405312 = 18442240474082181120 by decide] at U1
  rw [show neg 0 = 9223372036854775808 by decide] at U2
  have FX := Lib.hid FX
  have FY := Lib.hid FY
  have GX := Lib.hid GX
  have GY := Lib.hid GY
  have HF : Hid (FDiv x y (0)) := Lib.hid (fdiv_of (by rw [div_inf_r fx iy, sx, sy]; decide))
  clear hx hy nx ny fx fy iy mx sx sy zx zy
  go_enter Tryz.func57, Tryz.ntmps57
  go_wp2_with (first | (go_at_call 80; (first | (refine (FX.out _).mono ?_; rintro e w' ⟨rfl, n, rfl⟩) | (refine (FY.out _).mono ?_; rintro e w' ⟨rfl, n, rfl⟩))) | (go_at_call 81; (first | (refine (GX.out _).mono ?_; rintro e w' ⟨rfl, rfl⟩) | (refine (GY.out _).mono ?_; rintro e w' ⟨rfl, rfl⟩))) | (go_at_call 82; refine (mnan_any _).mono ?_; rintro e w' ⟨rfl, rfl⟩) | (go_at_call 87; first | (refine (inf1_any _).mono ?_; rintro e w' ⟨rfl, rfl⟩) | (refine (infm_any _).mono ?_; rintro e w' ⟨rfl, rfl⟩)))
  go_ret
  exact OpRet.mk HF.out (by repeat (first | exact Below.refl _ _ | refine bdn _ ?_))
set_option maxRecDepth 100000 in
set_option maxHeartbeats 8000000 in
theorem over_fin_zero_true_true (x y : Nat) (w : World) (hx : x < 2 ^ 64) (hy : y < 2 ^ 64) (fx : fin x) (mx : mv x ≠ 0) (my : mv y = 0) (sx : sg x = true) (sy : sg y = true) :
    Calls Tryz.prog 57 #[.float .f64 x, .float .f64 y] w (OpRet (FDiv x y) w) := by
  have FX := finite_any x hx
  have FY := finite_any y hy
  have GX := signbit_any x hx
  have GY := signbit_any y hy
  have fy : fin y := by unfold fin; rw [mv_rg.1 my]; decide
  have nx : ¬ isNan x := by unfold isNan; unfold fin at fx; omega
  rw [decide_eq_true fx] at FX
  have ex := ne_self_false nx
  have ny : ¬ isNan y := by unfold isNan; unfold fin at fy; omega
  rw [decide_eq_true fy] at FY
  have ey := ne_self_false ny
  rw [sx] at GX
  rw [sy] at GY
  have ox := order_zeroB x
  have oy := order_zeroB y
  have zx : zeroB x = false := decide_eq_false (fun h => mx (mv_rg.2 h))
  rw [zx] at ox
  have zy : zeroB y = true := decide_eq_true (mv_rg.1 my)
  rw [zy] at oy
  have oyn : (FloatKind.f64.format.order y 0 != some Ordering.eq) = false := by unfold bne; rw [oy]; rfl
  have U1 := unary_neg 9218868437227405312 (by decide)
  have U2 := unary_neg 0 (by decide)
  rw [show neg 9218868437227405312 = 18442240474082181120 by decide] at U1
  rw [show neg 0 = 9223372036854775808 by decide] at U2
  have FX := Lib.hid FX
  have FY := Lib.hid FY
  have GX := Lib.hid GX
  have GY := Lib.hid GY
  have HF : Hid (FDiv x y (9218868437227405312)) := Lib.hid (fdiv_of (by rw [div_zero fx my, if_neg mx, sx, sy]; decide))
  clear hx hy nx ny fx fy mx my sx sy zx zy
  go_enter Tryz.func57, Tryz.ntmps57
  go_wp2_with (first | (go_at_call 80; (first | (refine (FX.out _).mono ?_; rintro e w' ⟨rfl, n, rfl⟩) | (refine (FY.out _).mono ?_; rintro e w' ⟨rfl, n, rfl⟩))) | (go_at_call 81; (first | (refine (GX.out _).mono ?_; rintro e w' ⟨rfl, rfl⟩) | (refine (GY.out _).mono ?_; rintro e w' ⟨rfl, rfl⟩))) | (go_at_call 82; refine (mnan_any _).mono ?_; rintro e w' ⟨rfl, rfl⟩) | (go_at_call 87; first | (refine (inf1_any _).mono ?_; rintro e w' ⟨rfl, rfl⟩) | (refine (infm_any _).mono ?_; rintro e w' ⟨rfl, rfl⟩)))
  go_ret
  exact OpRet.mk HF.out (by repeat (first | exact Below.refl _ _ | refine bdn _ ?_))
set_option maxRecDepth 100000 in
set_option maxHeartbeats 8000000 in
theorem over_inf_zero_true_false (x y : Nat) (w : World) (hx : x < 2 ^ 64) (hy : y < 2 ^ 64) (ix : rg x = INF) (fy : fin y) (my : mv y = 0) (sx : sg x = true) (sy : sg y = false) :
    Calls Tryz.prog 57 #[.float .f64 x, .float .f64 y] w (OpRet (FDiv x y) w) := by
  have FX := finite_any x hx
  have FY := finite_any y hy
  have GX := signbit_any x hx
  have GY := signbit_any y hy
  have fx : ¬ fin x := by unfold fin; omega
  have nx : ¬ isNan x := by unfold isNan; omega
  rw [decide_eq_false fx] at FX
  have ex := ne_self_false nx
  have ny : ¬ isNan y := by unfold isNan; unfold fin at fy; omega
  rw [decide_eq_true fy] at FY
  have ey := ne_self_false ny
  rw [sx] at GX
  rw [sy] at GY
  have ox := order_zeroB x
  have oy := order_zeroB y
  have zx : zeroB x = false := decide_eq_false (by rw [ix]; decide)
  rw [zx] at ox
  have zy : zeroB y = true := decide_eq_true (mv_rg.1 my)
  rw [zy] at oy
  have U1 := unary_neg 9218868437227405312 (by decide)
  have U2 := unary_neg 0 (by decide)
  rw [show neg 9218868437227405312 = 18442240474082181120 by decide] at U1
  rw [show neg 0 = 9223372036854775808 by decide] at U2
  have FX := Lib.hid FX
  have FY := Lib.hid FY
  have GX := Lib.hid GX
  have GY := Lib.hid GY
  have HF : Hid (FDiv x y (18442240474082181120)) := Lib.hid (fdiv_of (by rw [div_inf_l ix fy, sx, sy]; decide))
  clear hx hy nx ny fx fy ix my sx sy zx zy
  go_enter Tryz.func57, Tryz.ntmps57
  go_wp2_with (first | (go_at_call 80; (first | (refine (FX.out _).mono ?_; rintro e w' ⟨rfl, n, rfl⟩) | (refine (FY.out _).mono ?_; rintro e w' ⟨rfl, n, rfl⟩))) | (go_at_call 81; (first | (refine (GX.out _).mono ?_; rintro e w' ⟨rfl, rfl⟩) | (refine (GY.out _).mono ?_; rintro e w' ⟨rfl, rfl⟩))) | (go_at_call 82; refine (mnan_any _).mono ?_; rintro e w' ⟨rfl, rfl⟩) | (go_at_call 87; first | (refine (inf1_any _).mono ?_; rintro e w' ⟨rfl, rfl⟩) | (refine (infm_any _).mono ?_; rintro e w' ⟨rfl, rfl⟩)))
  go_ret
  exact OpRet.mk HF.out (by repeat (first | exact Below.refl _ _ | refine bdn _ ?_))
set_option maxRecDepth 100000 in
set_option maxHeartbeats 8000000 in
theorem over_zero_inf_true_false (x y : Nat) (w : World) (hx : x < 2 ^ 64) (hy : y < 2 ^ 64) (fx : fin x) (mx : mv x = 0) (iy : rg y = INF) (sx : sg x = true) (sy : sg y = false) :
    Calls Tryz.prog 57 #[.float .f64 x, .float .f64 y] w (OpRet (FDiv x y) w) := by
  have FX := finite_any x hx
  have FY := finite_any y hy
  have GX := signbit_any x hx
  have GY := signbit_any y hy
  have nx : ¬ isNan x := by unfold isNan; unfold fin at fx; omega
  rw [decide_eq_true fx] at FX
  have ex := ne_self_false nx
  have fy : ¬ fin y := by unfold fin; omega
  have ny : ¬ isNan y := by unfold isNan; omega
  rw [decide_eq_false fy] at FY
  have ey := ne_self_false ny
  rw [sx] at GX
  rw [sy] at GY
  have ox := order_zeroB x
  have oy := order_zeroB y
  have zx : zeroB x = true := decide_eq_true (mv_rg.1 mx)
  rw [zx] at ox
  have zy : zeroB y = false := decide_eq_false (by rw [iy]; decide)
  rw [zy] at oy
  have U1 := unary_neg 9218868437227405312 (by decide)
  have U2 := unary_neg 0 (by decide)
  rw [show neg 9218868437227405312 = 18442240474082181120 by decide] at U1
  rw [show neg 0 = 9223372036854775808 by decide] at U2
  have FX := Lib.hid FX
  have FY := Lib.hid FY
  have GX := Lib.hid GX
  have GY := Lib.hid GY
  have HF : Hid (FDiv x y (9223372036854775808)) := Lib.hid (fdiv_of (by rw [div_inf_r fx iy, sx, sy]; decide))
  clear hx hy nx ny fx fy iy mx sx sy zx zy
  go_enter Tryz.func57, Tryz.ntmps57
  go_wp2_with (first | (go_at_call 80; (first | (refine (FX.out _).mono ?_; rintro e w' ⟨rfl, n, rfl⟩) | (refine (FY.out _).mono ?_; rintro e w' ⟨rfl, n, rfl⟩))) | (go_at_call 81; (first | (refine (GX.out _).mono ?_; rintro e w' ⟨rfl, rfl⟩) | (refine (GY.out _).mono ?_; rintro e w' ⟨rfl, rfl⟩))) | (go_at_call 82; refine (mnan_any _).mono ?_; rintro e w' ⟨rfl, rfl⟩) | (go_at_call 87; first | (refine (inf1_any _).mono ?_; rintro e w' ⟨rfl, rfl⟩) | (refine (infm_any _).mono ?_; rintro e w' ⟨rfl, rfl⟩)))
  go_ret
  exact OpRet.mk HF.out (by repeat (first | exact Below.refl _ _ | refine bdn _ ?_))
set_option maxRecDepth 100000 in
set_option maxHeartbeats 8000000 in
theorem over_inf_fin_true_false (x y : Nat) (w : World) (hx : x < 2 ^ 64) (hy : y < 2 ^ 64) (ix : rg x = INF) (fy : fin y) (my : mv y ≠ 0) (sx : sg x = true) (sy : sg y = false) :
    Calls Tryz.prog 57 #[.float .f64 x, .float .f64 y] w (OpRet (FDiv x y) w) := by
  have FX := finite_any x hx
  have FY := finite_any y hy
  have GX := signbit_any x hx
  have GY := signbit_any y hy
  have fx : ¬ fin x := by unfold fin; omega
  have nx : ¬ isNan x := by unfold isNan; omega
  rw [decide_eq_false fx] at FX
  have ex := ne_self_false nx
  have ny : ¬ isNan y := by unfold isNan; unfold fin at fy; omega
  rw [decide_eq_true fy] at FY
  have ey := ne_self_false ny
  rw [sx] at GX
  rw [sy] at GY
  have ox := order_zeroB x
  have oy := order_zeroB y
  have zx : zeroB x = false := decide_eq_false (by rw [ix]; decide)
  rw [zx] at ox
  have zy : zeroB y = false := decide_eq_false (fun h => my (mv_rg.2 h))
  rw [zy] at oy
  have U1 := unary_neg 9218868437227405312 (by decide)
  have U2 := unary_neg 0 (by decide)
  rw [show neg 9218868437227405312 = 18442240474082181120 by decide] at U1
  rw [show neg 0 = 9223372036854775808 by decide] at U2
  have FX := Lib.hid FX
  have FY := Lib.hid FY
  have GX := Lib.hid GX
  have GY := Lib.hid GY
  have HF : Hid (FDiv x y (18442240474082181120)) := Lib.hid (fdiv_of (by rw [div_inf_l ix fy, sx, sy]; decide))
  clear hx hy nx ny fx fy ix my sx sy zx zy
  go_enter Tryz.func57, Tryz.ntmps57
  go_wp2_with (first | (go_at_call 80; (first | (refine (FX.out _).mono ?_; rintro e w' ⟨rfl, n, rfl⟩) | (refine (FY.out _).mono ?_; rintro e w' ⟨rfl, n, rfl⟩))) | (go_at_call 81; (first | (refine (GX.out _).mono ?_; rintro e w' ⟨rfl, rfl⟩) | (refine (GY.out _).mono ?_; rintro e w' ⟨rfl, rfl⟩))) | (go_at_call 82; refine (mnan_any _).mono ?_; rintro e w' ⟨rfl, rfl⟩) | (go_at_call 87; first | (refine (inf1_any _).mono ?_; rintro e w' ⟨rfl, rfl⟩) | (refine (infm_any _).mono ?_; rintro e w' ⟨rfl, rfl⟩)))
  go_ret
  exact OpRet.mk HF.out (by repeat (first | exact Below.refl _ _ | refine bdn _ ?_))
set_option maxRecDepth 100000 in
set_option maxHeartbeats 8000000 in
theorem over_fin_inf_true_false (x y : Nat) (w : World) (hx : x < 2 ^ 64) (hy : y < 2 ^ 64) (fx : fin x) (mx : mv x ≠ 0) (iy : rg y = INF) (sx : sg x = true) (sy : sg y = false) :
    Calls Tryz.prog 57 #[.float .f64 x, .float .f64 y] w (OpRet (FDiv x y) w) := by
  have FX := finite_any x hx
  have FY := finite_any y hy
  have GX := signbit_any x hx
  have GY := signbit_any y hy
  have nx : ¬ isNan x := by unfold isNan; unfold fin at fx; omega
  rw [decide_eq_true fx] at FX
  have ex := ne_self_false nx
  have fy : ¬ fin y := by unfold fin; omega
  have ny : ¬ isNan y := by unfold isNan; omega
  rw [decide_eq_false fy] at FY
  have ey := ne_self_false ny
  rw [sx] at GX
  rw [sy] at GY
  have ox := order_zeroB x
  have oy := order_zeroB y
  have zx : zeroB x = false := decide_eq_false (fun h => mx (mv_rg.2 h))
  rw [zx] at ox
  have zy : zeroB y = false := decide_eq_false (by rw [iy]; decide)
  rw [zy] at oy
  have U1 := unary_neg 9218868437227405312 (by decide)
  have U2 := unary_neg 0 (by decide)
  rw [show neg 9218868437227405312 = 18442240474082181120 by decide] at U1
  rw [show neg 0 = 9223372036854775808 by decide] at U2
  have FX := Lib.hid FX
  have FY := Lib.hid FY
  have GX := Lib.hid GX
  have GY := Lib.hid GY
  have HF : Hid (FDiv x y (9223372036854775808)) := Lib.hid (fdiv_of (by rw [div_inf_r fx iy, sx, sy]; decide))
  clear hx hy nx ny fx fy iy mx sx sy zx zy
  go_enter Tryz.func57, Tryz.ntmps57
  go_wp2_with (first | (go_at_call 80; (first | (refine (FX.out _).mono ?_; rintro e w' ⟨rfl, n, rfl⟩) | (refine (FY.out _).mono ?_; rintro e w' ⟨rfl, n, rfl⟩))) | (go_at_call 81; (first | (refine (GX.out _).mono ?_; rintro e w' ⟨rfl, rfl⟩) | (refine (GY.out _).mono ?_; rintro e w' ⟨rfl, rfl⟩))) | (go_at_call 82; refine (mnan_any _).mono ?_; rintro e w' ⟨rfl, rfl⟩) | (go_at_call 87; first | (refine (inf1_any _).mono ?_; rintro e w' ⟨rfl, rfl⟩) | (refine (infm_any _).mono ?_; rintro e w' ⟨rfl, rfl⟩)))
  go_ret
  exact OpRet.mk HF.out (by repeat (first | exact Below.refl _ _ | refine bdn _ ?_))
set_option maxRecDepth 100000 in
set_option maxHeartbeats 8000000 in
theorem over_fin_zero_true_false (x y : Nat) (w : World) (hx : x < 2 ^ 64) (hy : y < 2 ^ 64) (fx : fin x) (mx : mv x ≠ 0) (my : mv y = 0) (sx : sg x = true) (sy : sg y = false) :
    Calls Tryz.prog 57 #[.float .f64 x, .float .f64 y] w (OpRet (FDiv x y) w) := by
  have FX := finite_any x hx
  have FY := finite_any y hy
  have GX := signbit_any x hx
  have GY := signbit_any y hy
  have fy : fin y := by unfold fin; rw [mv_rg.1 my]; decide
  have nx : ¬ isNan x := by unfold isNan; unfold fin at fx; omega
  rw [decide_eq_true fx] at FX
  have ex := ne_self_false nx
  have ny : ¬ isNan y := by unfold isNan; unfold fin at fy; omega
  rw [decide_eq_true fy] at FY
  have ey := ne_self_false ny
  rw [sx] at GX
  rw [sy] at GY
  have ox := order_zeroB x
  have oy := order_zeroB y
  have zx : zeroB x = false := decide_eq_false (fun h => mx (mv_rg.2 h))
  rw [zx] at ox
  have zy : zeroB y = true := decide_eq_true (mv_rg.1 my)
  rw [zy] at oy
  have oyn : (FloatKind.f64.format.order y 0 != some Ordering.eq) = false := by unfold bne; rw [oy]; rfl
  have U1 := unary_neg 9218868437227405312 (by decide)
  have U2 := unary_neg 0 (by decide)
  rw [show neg 9218868437227405312 = 18442240474082181120 by decide] at U1
  rw [show neg 0 = 9223372036854775808 by decide] at U2
  have FX := Lib.hid FX
  have FY := Lib.hid FY
  have GX := Lib.hid GX
  have GY := Lib.hid GY
  have HF : Hid (FDiv x y (18442240474082181120)) := Lib.hid (fdiv_of (by rw [div_zero fx my, if_neg mx, sx, sy]; decide))
  clear hx hy nx ny fx fy mx my sx sy zx zy
  go_enter Tryz.func57, Tryz.ntmps57
  go_wp2_with (first | (go_at_call 80; (first | (refine (FX.out _).mono ?_; rintro e w' ⟨rfl, n, rfl⟩) | (refine (FY.out _).mono ?_; rintro e w' ⟨rfl, n, rfl⟩))) | (go_at_call 81; (first | (refine (GX.out _).mono ?_; rintro e w' ⟨rfl, rfl⟩) | (refine (GY.out _).mono ?_; rintro e w' ⟨rfl, rfl⟩))) | (go_at_call 82; refine (mnan_any _).mono ?_; rintro e w' ⟨rfl, rfl⟩) | (go_at_call 87; first | (refine (inf1_any _).mono ?_; rintro e w' ⟨rfl, rfl⟩) | (refine (infm_any _).mono ?_; rintro e w' ⟨rfl, rfl⟩)))
  go_ret
  exact OpRet.mk HF.out (by repeat (first | exact Below.refl _ _ | refine bdn _ ?_))
set_option maxRecDepth 100000 in
set_option maxHeartbeats 8000000 in
theorem over_inf_zero_false_true (x y : Nat) (w : World) (hx : x < 2 ^ 64) (hy : y < 2 ^ 64) (ix : rg x = INF) (fy : fin y) (my : mv y = 0) (sx : sg x = false) (sy : sg y = true) :
    Calls Tryz.prog 57 #[.float .f64 x, .float .f64 y] w (OpRet (FDiv x y) w) := by
  have FX := finite_any x hx
  have FY := finite_any y hy
  have GX := signbit_any x hx
  have GY := signbit_any y hy
  have fx : ¬ fin x := by unfold fin; omega
  have nx : ¬ isNan x := by unfold isNan; omega
  rw [decide_eq_false fx] at FX
  have ex := ne_self_false nx
  have ny : ¬ isNan y := by unfold isNan; unfold fin at fy; omega
  rw [decide_eq_true fy] at FY
  have ey := ne_self_false ny
  rw [sx] at GX
  rw [sy] at GY
  have ox := order_zeroB x
  have oy := order_zeroB y
  have zx : zeroB x = false := decide_eq_false (by rw [ix]; decide)
  rw [zx] at ox
  have zy : zeroB y = true := decide_eq_true (mv_rg.1 my)
  rw [zy] at oy
  have U1 := unary_neg 9218868437227405312 (by decide)
  have U2 := unary_neg 0 (by decide)
  rw [show neg 9218868437227405312 = 18442240474082181120 by decide] at U1
  rw [show neg 0 = 9223372036854775808 by decide] at U2
  have FX := Lib.hid FX
  have FY := Lib.hid FY
  have GX := Lib.hid GX
  have GY := Lib.hid GY
  have HF : Hid (FDiv x y (18442240474082181120)) := Lib.hid (fdiv_of (by rw [div_inf_l ix fy, sx, sy]; decide))
  clear hx hy nx ny fx fy ix my sx sy zx zy
  go_enter Tryz.func57, Tryz.ntmps57
  go_wp2_with (first | (go_at_call 80; (first | (refine (FX.out _).mono ?_; rintro e w' ⟨rfl, n, rfl⟩) | (refine (FY.out _).mono ?_; rintro e w' ⟨rfl, n, rfl⟩))) | (go_at_call 81; (first | (refine (GX.out _).mono ?_; rintro e w' ⟨rfl, rfl⟩) | (refine (GY.out _).mono ?_; rintro e w' ⟨rfl, rfl⟩))) | (go_at_call 82; refine (mnan_any _).mono ?_; rintro e w' ⟨rfl, rfl⟩) | (go_at_call 87; first | (refine (inf1_any _).mono ?_; rintro e w' ⟨rfl, rfl⟩) | (refine (infm_any _).mono ?_; rintro e w' ⟨rfl, rfl⟩)))
  go_ret
  exact OpRet.mk HF.out (by repeat (first | exact Below.refl _ _ | refine bdn _ ?_))
set_option maxRecDepth 100000 in
set_option maxHeartbeats 8000000 in
theorem over_zero_inf_false_true (x y : Nat) (w : World) (hx : x < 2 ^ 64) (hy : y < 2 ^ 64) (fx : fin x) (mx : mv x = 0) (iy : rg y = INF) (sx : sg x = false) (sy : sg y = true) :
    Calls Tryz.prog 57 #[.float .f64 x, .float .f64 y] w (OpRet (FDiv x y) w) := by
  have FX := finite_any x hx
  have FY := finite_any y hy
  have GX := signbit_any x hx
  have GY := signbit_any y hy
  have nx : ¬ isNan x := by unfold isNan; unfold fin at fx; omega
  rw [decide_eq_true fx] at FX
  have ex := ne_self_false nx
  have fy : ¬ fin y := by unfold fin; omega
  have ny : ¬ isNan y := by unfold isNan; omega
  rw [decide_eq_false fy] at FY
  have ey := ne_self_false ny
  rw [sx] at GX
  rw [sy] at GY
  have ox := order_zeroB x
  have oy := order_zeroB y
  have zx : zeroB x = true := decide_eq_true (mv_rg.1 mx)
  rw [zx] at ox
  have zy : zeroB y = false := decide_eq_false (by rw [iy]; decide)
  rw [zy] at oy
  have U1 := unary_neg 9218868437227405312 (by decide)
  have U2 := unary_neg 0 (by decide)
  rw [show neg 9218868437227405312 = 18442240474082181120 by decide] at U1
  rw [show neg 0 = 9223372036854775808 by decide] at U2
  have FX := Lib.hid FX
  have FY := Lib.hid FY
  have GX := Lib.hid GX
  have GY := Lib.hid GY
  have HF : Hid (FDiv x y (9223372036854775808)) := Lib.hid (fdiv_of (by rw [div_inf_r fx iy, sx, sy]; decide))
  clear hx hy nx ny fx fy iy mx sx sy zx zy
  go_enter Tryz.func57, Tryz.ntmps57
  go_wp2_with (first | (go_at_call 80; (first | (refine (FX.out _).mono ?_; rintro e w' ⟨rfl, n, rfl⟩) | (refine (FY.out _).mono ?_; rintro e w' ⟨rfl, n, rfl⟩))) | (go_at_call 81; (first | (refine (GX.out _).mono ?_; rintro e w' ⟨rfl, rfl⟩) | (refine (GY.out _).mono ?_; rintro e w' ⟨rfl, rfl⟩))) | (go_at_call 82; refine (mnan_any _).mono ?_; rintro e w' ⟨rfl, rfl⟩) | (go_at_call 87; first | (refine (inf1_any _).mono ?_; rintro e w' ⟨rfl, rfl⟩) | (refine (infm_any _).mono ?_; rintro e w' ⟨rfl, rfl⟩)))
  go_ret
  exact OpRet.mk HF.out (by repeat (first | exact Below.refl _ _ | refine bdn _ ?_))
set_option maxRecDepth 100000 in
set_option maxHeartbeats 8000000 in
theorem over_inf_fin_false_true (x y : Nat) (w : World) (hx : x < 2 ^ 64) (hy : y < 2 ^ 64) (ix : rg x = INF) (fy : fin y) (my : mv y ≠ 0) (sx : sg x = false) (sy : sg y = true) :
    Calls Tryz.prog 57 #[.float .f64 x, .float .f64 y] w (OpRet (FDiv x y) w) := by
  have FX := finite_any x hx
  have FY := finite_any y hy
  have GX := signbit_any x hx
  have GY := signbit_any y hy
  have fx : ¬ fin x := by unfold fin; omega
  have nx : ¬ isNan x := by unfold isNan; omega
  rw [decide_eq_false fx] at FX
  have ex := ne_self_false nx
  have ny : ¬ isNan y := by unfold isNan; unfold fin at fy; omega
  rw [decide_eq_true fy] at FY
  have ey := ne_self_false ny
  rw [sx] at GX
  rw [sy] at GY
  have ox := order_zeroB x
  have oy := order_zeroB y
  have zx : zeroB x = false := decide_eq_false (by rw [ix]; decide)
  rw [zx] at ox
  have zy : zeroB y = false := decide_eq_false (fun h => my (mv_rg.2 h))
  rw [zy] at oy
  have U1 := unary_neg 9218868437227405312 (by decide)
  have U2 := unary_neg 0 (by decide)
  rw [show neg 9218868437227405312 = 18442240474082181120 by decide] at U1
  rw [show neg 0 = 9223372036854775808 by decide] at U2
  have FX := Lib.hid FX
  have FY := Lib.hid FY
  have GX := Lib.hid GX
  have GY := Lib.hid GY
  have HF : Hid (FDiv x y (18442240474082181120)) := Lib.hid (fdiv_of (by rw [div_inf_l ix fy, sx, sy]; decide))
  clear hx hy nx ny fx fy ix my sx sy zx zy
  go_enter Tryz.func57, Tryz.ntmps57
  go_wp2_with (first | (go_at_call 80; (first | (refine (FX.out _).mono ?_; rintro e w' ⟨rfl, n, rfl⟩) | (refine (FY.out _).mono ?_; rintro e w' ⟨rfl, n, rfl⟩))) | (go_at_call 81; (first | (refine (GX.out _).mono ?_; rintro e w' ⟨rfl, rfl⟩) | (refine (GY.out _).mono ?_; rintro e w' ⟨rfl, rfl⟩))) | (go_at_call 82; refine (mnan_any _).mono ?_; rintro e w' ⟨rfl, rfl⟩) | (go_at_call 87; first | (refine (inf1_any _).mono ?_; rintro e w' ⟨rfl, rfl⟩) | (refine (infm_any _).mono ?_; rintro e w' ⟨rfl, rfl⟩)))
  go_ret
  exact OpRet.mk HF.out (by repeat (first | exact Below.refl _ _ | refine bdn _ ?_))
set_option maxRecDepth 100000 in
set_option maxHeartbeats 8000000 in
theorem over_fin_inf_false_true (x y : Nat) (w : World) (hx : x < 2 ^ 64) (hy : y < 2 ^ 64) (fx : fin x) (mx : mv x ≠ 0) (iy : rg y = INF) (sx : sg x = false) (sy : sg y = true) :
    Calls Tryz.prog 57 #[.float .f64 x, .float .f64 y] w (OpRet (FDiv x y) w) := by
  have FX := finite_any x hx
  have FY := finite_any y hy
  have GX := signbit_any x hx
  have GY := signbit_any y hy
  have nx : ¬ isNan x := by unfold isNan; unfold fin at fx; omega
  rw [decide_eq_true fx] at FX
  have ex := ne_self_false nx
  have fy : ¬ fin y := by unfold fin; omega
  have ny : ¬ isNan y := by unfold isNan; omega
  rw [decide_eq_false fy] at FY
  have ey := ne_self_false ny
  rw [sx] at GX
  rw [sy] at GY
  have ox := order_zeroB x
  have oy := order_zeroB y
  have zx : zeroB x = false := decide_eq_false (fun h => mx (mv_rg.2 h))
  rw [zx] at ox
  have zy : zeroB y = false := decide_eq_false (by rw [iy]; decide)
  rw [zy] at oy
  have U1 := unary_neg 9218868437227405312 (by decide)
  have U2 := unary_neg 0 (by decide)
  rw [show neg 9218868437227405312 = 18442240474082181120 by decide] at U1
  rw [show neg 0 = 9223372036854775808 by decide] at U2
  have FX := Lib.hid FX
  have FY := Lib.hid FY
  have GX := Lib.hid GX
  have GY := Lib.hid GY
  have HF : Hid (FDiv x y (9223372036854775808)) := Lib.hid (fdiv_of (by rw [div_inf_r fx iy, sx, sy]; decide))
  clear hx hy nx ny fx fy iy mx sx sy zx zy
  go_enter Tryz.func57, Tryz.ntmps57
  go_wp2_with (first | (go_at_call 80; (first | (refine (FX.out _).mono ?_; rintro e w' ⟨rfl, n, rfl⟩) | (refine (FY.out _).mono ?_; rintro e w' ⟨rfl, n, rfl⟩))) | (go_at_call 81; (first | (refine (GX.out _).mono ?_; rintro e w' ⟨rfl, rfl⟩) | (refine (GY.out _).mono ?_; rintro e w' ⟨rfl, rfl⟩))) | (go_at_call 82; refine (mnan_any _).mono ?_; rintro e w' ⟨rfl, rfl⟩) | (go_at_call 87; first | (refine (inf1_any _).mono ?_; rintro e w' ⟨rfl, rfl⟩) | (refine (infm_any _).mono ?_; rintro e w' ⟨rfl, rfl⟩)))
  go_ret
  exact OpRet.mk HF.out (by repeat (first | exact Below.refl _ _ | refine bdn _ ?_))
set_option maxRecDepth 100000 in
set_option maxHeartbeats 8000000 in
theorem over_fin_zero_false_true (x y : Nat) (w : World) (hx : x < 2 ^ 64) (hy : y < 2 ^ 64) (fx : fin x) (mx : mv x ≠ 0) (my : mv y = 0) (sx : sg x = false) (sy : sg y = true) :
    Calls Tryz.prog 57 #[.float .f64 x, .float .f64 y] w (OpRet (FDiv x y) w) := by
  have FX := finite_any x hx
  have FY := finite_any y hy
  have GX := signbit_any x hx
  have GY := signbit_any y hy
  have fy : fin y := by unfold fin; rw [mv_rg.1 my]; decide
  have nx : ¬ isNan x := by unfold isNan; unfold fin at fx; omega
  rw [decide_eq_true fx] at FX
  have ex := ne_self_false nx
  have ny : ¬ isNan y := by unfold isNan; unfold fin at fy; omega
  rw [decide_eq_true fy] at FY
  have ey := ne_self_false ny
  rw [sx] at GX
  rw [sy] at GY
  have ox := order_zeroB x
  have oy := order_zeroB y
  have zx : zeroB x = false := decide_eq_false (fun h => mx (mv_rg.2 h))
  rw [zx] at ox
  have zy : zeroB y = true := decide_eq_true (mv_rg.1 my)
  rw [zy] at oy
  have oyn : (FloatKind.f64.format.order y 0 != some Ordering.eq) = false := by unfold bne; rw [oy]; rfl
  have U1 := unary_neg 9218868437227405312 (by decide)
  have U2 := unary_neg 0 (by decide)
  rw [show neg 9218868437227405312 = 18442240474082181120 by decide] at U1
  rw [show neg 0 = 9223372036854775808 by decide] at U2
  have FX := Lib.hid FX
  have FY := Lib.hid FY
  have GX := Lib.hid GX
  have GY := Lib.hid GY
  have HF : Hid (FDiv x y (18442240474082181120)) := Lib.hid (fdiv_of (by rw [div_zero fx my, if_neg mx, sx, sy]; decide))
  clear hx hy nx ny fx fy mx my sx sy zx zy
  go_enter Tryz.func57, Tryz.ntmps57
  go_wp2_with (first | (go_at_call 80; (first | (refine (FX.out _).mono ?_; rintro e w' ⟨rfl, n, rfl⟩) | (refine (FY.out _).mono ?_; rintro e w' ⟨rfl, n, rfl⟩))) | (go_at_call 81; (first | (refine (GX.out _).mono ?_; rintro e w' ⟨rfl, rfl⟩) | (refine (GY.out _).mono ?_; rintro e w' ⟨rfl, rfl⟩))) | (go_at_call 82; refine (mnan_any _).mono ?_; rintro e w' ⟨rfl, rfl⟩) | (go_at_call 87; first | (refine (inf1_any _).mono ?_; rintro e w' ⟨rfl, rfl⟩) | (refine (infm_any _).mono ?_; rintro e w' ⟨rfl, rfl⟩)))
  go_ret
  exact OpRet.mk HF.out (by repeat (first | exact Below.refl _ _ | refine bdn _ ?_))
set_option maxRecDepth 100000 in
set_option maxHeartbeats 8000000 in
theorem over_inf_zero_false_false (x y : Nat) (w : World) (hx : x < 2 ^ 64) (hy : y < 2 ^ 64) (ix : rg x = INF) (fy : fin y) (my : mv y = 0) (sx : sg x = false) (sy : sg y = false) :
    Calls Tryz.prog 57 #[.float .f64 x, .float .f64 y] w (OpRet (FDiv x y) w) := by
  have FX := finite_any x hx
  have FY := finite_any y hy
  have GX := signbit_any x hx
  have GY := signbit_any y hy
  have fx : ¬ fin x := by unfold fin; omega
  have nx : ¬ isNan x := by unfold isNan; omega
  rw [decide_eq_false fx] at FX
  have ex := ne_self_false nx
  have ny : ¬ isNan y := by unfold isNan; unfold fin at fy; omega
  rw [decide_eq_true fy] at FY
  have ey := ne_self_false ny
  rw [sx] at GX
  rw [sy] at GY
  have ox := order_zeroB x
  have oy := order_zeroB y
  have zx : zeroB x = false := decide_eq_false (by rw [ix]; decide)
  rw [zx] at ox
  have zy : zeroB y = true := decide_eq_true (mv_rg.1 my)
  rw [zy] at oy
  have U1 := unary_neg 9218868437227405312 (by decide)
  have U2 := unary_neg 0 (by decide)
  rw [show neg 9218868437227405312 = 18442240474082181120 by decide] at U1
  rw [show neg 0 = 9223372036854775808 by decide] at U2
  have FX := Lib.hid FX
  have FY := Lib.hid FY
  have GX := Lib.hid GX
  have GY := Lib.hid GY
  have HF : Hid (FDiv x y (9218868437227405312)) := Lib.hid (fdiv_of (by rw [div_inf_l ix fy, sx, sy]; decide))
  clear hx hy nx ny fx fy ix my sx sy zx zy
  go_enter Tryz.func57, Tryz.ntmps57
  go_wp2_with (first | (go_at_call 80; (first | (refine (FX.out _).mono ?_; rintro e w' ⟨rfl, n, rfl⟩) | (refine (FY.out _).mono ?_; rintro e w' ⟨rfl, n, rfl⟩))) | (go_at_call 81; (first | (refine (GX.out _).mono ?_; rintro e w' ⟨rfl, rfl⟩) | (refine (GY.out _).mono ?_; rintro e w' ⟨rfl, rfl⟩))) | (go_at_call 82; refine (mnan_any _).mono ?_; rintro e w' ⟨rfl, rfl⟩) | (go_at_call 87; first | (refine (inf1_any _).mono ?_; rintro e w' ⟨rfl, rfl⟩) | (refine (infm_any _).mono ?_; rintro e w' ⟨rfl, rfl⟩)))
  go_ret
  exact OpRet.mk HF.out (by repeat (first | exact Below.refl _ _ | refine bdn _ ?_))
set_option maxRecDepth 100000 in
set_option maxHeartbeats 8000000 in
theorem over_zero_inf_false_false (x y : Nat) (w : World) (hx : x < 2 ^ 64) (hy : y < 2 ^ 64) (fx : fin x) (mx : mv x = 0) (iy : rg y = INF) (sx : sg x = false) (sy : sg y = false) :
    Calls Tryz.prog 57 #[.float .f64 x, .float .f64 y] w (OpRet (FDiv x y) w) := by
  have FX := finite_any x hx
  have FY := finite_any y hy
  have GX := signbit_any x hx
  have GY := signbit_any y hy
  have nx : ¬ isNan x := by unfold isNan; unfold fin at fx; omega
  rw [decide_eq_true fx] at FX
  have ex := ne_self_false nx
  have fy : ¬ fin y := by unfold fin; omega
  have ny : ¬ isNan y := by unfold isNan; omega
  rw [decide_eq_false fy] at FY
  have ey := ne_self_false ny
  rw [sx] at GX
  rw [sy] at GY
  have ox := order_zeroB x
  have oy := order_zeroB y
  have zx : zeroB x = true := decide_eq_true (mv_rg.1 mx)
  rw [zx] at ox
  have zy : zeroB y = false := decide_eq_false (by rw [iy]; decide)
  rw [zy] at oy
  have U1 := unary_neg 9218868437227405312 (by decide)
  have U2 := unary_neg 0 (by decide)
  rw [show neg 9218868437227405312 = 18442240474082181120 by decide] at U1
  rw [show neg 0 = 9223372036854775808 by decide] at U2
  have FX := Lib.hid FX
  have FY := Lib.hid FY
  have GX := Lib.hid GX
  have GY := Lib.hid GY
  have HF : Hid (FDiv x y (0)) := Lib.hid (fdiv_of (by rw [div_inf_r fx iy, sx, sy]; decide))
  clear hx hy nx ny fx fy iy mx sx sy zx zy
  go_enter Tryz.func57, Tryz.ntmps57
  go_wp2_with (first | (go_at_call 80; (first | (refine (FX.out _).mono ?_; rintro e w' ⟨rfl, n, rfl⟩) | (refine (FY.out _).mono ?_; rintro e w' ⟨rfl, n, rfl⟩))) | (go_at_call 81; (first | (refine (GX.out _).mono ?_; rintro e w' ⟨rfl, rfl⟩) | (refine (GY.out _).mono ?_; rintro e w' ⟨rfl, rfl⟩))) | (go_at_call 82; refine (mnan_any _).mono ?_; rintro e w' ⟨rfl, rfl⟩) | (go_at_call 87; first | (refine (inf1_any _).mono ?_; rintro e w' ⟨rfl, rfl⟩) | (refine (infm_any _).mono ?_; rintro e w' ⟨rfl, rfl⟩)))
  go_ret
  exact OpRet.mk HF.out (by repeat (first | exact Below.refl _ _ | refine bdn _ ?_))
set_option maxRecDepth 100000 in
set_option maxHeartbeats 8000000 in
theorem over_inf_fin_false_false (x y : Nat) (w : World) (hx : x < 2 ^ 64) (hy : y < 2 ^ 64) (ix : rg x = INF) (fy : fin y) (my : mv y ≠ 0) (sx : sg x = false) (sy : sg y = false) :
    Calls Tryz.prog 57 #[.float .f64 x, .float .f64 y] w (OpRet (FDiv x y) w) := by
  have FX := finite_any x hx
  have FY := finite_any y hy
  have GX := signbit_any x hx
  have GY := signbit_any y hy
  have fx : ¬ fin x := by unfold fin; omega
  have nx : ¬ isNan x := by unfold isNan; omega
  rw [decide_eq_false fx] at FX
  have ex := ne_self_false nx
  have ny : ¬ isNan y := by unfold isNan; unfold fin at fy; omega
  rw [decide_eq_true fy] at FY
  have ey := ne_self_false ny
  rw [sx] at GX
  rw [sy] at GY
  have ox := order_zeroB x
  have oy := order_zeroB y
  have zx : zeroB x = false := decide_eq_false (by rw [ix]; decide)
  rw [zx] at ox
  have zy : zeroB y = false := decide_eq_false (fun h => my (mv_rg.2 h))
  rw [zy] at oy
  have U1 := unary_neg 9218868437227405312 (by decide)
  have U2 := unary_neg 0 (by decide)
  rw [show neg 9218868437227405312 = 18442240474082181120 by decide] at U1
  rw [show neg 0 = 9223372036854775808 by decide] at U2
  have FX := Lib.hid FX
  have FY := Lib.hid FY
  have GX := Lib.hid GX
  have GY := Lib.hid GY
  have HF : Hid (FDiv x y (9218868437227405312)) := Lib.hid (fdiv_of (by rw [div_inf_l ix fy, sx, sy]; decide))
  clear hx hy nx ny fx fy ix my sx sy zx zy
  go_enter Tryz.func57, Tryz.ntmps57
  go_wp2_with (first | (go_at_call 80; (first | (refine (FX.out _).mono ?_; rintro e w' ⟨rfl, n, rfl⟩) | (refine (FY.out _).mono ?_; rintro e w' ⟨rfl, n, rfl⟩))) | (go_at_call 81; (first | (refine (GX.out _).mono ?_; rintro e w' ⟨rfl, rfl⟩) | (refine (GY.out _).mono ?_; rintro e w' ⟨rfl, rfl⟩))) | (go_at_call 82; refine (mnan_any _).mono ?_; rintro e w' ⟨rfl, rfl⟩) | (go_at_call 87; first | (refine (inf1_any _).mono ?_; rintro e w' ⟨rfl, rfl⟩) | (refine (infm_any _).mono ?_; rintro e w' ⟨rfl, rfl⟩)))
  go_ret
  exact OpRet.mk HF.out (by repeat (first | exact Below.refl _ _ | refine bdn _ ?_))
set_option maxRecDepth 100000 in
set_option maxHeartbeats 8000000 in
theorem over_fin_inf_false_false (x y : Nat) (w : World) (hx : x < 2 ^ 64) (hy : y < 2 ^ 64) (fx : fin x) (mx : mv x ≠ 0) (iy : rg y = INF) (sx : sg x = false) (sy : sg y = false) :
    Calls Tryz.prog 57 #[.float .f64 x, .float .f64 y] w (OpRet (FDiv x y) w) := by
  have FX := finite_any x hx
  have FY := finite_any y hy
  have GX := signbit_any x hx
  have GY := signbit_any y hy
  have nx : ¬ isNan x := by unfold isNan; unfold fin at fx; omega
  rw [decide_eq_true fx] at FX
  have ex := ne_self_false nx
  have fy : ¬ fin y := by unfold fin; omega
  have ny : ¬ isNan y := by unfold isNan; omega
  rw [decide_eq_false fy] at FY
  have ey := ne_self_false ny
  rw [sx] at GX
  rw [sy] at GY
  have ox := order_zeroB x
  have oy := order_zeroB y
  have zx : zeroB x = false := decide_eq_false (fun h => mx (mv_rg.2 h))
  rw [zx] at ox
  have zy : zeroB y = false := decide_eq_false (by rw [iy]; decide)
  rw [zy] at oy
  have U1 := unary_neg 9218868437227405312 (by decide)
  have U2 := unary_neg 0 (by decide)
  rw [show neg 9218868437227405312 = 18442240474082181120 by decide] at U1
  rw [show neg 0 = 9223372036854775808 by decide] at U2
  have FX := Lib.hid FX
  have FY := Lib.hid FY
  have GX := Lib.hid GX
  have GY := Lib.hid GY
  have HF : Hid (FDiv x y (0)) := Lib.hid (fdiv_of (by rw [div_inf_r fx iy, sx, sy]; decide))
  clear hx hy nx ny fx fy iy mx sx sy zx zy
  go_enter Tryz.func57, Tryz.ntmps57
  go_wp2_with (first | (go_at_call 80; (first | (refine (FX.out _).mono ?_; rintro e w' ⟨rfl, n, rfl⟩) | (refine (FY.out _).mono ?_; rintro e w' ⟨rfl, n, rfl⟩))) | (go_at_call 81; (first | (refine (GX.out _).mono ?_; rintro e w' ⟨rfl, rfl⟩) | (refine (GY.out _).mono ?_; rintro e w' ⟨rfl, rfl⟩))) | (go_at_call 82; refine (mnan_any _).mono ?_; rintro e w' ⟨rfl, rfl⟩) | (go_at_call 87; first | (refine (inf1_any _).mono ?_; rintro e w' ⟨rfl, rfl⟩) | (refine (infm_any _).mono ?_; rintro e w' ⟨rfl, rfl⟩)))
  go_ret
  exact OpRet.mk HF.out (by repeat (first | exact Below.refl _ _ | refine bdn _ ?_))
set_option maxRecDepth 100000 in
set_option maxHeartbeats 8000000 in
theorem over_fin_zero_false_false (x y : Nat) (w : World) (hx : x < 2 ^ 64) (hy : y < 2 ^ 64) (fx : fin x) (mx : mv x ≠ 0) (my : mv y = 0) (sx : sg x = false) (sy : sg y = false) :
    Calls Tryz.prog 57 #[.float .f64 x, .float .f64 y] w (OpRet (FDiv x y) w) := by
  have FX := finite_any x hx
  have FY := finite_any y hy
  have GX := signbit_any x hx
  have GY := signbit_any y hy
  have fy : fin y := by unfold fin; rw [mv_rg.1 my]; decide
  have nx : ¬ isNan x := by unfold isNan; unfold fin at fx; omega
  rw [decide_eq_true fx] at FX
  have ex := ne_self_false nx
  have ny : ¬ isNan y := by unfold isNan; unfold fin at fy; omega
  rw [decide_eq_true fy] at FY
  have ey := ne_self_false ny
  rw [sx] at GX
  rw [sy] at GY
  have ox := order_zeroB x
  have oy := order_zeroB y
  have zx : zeroB x = false := decide_eq_false (fun h => mx (mv_rg.2 h))
  rw [zx] at ox
  have zy : zeroB y = true := decide_eq_true (mv_rg.1 my)
  rw [zy] at oy
  have oyn : (FloatKind.f64.format.order y 0 != some Ordering.eq) = false := by unfold bne; rw [oy]; rfl
  have U1 := unary_neg 9218868437227405312 (by decide)
  have U2 := unary_neg 0 (by decide)
  rw [show neg 9218868437227405312 = 18442240474082181120 by decide] at U1
  rw [show neg 0 = 9223372036854775808 by decide] at U2
  have FX := Lib.hid FX
  have FY := Lib.hid FY
  have GX := Lib.hid GX
  have GY := Lib.hid GY
  have HF : Hid (FDiv x y (9218868437227405312)) := Lib.hid (fdiv_of (by rw [div_zero fx my, if_neg mx, sx, sy]; decide))
  clear hx hy nx ny fx fy mx my sx sy zx zy
  go_enter Tryz.func57, Tryz.ntmps57
  go_wp2_with (first | (go_at_call 80; (first | (refine (FX.out _).mono ?_; rintro e w' ⟨rfl, n, rfl⟩) | (refine (FY.out _).mono ?_; rintro e w' ⟨rfl, n, rfl⟩))) | (go_at_call 81; (first | (refine (GX.out _).mono ?_; rintro e w' ⟨rfl, rfl⟩) | (refine (GY.out _).mono ?_; rintro e w' ⟨rfl, rfl⟩))) | (go_at_call 82; refine (mnan_any _).mono ?_; rintro e w' ⟨rfl, rfl⟩) | (go_at_call 87; first | (refine (inf1_any _).mono ?_; rintro e w' ⟨rfl, rfl⟩) | (refine (infm_any _).mono ?_; rintro e w' ⟨rfl, rfl⟩)))
  go_ret
  exact OpRet.mk HF.out (by repeat (first | exact Below.refl _ _ | refine bdn _ ?_))
/-- surdref5.over -/
theorem over_any (x y : Nat) (w : World) (hx : x < 2 ^ 64) (hy : y < 2 ^ 64) :
    Calls Tryz.prog 57 #[.float .f64 x, .float .f64 y] w (OpRet (FDiv x y) w) := by
  rcases cases3 x with cx | cx | cx
  · rcases cases3 y with cy | cy | cy
    · by_cases my : mv y = 0
      · by_cases mx : mv x = 0
        · exact over_zero_zero x y w hx hy cx mx my
        · cases sx : sg x <;> cases sy : sg y
          · exact over_fin_zero_false_false x y w hx hy cx mx my sx sy
          · exact over_fin_zero_false_true x y w hx hy cx mx my sx sy
          · exact over_fin_zero_true_false x y w hx hy cx mx my sx sy
          · exact over_fin_zero_true_true x y w hx hy cx mx my sx sy
      · exact over_fin x y w hx hy cx cy my
    · by_cases mx : mv x = 0
      · cases sx : sg x <;> cases sy : sg y
        · exact over_zero_inf_false_false x y w hx hy cx mx cy sx sy
        · exact over_zero_inf_false_true x y w hx hy cx mx cy sx sy
        · exact over_zero_inf_true_false x y w hx hy cx mx cy sx sy
        · exact over_zero_inf_true_true x y w hx hy cx mx cy sx sy
      · cases sx : sg x <;> cases sy : sg y
        · exact over_fin_inf_false_false x y w hx hy cx mx cy sx sy
        · exact over_fin_inf_false_true x y w hx hy cx mx cy sx sy
        · exact over_fin_inf_true_false x y w hx hy cx mx cy sx sy
        · exact over_fin_inf_true_true x y w hx hy cx mx cy sx sy
    · exact over_nan_r_fin x y w hx hy cx cy
  · rcases cases3 y with cy | cy | cy
    · by_cases my : mv y = 0
      · cases sx : sg x <;> cases sy : sg y
        · exact over_inf_zero_false_false x y w hx hy cx cy my sx sy
        · exact over_inf_zero_false_true x y w hx hy cx cy my sx sy
        · exact over_inf_zero_true_false x y w hx hy cx cy my sx sy
        · exact over_inf_zero_true_true x y w hx hy cx cy my sx sy
      · cases sx : sg x <;> cases sy : sg y
        · exact over_inf_fin_false_false x y w hx hy cx cy my sx sy
        · exact over_inf_fin_false_true x y w hx hy cx cy my sx sy
        · exact over_inf_fin_true_false x y w hx hy cx cy my sx sy
        · exact over_inf_fin_true_true x y w hx hy cx cy my sx sy
    · exact over_inf_inf x y w hx hy cx cy
    · exact over_nan_r_inf x y w hx hy cx cy
  · exact over_nan_l x y w hx hy cx
end Go.Proofs.YtokmommlabdcdaaGreat
set_option linter.unusedVariables false
set_option linter.unusedSimpArgs false
namespace Go.Proofs.YtokmommlabdcdaaGreat
open Wd Fl Go.RowKit
/-- a complex number of those that an operation may answer, and new memory -/
def CNew (Q : Nat → Nat → Prop) (w : World) (e : Ending) (w' : World) : Prop := ∃ x y, Q x y ∧ e = .returned (.complex .f64 x y) ∧ Below w.heap.size w w'
theorem CNew.mk {Q : Nat → Nat → Prop} {w w' : World} {x y : Nat} (h : Q x y) (hb : Below w.heap.size w w') : CNew Q w (.returned (.complex .f64 x y)) w' := ⟨x, y, h, rfl, hb⟩
set_option maxRecDepth 100000 in
set_option maxHeartbeats 4000000 in
theorem refadd_any (a b c d : Nat) (w : World) (ha : a < 2 ^ 64) (hb : b < 2 ^ 64) (hc : c < 2 ^ 64) (hd : d < 2 ^ 64) :
    Calls Tryz.prog 16 #[.complex .f64 a b, .complex .f64 c d] w (CNew (AddR a b c d) w) := by
  have La := Lib.hid ha
  have Lb := Lib.hid hb
  have Lc := Lib.hid hc
  have Ld := Lib.hid hd
  clear ha hb hc hd
  go_enter Tryz.func16, Tryz.ntmps16
  go_wp2_with fail
  refine (plus_any a c w La.out Lc.out).mono ?_
  intro e v1 h1
  rcases h1 with ⟨x, rfl, hr, hb⟩
  have Rx : Hid (FAdd a c x) := Lib.hid hr
  have Lx := Lib.hid hr.lt
  have B1 : Hid (Below w.heap.size w v1) := Lib.hid (((Below.refl w.heap.size w)).trans (hb.mono ((Below.refl w.heap.size w)).size))
  clear hr hb
  go_wp2_with fail
  refine (plus_any b d v1 Lb.out Ld.out).mono ?_
  intro e v2 h1
  rcases h1 with ⟨y, rfl, hr, hb⟩
  have Ry : Hid (FAdd b d y) := Lib.hid hr
  have Ly := Lib.hid hr.lt
  have B2 : Hid (Below w.heap.size w v2) := Lib.hid ((B1.out).trans (hb.mono (B1.out).size))
  clear hr hb
  go_wp2_with fail
  go_ret
  exact CNew.mk ⟨Rx.out, Ry.out⟩ B2.out
set_option maxRecDepth 100000 in
set_option maxHeartbeats 4000000 in
theorem refsub_any (a b c d : Nat) (w : World) (ha : a < 2 ^ 64) (hb : b < 2 ^ 64) (hc : c < 2 ^ 64) (hd : d < 2 ^ 64) :
    Calls Tryz.prog 18 #[.complex .f64 a b, .complex .f64 c d] w (CNew (SubR a b c d) w) := by
  have La := Lib.hid ha
  have Lb := Lib.hid hb
  have Lc := Lib.hid hc
  have Ld := Lib.hid hd
  clear ha hb hc hd
  go_enter Tryz.func18, Tryz.ntmps18
  go_wp2_with fail
  refine (rless_any a c w La.out Lc.out).mono ?_
  intro e v1 h1
  rcases h1 with ⟨x, rfl, hr, hb⟩
  have Rx : Hid (FSub a c x) := Lib.hid hr
  have Lx := Lib.hid hr.lt
  have B1 : Hid (Below w.heap.size w v1) := Lib.hid (((Below.refl w.heap.size w)).trans (hb.mono ((Below.refl w.heap.size w)).size))
  clear hr hb
  go_wp2_with fail
  refine (rless_any b d v1 Lb.out Ld.out).mono ?_
  intro e v2 h1
  rcases h1 with ⟨y, rfl, hr, hb⟩
  have Ry : Hid (FSub b d y) := Lib.hid hr
  have Ly := Lib.hid hr.lt
  have B2 : Hid (Below w.heap.size w v2) := Lib.hid ((B1.out).trans (hb.mono (B1.out).size))
  clear hr hb
  go_wp2_with fail
  go_ret
  exact CNew.mk ⟨Rx.out, Ry.out⟩ B2.out
set_option maxRecDepth 100000 in
set_option maxHeartbeats 4000000 in
theorem refmul_any (a b c d : Nat) (w : World) (ha : a < 2 ^ 64) (hb : b < 2 ^ 64) (hc : c < 2 ^ 64) (hd : d < 2 ^ 64) :
    Calls Tryz.prog 20 #[.complex .f64 a b, .complex .f64 c d] w (CNew (MulR a b c d) w) := by
  have La := Lib.hid ha
  have Lb := Lib.hid hb
  have Lc := Lib.hid hc
  have Ld := Lib.hid hd
  clear ha hb hc hd
  go_enter Tryz.func20, Tryz.ntmps20
  go_wp2_with fail
  refine (rtimes_any a c w La.out Lc.out).mono ?_
  intro e v1 h1
  rcases h1 with ⟨p, rfl, hr, hb⟩
  have Rp : Hid (FMul a c p) := Lib.hid hr
  have Lp := Lib.hid hr.lt
  have B1 : Hid (Below w.heap.size w v1) := Lib.hid (((Below.refl w.heap.size w)).trans (hb.mono ((Below.refl w.heap.size w)).size))
  clear hr hb
  go_wp2_with fail
  refine (rtimes_any b d v1 Lb.out Ld.out).mono ?_
  intro e v2 h1
  rcases h1 with ⟨q, rfl, hr, hb⟩
  have Rq : Hid (FMul b d q) := Lib.hid hr
  have Lq := Lib.hid hr.lt
  have B2 : Hid (Below w.heap.size w v2) := Lib.hid ((B1.out).trans (hb.mono (B1.out).size))
  clear hr hb
  go_wp2_with fail
  refine (rless_any p q v2 Lp.out Lq.out).mono ?_
  intro e v3 h1
  rcases h1 with ⟨x, rfl, hr, hb⟩
  have Rx : Hid (FSub p q x) := Lib.hid hr
  have Lx := Lib.hid hr.lt
  have B3 : Hid (Below w.heap.size w v3) := Lib.hid ((B2.out).trans (hb.mono (B2.out).size))
  clear hr hb
  go_wp2_with fail
  refine (rtimes_any a d v3 La.out Ld.out).mono ?_
  intro e v4 h1
  rcases h1 with ⟨r, rfl, hr, hb⟩
  have Rr : Hid (FMul a d r) := Lib.hid hr
  have Lr := Lib.hid hr.lt
  have B4 : Hid (Below w.heap.size w v4) := Lib.hid ((B3.out).trans (hb.mono (B3.out).size))
  clear hr hb
  go_wp2_with fail
  refine (rtimes_any b c v4 Lb.out Lc.out).mono ?_
  intro e v5 h1
  rcases h1 with ⟨s, rfl, hr, hb⟩
  have Rs : Hid (FMul b c s) := Lib.hid hr
  have Ls := Lib.hid hr.lt
  have B5 : Hid (Below w.heap.size w v5) := Lib.hid ((B4.out).trans (hb.mono (B4.out).size))
  clear hr hb
  go_wp2_with fail
  refine (plus_any r s v5 Lr.out Ls.out).mono ?_
  intro e v6 h1
  rcases h1 with ⟨y, rfl, hr, hb⟩
  have Ry : Hid (FAdd r s y) := Lib.hid hr
  have Ly := Lib.hid hr.lt
  have B6 : Hid (Below w.heap.size w v6) := Lib.hid ((B5.out).trans (hb.mono (B5.out).size))
  clear hr hb
  go_wp2_with fail
  go_ret
  exact CNew.mk ⟨_, _, _, _, Rp.out, Rq.out, Rx.out, Rr.out, Rs.out, Ry.out⟩ B6.out
set_option maxRecDepth 100000 in
set_option maxHeartbeats 4000000 in
theorem refscale_any (a b x : Nat) (w : World) (ha : a < 2 ^ 64) (hb : b < 2 ^ 64) (hx : x < 2 ^ 64) :
    Calls Tryz.prog 22 #[.complex .f64 a b, .float .f64 x] w (CNew (fun p q => FMul a x p ∧ FMul b x q) w) := by
  have La := Lib.hid ha
  have Lb := Lib.hid hb
  have Lx := Lib.hid hx
  clear ha hb hx
  go_enter Tryz.func22, Tryz.ntmps22
  go_wp2_with fail
  refine (rtimes_any a x w La.out Lx.out).mono ?_
  intro e v1 h1
  rcases h1 with ⟨p, rfl, hr, hb⟩
  have Rp : Hid (FMul a x p) := Lib.hid hr
  have Lp := Lib.hid hr.lt
  have B1 : Hid (Below w.heap.size w v1) := Lib.hid (((Below.refl w.heap.size w)).trans (hb.mono ((Below.refl w.heap.size w)).size))
  clear hr hb
  go_wp2_with fail
  refine (rtimes_any b x v1 Lb.out Lx.out).mono ?_
  intro e v2 h1
  rcases h1 with ⟨q, rfl, hr, hb⟩
  have Rq : Hid (FMul b x q) := Lib.hid hr
  have Lq := Lib.hid hr.lt
  have B2 : Hid (Below w.heap.size w v2) := Lib.hid ((B1.out).trans (hb.mono (B1.out).size))
  clear hr hb
  go_wp2_with fail
  go_ret
  exact CNew.mk ⟨Rp.out, Rq.out⟩ B2.out
set_option maxRecDepth 100000 in
set_option maxHeartbeats 4000000 in
theorem refdiv_any (a b c d : Nat) (w : World) (ha : a < 2 ^ 64) (hb : b < 2 ^ 64) (hc : c < 2 ^ 64) (hd : d < 2 ^ 64) :
    Calls Tryz.prog 24 #[.complex .f64 a b, .complex .f64 c d] w (CNew (DivR a b c d) w) := by
  have La := Lib.hid ha
  have Lb := Lib.hid hb
  have Lc := Lib.hid hc
  have Ld := Lib.hid hd
  clear ha hb hc hd
  cases hg : geB (rg c) (rg d)
  · have hg2 := hg; unfold geB at hg2
    have G := Lib.hid hg; clear hg
    go_enter Tryz.func24, Tryz.ntmps24
    go_wp2_with fail
    refine (abs_any c Lc.out _).mono ?_
    rintro e w' ⟨rfl, rfl⟩
    go_wp2_with fail
    refine (abs_any d Ld.out _).mono ?_
    rintro e w' ⟨rfl, rfl⟩
    go_wp2_with fail
    refine (over_any c d w Lc.out Ld.out).mono ?_
    intro e v1 h1
    rcases h1 with ⟨r, rfl, hr, hb⟩
    have Rr : Hid (FDiv c d r) := Lib.hid hr
    have Lr := Lib.hid hr.lt
    have B1 : Hid (Below w.heap.size w v1) := Lib.hid (((Below.refl w.heap.size w)).trans (hb.mono ((Below.refl w.heap.size w)).size))
    clear hr hb
    go_wp2_with fail
    refine (rtimes_any c r v1 Lc.out Lr.out).mono ?_
    intro e v2 h1
    rcases h1 with ⟨m, rfl, hr, hb⟩
    have Rm : Hid (FMul c r m) := Lib.hid hr
    have Lm := Lib.hid hr.lt
    have B2 : Hid (Below w.heap.size w v2) := Lib.hid ((B1.out).trans (hb.mono (B1.out).size))
    clear hr hb
    go_wp2_with fail
    refine (plus_any m d v2 Lm.out Ld.out).mono ?_
    intro e v3 h1
    rcases h1 with ⟨t, rfl, hr, hb⟩
    have Rt : Hid (FAdd m d t) := Lib.hid hr
    have Lt := Lib.hid hr.lt
    have B3 : Hid (Below w.heap.size w v3) := Lib.hid ((B2.out).trans (hb.mono (B2.out).size))
    clear hr hb
    go_wp2_with fail
    refine (rtimes_any a r v3 La.out Lr.out).mono ?_
    intro e v4 h1
    rcases h1 with ⟨m1, rfl, hr, hb⟩
    have Rm1 : Hid (FMul a r m1) := Lib.hid hr
    have Lm1 := Lib.hid hr.lt
    have B4 : Hid (Below w.heap.size w v4) := Lib.hid ((B3.out).trans (hb.mono (B3.out).size))
    clear hr hb
    go_wp2_with fail
    refine (plus_any m1 b v4 Lm1.out Lb.out).mono ?_
    intro e v5 h1
    rcases h1 with ⟨n1, rfl, hr, hb⟩
    have Rn1 : Hid (FAdd m1 b n1) := Lib.hid hr
    have Ln1 := Lib.hid hr.lt
    have B5 : Hid (Below w.heap.size w v5) := Lib.hid ((B4.out).trans (hb.mono (B4.out).size))
    clear hr hb
    go_wp2_with fail
    refine (over_any n1 t v5 Ln1.out Lt.out).mono ?_
    intro e v6 h1
    rcases h1 with ⟨x, rfl, hr, hb⟩
    have Rx : Hid (FDiv n1 t x) := Lib.hid hr
    have Lx := Lib.hid hr.lt
    have B6 : Hid (Below w.heap.size w v6) := Lib.hid ((B5.out).trans (hb.mono (B5.out).size))
    clear hr hb
    go_wp2_with fail
    refine (rtimes_any b r v6 Lb.out Lr.out).mono ?_
    intro e v7 h1
    rcases h1 with ⟨m2, rfl, hr, hb⟩
    have Rm2 : Hid (FMul b r m2) := Lib.hid hr
    have Lm2 := Lib.hid hr.lt
    have B7 : Hid (Below w.heap.size w v7) := Lib.hid ((B6.out).trans (hb.mono (B6.out).size))
    clear hr hb
    go_wp2_with fail
    refine (rless_any m2 a v7 Lm2.out La.out).mono ?_
    intro e v8 h1
    rcases h1 with ⟨n2, rfl, hr, hb⟩
    have Rn2 : Hid (FSub m2 a n2) := Lib.hid hr
    have Ln2 := Lib.hid hr.lt
    have B8 : Hid (Below w.heap.size w v8) := Lib.hid ((B7.out).trans (hb.mono (B7.out).size))
    clear hr hb
    go_wp2_with fail
    refine (over_any n2 t v8 Ln2.out Lt.out).mono ?_
    intro e v9 h1
    rcases h1 with ⟨y, rfl, hr, hb⟩
    have Ry : Hid (FDiv n2 t y) := Lib.hid hr
    have Ly := Lib.hid hr.lt
    have B9 : Hid (Below w.heap.size w v9) := Lib.hid ((B8.out).trans (hb.mono (B8.out).size))
    clear hr hb
    go_wp2_with fail
    go_ret
    exact CNew.mk (.inr ⟨G.out, _, _, _, _, _, _, _, Rr.out, Rm.out, Rt.out, Rm1.out, Rn1.out, Rx.out, Rm2.out, Rn2.out, Ry.out⟩) B9.out
  · have hg2 := hg; unfold geB at hg2
    have G := Lib.hid hg; clear hg
    go_enter Tryz.func24, Tryz.ntmps24
    go_wp2_with fail
    refine (abs_any c Lc.out _).mono ?_
    rintro e w' ⟨rfl, rfl⟩
    go_wp2_with fail
    refine (abs_any d Ld.out _).mono ?_
    rintro e w' ⟨rfl, rfl⟩
    go_wp2_with fail
    refine (over_any d c w Ld.out Lc.out).mono ?_
    intro e v1 h1
    rcases h1 with ⟨r, rfl, hr, hb⟩
    have Rr : Hid (FDiv d c r) := Lib.hid hr
    have Lr := Lib.hid hr.lt
    have B1 : Hid (Below w.heap.size w v1) := Lib.hid (((Below.refl w.heap.size w)).trans (hb.mono ((Below.refl w.heap.size w)).size))
    clear hr hb
    go_wp2_with fail
    refine (rtimes_any d r v1 Ld.out Lr.out).mono ?_
    intro e v2 h1
    rcases h1 with ⟨m, rfl, hr, hb⟩
    have Rm : Hid (FMul d r m) := Lib.hid hr
    have Lm := Lib.hid hr.lt
    have B2 : Hid (Below w.heap.size w v2) := Lib.hid ((B1.out).trans (hb.mono (B1.out).size))
    clear hr hb
    go_wp2_with fail
    refine (plus_any c m v2 Lc.out Lm.out).mono ?_
    intro e v3 h1
    rcases h1 with ⟨t, rfl, hr, hb⟩
    have Rt : Hid (FAdd c m t) := Lib.hid hr
    have Lt := Lib.hid hr.lt
    have B3 : Hid (Below w.heap.size w v3) := Lib.hid ((B2.out).trans (hb.mono (B2.out).size))
    clear hr hb
    go_wp2_with fail
    refine (rtimes_any b r v3 Lb.out Lr.out).mono ?_
    intro e v4 h1
    rcases h1 with ⟨m1, rfl, hr, hb⟩
    have Rm1 : Hid (FMul b r m1) := Lib.hid hr
    have Lm1 := Lib.hid hr.lt
    have B4 : Hid (Below w.heap.size w v4) := Lib.hid ((B3.out).trans (hb.mono (B3.out).size))
    clear hr hb
    go_wp2_with fail
    refine (plus_any a m1 v4 La.out Lm1.out).mono ?_
    intro e v5 h1
    rcases h1 with ⟨n1, rfl, hr, hb⟩
    have Rn1 : Hid (FAdd a m1 n1) := Lib.hid hr
    have Ln1 := Lib.hid hr.lt
    have B5 : Hid (Below w.heap.size w v5) := Lib.hid ((B4.out).trans (hb.mono (B4.out).size))
    clear hr hb
    go_wp2_with fail
    refine (over_any n1 t v5 Ln1.out Lt.out).mono ?_
    intro e v6 h1
    rcases h1 with ⟨x, rfl, hr, hb⟩
    have Rx : Hid (FDiv n1 t x) := Lib.hid hr
    have Lx := Lib.hid hr.lt
    have B6 : Hid (Below w.heap.size w v6) := Lib.hid ((B5.out).trans (hb.mono (B5.out).size))
    clear hr hb
    go_wp2_with fail
    refine (rtimes_any a r v6 La.out Lr.out).mono ?_
    intro e v7 h1
    rcases h1 with ⟨m2, rfl, hr, hb⟩
    have Rm2 : Hid (FMul a r m2) := Lib.hid hr
    have Lm2 := Lib.hid hr.lt
    have B7 : Hid (Below w.heap.size w v7) := Lib.hid ((B6.out).trans (hb.mono (B6.out).size))
    clear hr hb
    go_wp2_with fail
    refine (rless_any b m2 v7 Lb.out Lm2.out).mono ?_
    intro e v8 h1
    rcases h1 with ⟨n2, rfl, hr, hb⟩
    have Rn2 : Hid (FSub b m2 n2) := Lib.hid hr
    have Ln2 := Lib.hid hr.lt
    have B8 : Hid (Below w.heap.size w v8) := Lib.hid ((B7.out).trans (hb.mono (B7.out).size))
    clear hr hb
    go_wp2_with fail
    refine (over_any n2 t v8 Ln2.out Lt.out).mono ?_
    intro e v9 h1
    rcases h1 with ⟨y, rfl, hr, hb⟩
    have Ry : Hid (FDiv n2 t y) := Lib.hid hr
    have Ly := Lib.hid hr.lt
    have B9 : Hid (Below w.heap.size w v9) := Lib.hid ((B8.out).trans (hb.mono (B8.out).size))
    clear hr hb
    go_wp2_with fail
    go_ret
    exact CNew.mk (.inl ⟨G.out, _, _, _, _, _, _, _, Rr.out, Rm.out, Rt.out, Rm1.out, Rn1.out, Rx.out, Rm2.out, Rn2.out, Ry.out⟩) B9.out
end Go.Proofs.YtokmommlabdcdaaGreat
