/- Contracts of surdref0's Int of a numeral, and of DyadFrac. Contracts of surdref17's near, of, circle, scaled. (Printed by wip/gen53.py.) -/
import Derived.Test.YtokmommlabdcdaaSBig39
import Derived.Test.YtokmommlabdcdaaSSetStr
import Derived.Lib.ItoaLen
import Derived.Test.YtokmommlabdcdaaSBig36
import Derived.Test.YtokmommlabdcdaaSFlRel
set_option linter.unusedVariables false
set_option linter.unusedSimpArgs false
set_option linter.unusedVariables false
set_option linter.unusedSimpArgs false
namespace Go.Proofs.Ytokmommlabdcdaa
open Wd Fl Go.RowKit
theorem dec_len (n : Nat) (h : n < 18446744073709551616) : 0 < (Lib.decDigits n).length ∧ (Lib.decDigits n).length ≤ 100000 := by
  rw [Lib.decDigits_length]
  have := Lib.nDigits_pos n
  have := Lib.nDigits_le20 n h
  omega
theorem itoa_n (n : Nat) : Lib.itoa (n : Int) = Lib.decDigits n := Lib.itoa_nonneg n
set_option maxRecDepth 100000 in
set_option maxHeartbeats 2000000 in
/-- surdref0.Int of a numeral -/
theorem int_any (m : Int) (w : World) (hm : m.natAbs < 18446744073709551616) :
    Calls Try.prog 91 #[.string (sv (Lib.itoa m))] w (NewRet TW m w) := by
  have S : Calls Try.prog 108 #[.pointer (some ⟨w.heap.size, 0, none⟩), .string (sv (Lib.itoa m)), .int .i64 10] (w.alloc (.cells #[.bool false, .slice none 0 0] 45)) (SetRet w.heap.size 0 m (w.alloc (.cells #[.bool false, .slice none 0 0] 45))) := by
    by_cases h : m < 0
    · obtain ⟨u, rfl⟩ : ∃ u : Nat, m = -(u : Int) := ⟨m.natAbs, by omega⟩
      have hu : u < 18446744073709551616 := by omega
      rw [Lib.itoa_neg u (by omega)]
      have := setStr_neg w.heap.size 0 (Lib.decDigits u) _ (znew w) (digs_dec u) (dec_len u hu).1 (dec_len u hu).2
      rwa [pv_dec] at this
    · obtain ⟨u, rfl⟩ : ∃ u : Nat, m = (u : Int) := ⟨m.natAbs, by omega⟩
      have hu : u < 18446744073709551616 := by omega
      rw [itoa_n]
      have := setStr_pos w.heap.size 0 (Lib.decDigits u) _ (znew w) (digs_dec u) (dec_len u hu).1 (dec_len u hu).2
      rwa [pv_dec] at this
  have S := Lib.hid S
  generalize sv (Lib.itoa m) = s at *
  clear hm
  go_enter Try.func91, Try.ntmps91
  go_wp2_with fail
  refine S.out.mono ?_
  rintro e w1 ⟨rfl, hi, hr⟩
  have I := Lib.hid hi
  have B := Lib.hid (newW hr)
  clear hi hr
  go_wp2_with fail
  go_ret
  exact ⟨_, rfl, Nat.le_refl _, I.out, B.out⟩
/-- a whole number times a power of two -/
def dyq (m e : Int) : Rat := if 0 ≤ e then ((m * ((2 ^ e.toNat : Nat) : Int) : Int) : Rat) else mkRat m (2 ^ (-e).toNat)
set_option maxRecDepth 100000 in
set_option maxHeartbeats 4000000 in
theorem dyad_up (m : Int) (k : Nat) (w : World) (hm : bl m ≤ 64) (hm2 : m.natAbs < 18446744073709551616) (hk : k ≤ 1100) :
    Calls Try.prog 56 #[.agg #[.string (sv (Lib.itoa m)), .int .i64 (k : Int)]] w (RNew ((m * ((2 ^ k : Nat) : Int) : Int) : Rat) w) := by
  have IN := Lib.hid (fun w => int_any m w hm2)
  have PW := Lib.hid (fun w => pow_any k w (by omega))
  have HM := Lib.hid hm
  obtain ⟨P, hP⟩ : ∃ P : Int, ((2 ^ k : Nat) : Int) = P := ⟨_, rfl⟩
  have HPB : Hid (bl P ≤ 1200) := Lib.hid (by rw [← hP]; unfold bl; rw [Int.natAbs_natCast, blen_pow]; omega)
  rw [hP] at PW ⊢
  obtain ⟨q, hq⟩ : ∃ q : Int, m * P = q := ⟨_, rfl⟩
  have HQB : Hid (bl q ≤ 100000) := Lib.hid (by rw [← hq]; have := bl_mul m P; have := HPB.out; omega)
  have HQ := Lib.hid hq
  rw [hq]
  generalize sv (Lib.itoa m) = s at *
  have k0 : decide ((0 : Int) ≤ (k : Int)) = true := decide_eq_true (by omega)
  clear hm hm2 hk hP hq
  go_enter Try.func56, Try.ntmps56
  go_wp2_with fail
  refine (IN.out _).mono ?_
  intro e w1 h1
  rcases h1 with ⟨b1, rfl, hle, hi, hb⟩
  have LB := Lib.hid (show w.heap.size ≤ b1 by have := (bnew w (.cells #[.string s, .int .i64 (k : Int)] 80)).size; omega)
  have B1 := Lib.hid ((bnew w (.cells #[.string s, .int .i64 (k : Int)] 80)).trans (hb.mono (bnew w (.cells #[.string s, .int .i64 (k : Int)] 80)).size))
  have C1 : w1.cell? ⟨w.heap.size, 1, none⟩ = some (.int .i64 (k : Int)) := (hb.cell (p := ⟨w.heap.size, 1, none⟩) (by simp)).trans (by rw [World.cell?_alloc_new]; rfl)
  have I1 := Lib.hid hi
  have L1 := Lib.hid (show w.heap.size < w1.heap.size by have := hb.size; simp at this; omega)
  clear hle hi hb
  have C1' : (w1.alloc (.cells #[.bool false, .slice none 0 0, .bool false, .slice none 0 0] 73)).cell? ⟨w.heap.size, 1, none⟩ = some (.int .i64 (k : Int)) := ((bnew w1 _).cell (p := ⟨w.heap.size, 1, none⟩) L1.out).trans C1
  go_wp2_with fail
  refine (PW.out _).mono ?_
  intro e w2 h2
  rcases h2 with ⟨b2, rfl, hle, hi, hb⟩
  have Z2 := Lib.hid ((znewr w1).below hb)
  have I2 := Lib.hid ((I1.out.below (bnew w1 _)).below hb)
  have P2 := Lib.hid hi
  have B2 := Lib.hid ((bal B1.out).trans (hb.mono (bal B1.out).size))
  have L2 := Lib.hid (show w.heap.size ≤ w1.heap.size from B1.out.size)
  clear hle hi hb
  go_wp2_with fail
  refine (imul_any b1 0 b1 0 b2 0 m P w2 I2.out.z I2.out P2.out (by have := HM.out; omega) (by have := HPB.out; omega) (.inl (by have := HM.out; omega))).mono ?_
  rintro e w3 ⟨rfl, hi, hr⟩
  rw [HQ.out] at hi
  have I3 := Lib.hid hi
  have Z3 := Lib.hid (Z2.out.wr hr)
  have B3 := Lib.hid (bwr B2.out hr LB.out)
  clear hi hr
  go_wp2_with fail
  refine (setInt_any w1.heap.size b1 0 q w3 Z3.out I3.out HQB.out).mono ?_
  rintro e w4 ⟨rfl, hra, hr⟩
  have R := Lib.hid hra
  have B4 := Lib.hid (bwr B3.out hr L2.out)
  clear hra hr
  go_wp2_with fail
  go_ret
  exact ⟨_, rfl, R.out, L2.out, B4.out⟩
set_option maxRecDepth 100000 in
set_option maxHeartbeats 4000000 in
theorem dyad_down (m : Int) (k : Nat) (w : World) (hm : bl m ≤ 64) (hm2 : m.natAbs < 18446744073709551616) (hk : k ≤ 1100) (hk0 : 0 < k) :
    Calls Try.prog 56 #[.agg #[.string (sv (Lib.itoa m)), .int .i64 (-(k : Int))]] w (RNew (mkRat m (2 ^ k)) w) := by
  have IN := Lib.hid (fun w => int_any m w hm2)
  have PW := Lib.hid (fun w => pow_any k w (by omega))
  have HM := Lib.hid (show bl m ≤ 100000 by omega)
  obtain ⟨d, hd⟩ : ∃ d : Nat, 2 ^ k = d := ⟨_, rfl⟩
  have HD0 : Hid (0 < d) := Lib.hid (by rw [← hd]; exact Nat.two_pow_pos k)
  have HDB : Hid (bl (d : Int) ≤ 100000) := Lib.hid (by rw [← hd]; exact Nat.le_trans (bl_pow_le hk) (by decide))
  have HS : Hid (Sm m.natAbs d) := Lib.hid (by rw [← hd]; exact sm_pow _ _)
  rw [hd] at PW ⊢
  generalize sv (Lib.itoa m) = s at *
  obtain ⟨E, hE⟩ : ∃ E : Int, -(k : Int) = E := ⟨_, rfl⟩
  have k0 : decide ((0 : Int) ≤ E) = false := decide_eq_false (by omega)
  have k1 : RowKit.wrap64 (-E) = (k : Int) := by rw [w64 _ (by omega) (by omega)]; omega
  rw [hE]
  clear hm hm2 hk hk0 hd hE
  go_enter Try.func56, Try.ntmps56
  go_wp2_with fail
  refine (IN.out _).mono ?_
  intro e w1 h1
  rcases h1 with ⟨b1, rfl, hle, hi, hb⟩
  have LB := Lib.hid (show w.heap.size ≤ b1 by have := (bnew w (.cells #[.string s, .int .i64 E] 80)).size; omega)
  have B1 := Lib.hid ((bnew w (.cells #[.string s, .int .i64 E] 80)).trans (hb.mono (bnew w (.cells #[.string s, .int .i64 E] 80)).size))
  have C1 : w1.cell? ⟨w.heap.size, 1, none⟩ = some (.int .i64 E) := (hb.cell (p := ⟨w.heap.size, 1, none⟩) (by simp)).trans (by rw [World.cell?_alloc_new]; rfl)
  have I1 := Lib.hid hi
  have L1 := Lib.hid (show w.heap.size < w1.heap.size by have := hb.size; simp at this; omega)
  clear hle hi hb
  have C1' : (w1.alloc (.cells #[.bool false, .slice none 0 0, .bool false, .slice none 0 0] 73)).cell? ⟨w.heap.size, 1, none⟩ = some (.int .i64 E) := ((bnew w1 _).cell (p := ⟨w.heap.size, 1, none⟩) L1.out).trans C1
  go_wp2_with fail
  refine (PW.out _).mono ?_
  intro e w2 h2
  rcases h2 with ⟨b2, rfl, hle, hi, hb⟩
  have Z2 := Lib.hid ((znewr w1).below hb)
  have I2 := Lib.hid ((I1.out.below (bnew w1 _)).below hb)
  have P2 := Lib.hid hi
  have B2 := Lib.hid ((bal B1.out).trans (hb.mono (bal B1.out).size))
  have L2 := Lib.hid (show w.heap.size ≤ w1.heap.size from B1.out.size)
  clear hle hi hb
  go_wp2_with fail
  refine (setFrac_any w1.heap.size b1 0 b2 0 m d w2 Z2.out I2.out P2.out HD0.out HM.out HDB.out HS.out).mono ?_
  rintro e w4 ⟨rfl, hra, hr⟩
  have R := Lib.hid hra
  have B4 := Lib.hid (bwr B2.out hr L2.out)
  clear hra hr
  go_wp2_with fail
  go_ret
  exact ⟨_, rfl, R.out, L2.out, B4.out⟩
/-- surdref0.DyadFrac of a numeral and an exponent -/
theorem dyadFrac_any (m e : Int) (w : World) (hm : bl m ≤ 64) (hm2 : m.natAbs < 18446744073709551616) (he : -1100 ≤ e) (he2 : e ≤ 1100) :
    Calls Try.prog 56 #[.agg #[.string (sv (Lib.itoa m)), .int .i64 e]] w (RNew (dyq m e) w) := by
  unfold dyq
  by_cases h : 0 ≤ e
  · obtain ⟨k, rfl⟩ : ∃ k : Nat, e = k := ⟨e.toNat, by omega⟩
    rw [if_pos h, Int.toNat_natCast]
    exact dyad_up m k w hm hm2 (by omega)
  · obtain ⟨k, rfl⟩ : ∃ k : Nat, e = -(k : Int) := ⟨(-e).toNat, by omega⟩
    rw [if_neg h, Int.neg_neg, Int.toNat_natCast]
    exact dyad_down m k w hm hm2 (by omega) (by omega)
end Go.Proofs.Ytokmommlabdcdaa
set_option linter.unusedVariables false
set_option linter.unusedSimpArgs false
namespace Go.Proofs.Ytokmommlabdcdaa
open Wd Fl Go.RowKit
theorem ratAt_wr {w w' : World} {b bz : Nat} {x : Rat} (h : RatAt w b x) (g : Wr bz 0 4 w w') (hz : ZAt TW w bz 0 4) (hne : b ≠ bz) : RatAt w' b x := ⟨h.1.wr g hz (.inl hne), h.2.wr g hz (.inl hne)⟩
def NearRet (f : Nat) (w : World) (e : Ending) (w' : World) : Prop := e = .returned (.float .f64 f) ∧ Below w.heap.size w w'
theorem near_any (b : Nat) (q : Rat) (w : World) (hx : RatAt w b q) (hn : bl q.num ≤ 5000) (hd : bl (q.den : Int) ≤ 5000) :
    Calls Try.prog 24 #[.pointer (some ⟨b, 0, none⟩)] w (NearRet (fq q false) w) := by
  have FL := Lib.hid (float64_any b q w hx hn hd)
  clear hx hn hd
  go_enter Try.func24, Try.ntmps24
  go_wp2_with fail
  refine FL.out.mono ?_
  intro e w1 h1
  rcases h1 with ⟨ex, rfl, hb⟩
  have B := Lib.hid hb
  clear hb
  go_wp2_with fail
  go_ret
  exact ⟨rfl, B.out⟩
theorem newR' {w w1 : World} {c : Obj} (h : Wr w.heap.size 0 4 (w.alloc c) w1) : Below w.heap.size w w1 := (bnew w c).trans (h.below (Nat.le_refl _) (by simp))
set_option maxRecDepth 100000 in
set_option maxHeartbeats 4000000 in
theorem of_any (x : Nat) (hx : x < 2 ^ 64) (hf : fin x) (w : World) :
    Calls Try.prog 49 #[.float .f64 x] w (RNew (fv x) w) := by
  have H := Lib.hid (setFloat_any w.heap.size x _ (znewr w) hx hf)
  clear hx hf
  go_enter Try.func49, Try.ntmps49
  go_wp2_with fail
  refine H.out.mono ?_
  rintro e w1 ⟨rfl, hra, hr⟩
  have R := Lib.hid hra
  have B := Lib.hid (newR' hr)
  clear hra hr
  go_wp2_with fail
  go_ret
  exact ⟨_, rfl, R.out, Nat.le_refl _, B.out⟩
theorem sm_one (n : Nat) : Sm n 1 := by have := sm_pow n 0; rwa [Nat.pow_zero] at this
theorem one_rat (w : World) : Calls Try.prog 25 #[.int .i64 1, .int .i64 1] w (RNew 1 w) :=
  newRat_any 1 1 w (by decide) (by decide) (by decide) (by decide) (sm_one _) (by decide) (by decide)
theorem two_rat (w : World) : Calls Try.prog 25 #[.int .i64 2, .int .i64 1] w (RNew 2 w) :=
  newRat_any 2 1 w (by decide) (by decide) (by decide) (by decide) (sm_one _) (by decide) (by decide)
theorem dy_one : Dy 1200 (1 : Rat) := ⟨by decide, ⟨0, by decide, rfl⟩, .inr ⟨0, 1, by decide, by decide, by decide⟩⟩
theorem dy_two : Dy 1200 (2 : Rat) := ⟨by decide, ⟨0, by decide, rfl⟩, .inr ⟨1, 1, by decide, by decide, by decide⟩⟩
theorem dy_fv {x : Nat} (h : fin x) : Dy 1200 (fv x) := (Dy.fv h).mono (by decide)
set_option maxRecDepth 100000 in
set_option maxHeartbeats 4000000 in
theorem circle_any (T TT U D X Y : Nat) (w : World) (ht : T < 2 ^ 64) (htt : TT < 2 ^ 64) (hu : U < 2 ^ 64) (hd : D < 2 ^ 64) (ft : fin T) (ftt : fin TT) (fu : fin U) (fd : fin D) (u0 : mv U ≠ 0) (d2 : Dy 1200 (2 * fv T))
    (h1 : fq (fv T * fv T) false = TT) (h2 : fq (1 + fv TT) false = U) (h3 : fq (1 + -fv TT) false = D) (h4 : fq (fv D / fv U) false = X) (h5 : fq (2 * fv T / fv U) false = Y) :
    Calls Try.prog 23 #[.float .f64 T] w fun e w' => e = .returned (.tuple #[.float .f64 X, .float .f64 Y]) ∧ Below w.heap.size w w' := by
  have OT := Lib.hid (of_any T ht ft)
  have OTT := Lib.hid (of_any TT htt ftt)
  have OU := Lib.hid (of_any U hu fu)
  have OD := Lib.hid (of_any D hd fd)
  have DT := Lib.hid (dy_fv ft)
  have DTT := Lib.hid (dy_fv ftt)
  have DU := Lib.hid (dy_fv fu)
  have DD := Lib.hid (dy_fv fd)
  have D2 := Lib.hid d2
  have UN := Lib.hid (fvnum u0)
  have BM := Lib.hid (rb_mul_bl' DT.out DT.out)
  have BA := Lib.hid (rb_add_bl dy_one DTT.out)
  have BS := Lib.hid (rb_add_bl dy_one (dy_neg DTT.out))
  have BX := Lib.hid (rb_div_bl DD.out DU.out UN.out)
  have BY := Lib.hid (rb_div_bl D2.out DU.out UN.out)
  have N1 := Lib.hid (fun b w hx => near_any b _ w hx BM.out.1 BM.out.2)
  have N2 := Lib.hid (fun b w hx => near_any b _ w hx BA.out.1 BA.out.2)
  have N3 := Lib.hid (fun b w hx => near_any b _ w hx BS.out.1 BS.out.2)
  have N4 := Lib.hid (fun b w hx => near_any b _ w hx BX.out.1 BX.out.2)
  have N5 := Lib.hid (fun b w hx => near_any b _ w hx BY.out.1 BY.out.2)
  rw [h1] at N1
  rw [h2] at N2
  rw [h3] at N3
  rw [h4] at N4
  rw [h5] at N5
  clear ht htt hu hd ft ftt fu fd u0 d2 h1 h2 h3 h4 h5
  go_enter Try.func23, Try.ntmps23
  go_wp2_with fail
  refine (one_rat _).mono ?_
  rintro e w1 ⟨b_one, rfl, hra, hle, hb⟩
  have R_one_1 := Lib.hid hra
  have B_1 := Lib.hid ((Below.refl w.heap.size w).trans (hb.mono (Below.refl w.heap.size w).size))
  clear hra hle hb
  go_wp2_with fail
  have NE_one_sq := Lib.hid (Nat.ne_of_lt R_one_1.out.z)
  refine (OT.out _).mono ?_
  rintro e w2 ⟨b_ta, rfl, hra, hle, hb⟩
  have R_ta_2 := Lib.hid hra
  have NE_ta_sq : Hid (b_ta ≠ w1.heap.size) := Lib.hid (by simp at hle; omega)
  have R_one_2 := Lib.hid ((R_one_1.out.below (bnew w1 _)).below hb)
  have Z_sq_2 := Lib.hid ((znewr w1).below hb)
  have LZ_sq : Hid (w.heap.size ≤ w1.heap.size) := Lib.hid B_1.out.size
  have B_2 := Lib.hid ((bal B_1.out).trans (hb.mono (bal B_1.out).size))
  clear hra hle hb
  go_wp2_with fail
  refine (OT.out _).mono ?_
  rintro e w3 ⟨b_tb, rfl, hra, hle, hb⟩
  have R_tb_3 := Lib.hid hra
  have NE_tb_sq : Hid (b_tb ≠ w1.heap.size) := Lib.hid (by have := Z_sq_2.out.lt; (try simp at hle); omega)
  have R_one_3 := Lib.hid (R_one_2.out.below hb)
  have R_ta_3 := Lib.hid (R_ta_2.out.below hb)
  have Z_sq_3 := Lib.hid (Z_sq_2.out.below hb)
  have B_3 := Lib.hid (B_2.out.trans (hb.mono B_2.out.size))
  clear hra hle hb
  go_wp2_with fail
  refine (rmul_any _ b_ta b_tb (fv T) (fv T) w3 Z_sq_3.out R_ta_3.out R_tb_3.out DT.out DT.out).mono ?_
  rintro e w4 ⟨rfl, hra, hr⟩
  have R_one_4 := Lib.hid (ratAt_wr R_one_3.out hr Z_sq_3.out NE_one_sq.out)
  have R_ta_4 := Lib.hid (ratAt_wr R_ta_3.out hr Z_sq_3.out NE_ta_sq.out)
  have R_tb_4 := Lib.hid (ratAt_wr R_tb_3.out hr Z_sq_3.out NE_tb_sq.out)
  have R_sq_4 := Lib.hid hra
  have B_4 := Lib.hid (bwr B_3.out hr LZ_sq.out)
  clear hra hr
  go_wp2_with fail
  refine (N1.out _ w4 R_sq_4.out).mono ?_
  rintro e w5 ⟨rfl, hb⟩
  have R_one_5 := Lib.hid (R_one_4.out.below hb)
  have R_sq_5 := Lib.hid (R_sq_4.out.below hb)
  have B_5 := Lib.hid (B_4.out.trans (hb.mono B_4.out.size))
  clear hb
  go_wp2_with fail
  refine (OTT.out _).mono ?_
  rintro e w6 ⟨b_s, rfl, hra, hle, hb⟩
  have R_s_6 := Lib.hid hra
  have R_one_6 := Lib.hid (R_one_5.out.below hb)
  have B_6 := Lib.hid (B_5.out.trans (hb.mono B_5.out.size))
  clear hra hle hb
  go_wp2_with fail
  have NE_one_uu := Lib.hid (Nat.ne_of_lt R_one_6.out.z)
  have NE_s_uu := Lib.hid (Nat.ne_of_lt R_s_6.out.z)
  have Zp_uu : Hid (ZAt TW (w6.alloc (.cells #[.bool false, .slice none 0 0, .bool false, .slice none 0 0] 73)) w6.heap.size 0 4) := Lib.hid (znewr w6)
  have P_one_7 : Hid (RatAt (w6.alloc (.cells #[.bool false, .slice none 0 0, .bool false, .slice none 0 0] 73)) b_one 1) := Lib.hid (R_one_6.out.below (bnew w6 _))
  have P_s_7 : Hid (RatAt (w6.alloc (.cells #[.bool false, .slice none 0 0, .bool false, .slice none 0 0] 73)) b_s (fv TT)) := Lib.hid (R_s_6.out.below (bnew w6 _))
  have LZ_uu : Hid (w.heap.size ≤ w6.heap.size) := Lib.hid B_6.out.size
  have Bp_7 : Hid (Below w.heap.size w (w6.alloc (.cells #[.bool false, .slice none 0 0, .bool false, .slice none 0 0] 73))) := Lib.hid (bal B_6.out)
  refine (radd_any _ b_one b_s 1 (fv TT) _ Zp_uu.out P_one_7.out P_s_7.out dy_one DTT.out).mono ?_
  rintro e w7 ⟨rfl, hra, hr⟩
  have R_one_7 := Lib.hid (ratAt_wr P_one_7.out hr Zp_uu.out NE_one_uu.out)
  have R_s_7 := Lib.hid (ratAt_wr P_s_7.out hr Zp_uu.out NE_s_uu.out)
  have R_uu_7 := Lib.hid hra
  have B_7 := Lib.hid (bwr Bp_7.out hr LZ_uu.out)
  clear hra hr
  go_wp2_with fail
  refine (N2.out _ w7 R_uu_7.out).mono ?_
  rintro e w8 ⟨rfl, hb⟩
  have R_one_8 := Lib.hid (R_one_7.out.below hb)
  have R_s_8 := Lib.hid (R_s_7.out.below hb)
  have R_uu_8 := Lib.hid (R_uu_7.out.below hb)
  have B_8 := Lib.hid (B_7.out.trans (hb.mono B_7.out.size))
  clear hb
  go_wp2_with fail
  refine (OU.out _).mono ?_
  rintro e w9 ⟨b_u, rfl, hra, hle, hb⟩
  have R_u_9 := Lib.hid hra
  have R_one_9 := Lib.hid (R_one_8.out.below hb)
  have R_s_9 := Lib.hid (R_s_8.out.below hb)
  have B_9 := Lib.hid (B_8.out.trans (hb.mono B_8.out.size))
  clear hra hle hb
  go_wp2_with fail
  have NE_one_dd := Lib.hid (Nat.ne_of_lt R_one_9.out.z)
  have NE_s_dd := Lib.hid (Nat.ne_of_lt R_s_9.out.z)
  have NE_u_dd := Lib.hid (Nat.ne_of_lt R_u_9.out.z)
  have Zp_dd : Hid (ZAt TW (w9.alloc (.cells #[.bool false, .slice none 0 0, .bool false, .slice none 0 0] 73)) w9.heap.size 0 4) := Lib.hid (znewr w9)
  have P_one_10 : Hid (RatAt (w9.alloc (.cells #[.bool false, .slice none 0 0, .bool false, .slice none 0 0] 73)) b_one 1) := Lib.hid (R_one_9.out.below (bnew w9 _))
  have P_s_10 : Hid (RatAt (w9.alloc (.cells #[.bool false, .slice none 0 0, .bool false, .slice none 0 0] 73)) b_s (fv TT)) := Lib.hid (R_s_9.out.below (bnew w9 _))
  have P_u_10 : Hid (RatAt (w9.alloc (.cells #[.bool false, .slice none 0 0, .bool false, .slice none 0 0] 73)) b_u (fv U)) := Lib.hid (R_u_9.out.below (bnew w9 _))
  have LZ_dd : Hid (w.heap.size ≤ w9.heap.size) := Lib.hid B_9.out.size
  have Bp_10 : Hid (Below w.heap.size w (w9.alloc (.cells #[.bool false, .slice none 0 0, .bool false, .slice none 0 0] 73))) := Lib.hid (bal B_9.out)
  refine (rsub_any _ b_one b_s 1 (fv TT) _ Zp_dd.out P_one_10.out P_s_10.out dy_one DTT.out).mono ?_
  rintro e w10 ⟨rfl, hra, hr⟩
  have R_one_10 := Lib.hid (ratAt_wr P_one_10.out hr Zp_dd.out NE_one_dd.out)
  have R_s_10 := Lib.hid (ratAt_wr P_s_10.out hr Zp_dd.out NE_s_dd.out)
  have R_u_10 := Lib.hid (ratAt_wr P_u_10.out hr Zp_dd.out NE_u_dd.out)
  have R_dd_10 := Lib.hid hra
  have B_10 := Lib.hid (bwr Bp_10.out hr LZ_dd.out)
  clear hra hr
  go_wp2_with fail
  refine (N3.out _ w10 R_dd_10.out).mono ?_
  rintro e w11 ⟨rfl, hb⟩
  have R_u_11 := Lib.hid (R_u_10.out.below hb)
  have R_dd_11 := Lib.hid (R_dd_10.out.below hb)
  have B_11 := Lib.hid (B_10.out.trans (hb.mono B_10.out.size))
  clear hb
  go_wp2_with fail
  refine (OD.out _).mono ?_
  rintro e w12 ⟨b_d, rfl, hra, hle, hb⟩
  have R_d_12 := Lib.hid hra
  have R_u_12 := Lib.hid (R_u_11.out.below hb)
  have B_12 := Lib.hid (B_11.out.trans (hb.mono B_11.out.size))
  clear hra hle hb
  go_wp2_with fail
  have NE_u_t2 := Lib.hid (Nat.ne_of_lt R_u_12.out.z)
  have NE_d_t2 := Lib.hid (Nat.ne_of_lt R_d_12.out.z)
  refine (two_rat _).mono ?_
  rintro e w13 ⟨b_two, rfl, hra, hle, hb⟩
  have R_two_13 := Lib.hid hra
  have NE_two_t2 : Hid (b_two ≠ w12.heap.size) := Lib.hid (by simp at hle; omega)
  have R_u_13 := Lib.hid ((R_u_12.out.below (bnew w12 _)).below hb)
  have R_d_13 := Lib.hid ((R_d_12.out.below (bnew w12 _)).below hb)
  have Z_t2_13 := Lib.hid ((znewr w12).below hb)
  have LZ_t2 : Hid (w.heap.size ≤ w12.heap.size) := Lib.hid B_12.out.size
  have B_13 := Lib.hid ((bal B_12.out).trans (hb.mono (bal B_12.out).size))
  clear hra hle hb
  go_wp2_with fail
  refine (OT.out _).mono ?_
  rintro e w14 ⟨b_tc, rfl, hra, hle, hb⟩
  have R_tc_14 := Lib.hid hra
  have NE_tc_t2 : Hid (b_tc ≠ w12.heap.size) := Lib.hid (by have := Z_t2_13.out.lt; (try simp at hle); omega)
  have R_u_14 := Lib.hid (R_u_13.out.below hb)
  have R_d_14 := Lib.hid (R_d_13.out.below hb)
  have R_two_14 := Lib.hid (R_two_13.out.below hb)
  have Z_t2_14 := Lib.hid (Z_t2_13.out.below hb)
  have B_14 := Lib.hid (B_13.out.trans (hb.mono B_13.out.size))
  clear hra hle hb
  go_wp2_with fail
  refine (rmul_any _ b_two b_tc 2 (fv T) w14 Z_t2_14.out R_two_14.out R_tc_14.out dy_two DT.out).mono ?_
  rintro e w15 ⟨rfl, hra, hr⟩
  have R_u_15 := Lib.hid (ratAt_wr R_u_14.out hr Z_t2_14.out NE_u_t2.out)
  have R_d_15 := Lib.hid (ratAt_wr R_d_14.out hr Z_t2_14.out NE_d_t2.out)
  have R_two_15 := Lib.hid (ratAt_wr R_two_14.out hr Z_t2_14.out NE_two_t2.out)
  have R_tc_15 := Lib.hid (ratAt_wr R_tc_14.out hr Z_t2_14.out NE_tc_t2.out)
  have R_t2_15 := Lib.hid hra
  have B_15 := Lib.hid (bwr B_14.out hr LZ_t2.out)
  clear hra hr
  go_wp2_with fail
  have NE_u_qx := Lib.hid (Nat.ne_of_lt R_u_15.out.z)
  have NE_d_qx := Lib.hid (Nat.ne_of_lt R_d_15.out.z)
  have NE_t2_qx := Lib.hid (Nat.ne_of_lt R_t2_15.out.z)
  have Zp_qx : Hid (ZAt TW (w15.alloc (.cells #[.bool false, .slice none 0 0, .bool false, .slice none 0 0] 73)) w15.heap.size 0 4) := Lib.hid (znewr w15)
  have P_u_16 : Hid (RatAt (w15.alloc (.cells #[.bool false, .slice none 0 0, .bool false, .slice none 0 0] 73)) b_u (fv U)) := Lib.hid (R_u_15.out.below (bnew w15 _))
  have P_d_16 : Hid (RatAt (w15.alloc (.cells #[.bool false, .slice none 0 0, .bool false, .slice none 0 0] 73)) b_d (fv D)) := Lib.hid (R_d_15.out.below (bnew w15 _))
  have P_t2_16 : Hid (RatAt (w15.alloc (.cells #[.bool false, .slice none 0 0, .bool false, .slice none 0 0] 73)) w12.heap.size (2 * fv T)) := Lib.hid (R_t2_15.out.below (bnew w15 _))
  have LZ_qx : Hid (w.heap.size ≤ w15.heap.size) := Lib.hid B_15.out.size
  have Bp_16 : Hid (Below w.heap.size w (w15.alloc (.cells #[.bool false, .slice none 0 0, .bool false, .slice none 0 0] 73))) := Lib.hid (bal B_15.out)
  refine (rquo_any _ b_d b_u (fv D) (fv U) _ Zp_qx.out P_d_16.out P_u_16.out DD.out DU.out UN.out).mono ?_
  rintro e w16 ⟨rfl, hra, hr⟩
  have R_u_16 := Lib.hid (ratAt_wr P_u_16.out hr Zp_qx.out NE_u_qx.out)
  have R_d_16 := Lib.hid (ratAt_wr P_d_16.out hr Zp_qx.out NE_d_qx.out)
  have R_t2_16 := Lib.hid (ratAt_wr P_t2_16.out hr Zp_qx.out NE_t2_qx.out)
  have R_qx_16 := Lib.hid hra
  have B_16 := Lib.hid (bwr Bp_16.out hr LZ_qx.out)
  clear hra hr
  go_wp2_with fail
  refine (N4.out _ w16 R_qx_16.out).mono ?_
  rintro e w17 ⟨rfl, hb⟩
  have R_u_17 := Lib.hid (R_u_16.out.below hb)
  have R_t2_17 := Lib.hid (R_t2_16.out.below hb)
  have R_qx_17 := Lib.hid (R_qx_16.out.below hb)
  have B_17 := Lib.hid (B_16.out.trans (hb.mono B_16.out.size))
  clear hb
  go_wp2_with fail
  have NE_u_qy := Lib.hid (Nat.ne_of_lt R_u_17.out.z)
  have NE_t2_qy := Lib.hid (Nat.ne_of_lt R_t2_17.out.z)
  have Zp_qy : Hid (ZAt TW (w17.alloc (.cells #[.bool false, .slice none 0 0, .bool false, .slice none 0 0] 73)) w17.heap.size 0 4) := Lib.hid (znewr w17)
  have P_u_18 : Hid (RatAt (w17.alloc (.cells #[.bool false, .slice none 0 0, .bool false, .slice none 0 0] 73)) b_u (fv U)) := Lib.hid (R_u_17.out.below (bnew w17 _))
  have P_t2_18 : Hid (RatAt (w17.alloc (.cells #[.bool false, .slice none 0 0, .bool false, .slice none 0 0] 73)) w12.heap.size (2 * fv T)) := Lib.hid (R_t2_17.out.below (bnew w17 _))
  have LZ_qy : Hid (w.heap.size ≤ w17.heap.size) := Lib.hid B_17.out.size
  have Bp_18 : Hid (Below w.heap.size w (w17.alloc (.cells #[.bool false, .slice none 0 0, .bool false, .slice none 0 0] 73))) := Lib.hid (bal B_17.out)
  refine (rquo_any _ _ b_u (2 * fv T) (fv U) _ Zp_qy.out P_t2_18.out P_u_18.out D2.out DU.out UN.out).mono ?_
  rintro e w18 ⟨rfl, hra, hr⟩
  have R_u_18 := Lib.hid (ratAt_wr P_u_18.out hr Zp_qy.out NE_u_qy.out)
  have R_t2_18 := Lib.hid (ratAt_wr P_t2_18.out hr Zp_qy.out NE_t2_qy.out)
  have R_qy_18 := Lib.hid hra
  have B_18 := Lib.hid (bwr Bp_18.out hr LZ_qy.out)
  clear hra hr
  go_wp2_with fail
  refine (N5.out _ w18 R_qy_18.out).mono ?_
  rintro e w19 ⟨rfl, hb⟩
  have R_qy_19 := Lib.hid (R_qy_18.out.below hb)
  have B_19 := Lib.hid (B_18.out.trans (hb.mono B_18.out.size))
  clear hb
  go_wp2_with fail
  go_ret2
  exact ⟨rfl, B_19.out⟩
theorem sv_one : sv [49] = ⟨#[49]⟩ := rfl
theorem itoa_one : sv (Lib.itoa 1) = ⟨#[49]⟩ := by
  have e : Lib.itoa 1 = [49] := by
    have := Lib.itoa_nonneg 1
    rw [show ((1 : Nat) : Int) = 1 from rfl] at this
    rw [this, Lib.decDigits_one (by decide)]; rfl
  rw [e]; rfl
theorem dyq_one (k : Int) : dyq 1 k = tw k := by unfold dyq tw; rw [Int.one_mul]
theorem dy_tw {k : Int} (h1 : -1000 ≤ k) (h2 : k ≤ 1000) : Dy 1200 (tw k) := by
  unfold tw
  by_cases h : 0 ≤ k
  · rw [if_pos h]
    have := Dy.of (B := 1200) (p := k.toNat) (c := 1) (j := 0) false (by decide) (by decide) (by omega) (by omega)
    rw [Nat.pow_zero, Rat.mkRat_one, Nat.mul_one, if_neg (by simp)] at this
    exact this
  · rw [if_neg h]
    have := Dy.of (B := 1200) (p := 0) (c := 1) (j := (-k).toNat) false (by decide) (by decide) (by omega) (by omega)
    rw [Nat.pow_zero, Nat.mul_one, if_neg (by simp)] at this
    exact this
set_option maxRecDepth 100000 in
set_option maxHeartbeats 4000000 in
theorem scaled17_any (x : Nat) (k : Int) (L : Nat) (w : World) (hx : x < 2 ^ 64) (hf : fin x) (h1 : -1000 ≤ k) (h2 : k ≤ 1000) (hl : fq (fv x * tw k) false = L) :
    Calls Try.prog 26 #[.float .f64 x, .int .i64 k] w (NearRet L w) := by
  have OX := Lib.hid (of_any x hx hf)
  have DX := Lib.hid (dy_fv hf)
  have DW := Lib.hid (dy_tw h1 h2)
  have DF := Lib.hid (fun w => dyadFrac_any 1 k w (by decide) (by decide) (by omega) (by omega))
  rw [itoa_one, dyq_one] at DF
  have BM := Lib.hid (rb_mul_bl' DX.out DW.out)
  have N1 := Lib.hid (fun b w hx => near_any b _ w hx BM.out.1 BM.out.2)
  rw [hl] at N1
  obtain ⟨q, hq⟩ : ∃ q, tw k = q := ⟨_, rfl⟩
  rw [hq] at DW DF N1
  clear hx hf h1 h2 hl hq BM
  go_enter Try.func26, Try.ntmps26
  go_wp2_with fail
  refine (OX.out _).mono ?_
  rintro e w1 ⟨b_x, rfl, hra, hle, hb⟩
  have R_x_1 := Lib.hid hra
  have NE_x_z : Hid (b_x ≠ w.heap.size) := Lib.hid (by simp at hle; omega)
  have Z_z_1 := Lib.hid ((znewr w).below hb)
  have LZ_z : Hid (w.heap.size ≤ w.heap.size) := Lib.hid (Nat.le_refl _)
  have B_1 := Lib.hid ((bal (Below.refl w.heap.size w)).trans (hb.mono (bal (Below.refl w.heap.size w)).size))
  clear hra hle hb
  go_wp2_with fail
  refine (DF.out _).mono ?_
  rintro e w2 ⟨b_d, rfl, hra, hle, hb⟩
  have R_d_2 := Lib.hid hra
  have NE_d_z : Hid (b_d ≠ w.heap.size) := Lib.hid (by have := Z_z_1.out.lt; (try simp at hle); omega)
  have R_x_2 := Lib.hid (R_x_1.out.below hb)
  have Z_z_2 := Lib.hid (Z_z_1.out.below hb)
  have B_2 := Lib.hid (B_1.out.trans (hb.mono B_1.out.size))
  clear hra hle hb
  go_wp2_with fail
  refine (rmul_any _ b_x b_d (fv x) q w2 Z_z_2.out R_x_2.out R_d_2.out DX.out DW.out).mono ?_
  rintro e w3 ⟨rfl, hra, hr⟩
  have R_x_3 := Lib.hid (ratAt_wr R_x_2.out hr Z_z_2.out NE_x_z.out)
  have R_d_3 := Lib.hid (ratAt_wr R_d_2.out hr Z_z_2.out NE_d_z.out)
  have R_z_3 := Lib.hid hra
  have B_3 := Lib.hid (bwr B_2.out hr LZ_z.out)
  clear hra hr
  go_wp2_with fail
  refine (N1.out _ w3 R_z_3.out).mono ?_
  rintro e w4 ⟨rfl, hb⟩
  have R_x_4 := Lib.hid (R_x_3.out.below hb)
  have R_d_4 := Lib.hid (R_d_3.out.below hb)
  have R_z_4 := Lib.hid (R_z_3.out.below hb)
  have B_4 := Lib.hid (B_3.out.trans (hb.mono B_3.out.size))
  clear hb
  go_wp2_with fail
  go_ret
  exact ⟨rfl, B_4.out⟩
end Go.Proofs.Ytokmommlabdcdaa
