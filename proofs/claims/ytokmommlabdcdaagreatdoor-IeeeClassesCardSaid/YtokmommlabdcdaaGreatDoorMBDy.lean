/- Contracts of surdref0's Pow, OfDyad. Contracts of surdref0's FracDyad, surdref2's Exact; both Exacts in one form. -/
import Derived.Test.YtokmommlabdcdaaGreatDoorMBig23
import Derived.Test.YtokmommlabdcdaaGreatDoorMBStr
import Derived.Test.YtokmommlabdcdaaGreatDoorMExact
import Derived.Test.YtokmommlabdcdaaGreatDoorMFlOdd
import Derived.Test.YtokmommlabdcdaaGreatDoorMBig11
import Derived.Test.YtokmommlabdcdaaGreatDoorMBig36
import Derived.Test.YtokmommlabdcdaaGreatDoorMFlRel
set_option linter.unusedVariables false
set_option linter.unusedSimpArgs false
set_option linter.unusedVariables false
set_option linter.unusedSimpArgs false
namespace Go.Proofs.YtokmommlabdcdaaGreatDoor
open Wd Fl Go.RowKit
theorem bl_one : bl 1 ≤ 100000 := by decide
/-- two to the k -/
theorem pow_any (k : Nat) (w : World) (hk : k ≤ 2000) :
    Calls Tryz.prog 54 #[.int .i64 (k : Int)] w (NewRet TW ((2 ^ k : Nat) : Int) w) := by
  have HK := Lib.hid (show k ≤ 100000 by omega)
  obtain ⟨r, hr⟩ : ∃ r, (1 : Int) * ((2 ^ k : Nat) : Int) = r := ⟨_, rfl⟩
  have e : ((2 ^ k : Nat) : Int) = r := by rw [← hr, Int.one_mul]
  rw [e]
  have HR := Lib.hid hr
  have k1 : IntKind.u64.wrap (k : Int) = (k : Int) := u64w _ (by omega) (by omega)
  have k2 : (k : Int) < 9223372036854775808 := by omega
  clear hk hr e
  go_enter Tryz.func54, Tryz.ntmps54
  go_wp2_with fail
  refine (newInt_any 1 _ (by decide) (by decide)).mono ?_
  intro e w1 h1
  rcases h1 with ⟨b1, rfl, hle, hi, hb⟩
  have Z := Lib.hid ((znew w).below hb)
  have I1 := Lib.hid hi
  have B1 := Lib.hid ((bnew w (.cells #[.bool false, .slice none 0 0] 60)).trans (hb.mono (bnew w (.cells #[.bool false, .slice none 0 0] 60)).size))
  clear hle hi hb
  go_wp2_with fail
  refine (lsh_any w.heap.size 0 b1 0 1 k w1 Z.out I1.out bl_one HK.out).mono ?_
  rintro e w2 ⟨rfl, hi2, hr2⟩
  rw [HR.out] at hi2
  have I2 := Lib.hid hi2
  have B2 := Lib.hid (bwr B1.out hr2 (Nat.le_refl _))
  clear hi2 hr2
  go_wp2_with fail
  go_ret
  exact ⟨_, rfl, Nat.le_refl _, I2.out, B2.out⟩

theorem tz_lt {n k B : Nat} (h : TzR n k) (h0 : n ≠ 0) (hb : blen n ≤ B) : k < B + 1 := by
  have e := (h.split h0).1
  have h1 : 2 ^ k ≤ n := Nat.le_of_dvd (Nat.pos_of_ne_zero h0) ⟨_, e⟩
  have h2 := blen_lt n
  have := (Nat.pow_lt_pow_iff_right (a := 2) (by decide)).1 (Nat.lt_of_le_of_lt h1 h2)
  omega
/-- the answer: a dyadic -/
def DyRet (s : ByteArray) (e : Int) (w : World) (en : Ending) (w' : World) : Prop := en = .returned (.agg #[.string s, .int .i64 e]) ∧ Below w.heap.size w w'
set_option maxRecDepth 100000 in
set_option maxHeartbeats 4000000 in
theorem ofDyad_zero (bx ox : Nat) (E : Int) (w : World) (hx : IntAt TW w ⟨bx, ox, none⟩ 0) :
    Calls Tryz.prog 87 #[.pointer (some ⟨bx, ox, none⟩), .int .i64 E] w (DyRet ⟨#[48]⟩ 0 w) := by
  have SG := Lib.hid (isign_any bx ox 0 _ (hx.below (bnew w (.cells #[.string ⟨#[]⟩, .int .i64 0] 26))) (by decide))
  clear hx
  go_enter Tryz.func87, Tryz.ntmps87
  go_wp2_with fail
  refine SG.out.mono ?_
  rintro e w1 ⟨rfl, rfl⟩
  have s0 : (sigI 0 == 0) = true := rfl
  go_wp2_with fail
  refine bodyPost_ret (v := .agg #[.string ⟨#[48]⟩, .int .i64 0]) ?_ rfl ⟨rfl, below_alloc w _⟩
  exact results_cell_row rfl _ _ w.heap.size _ #[.string ⟨#[48]⟩, .int .i64 0] (0, 0) _ rfl (heap_alloc_new w _) Tryz.underlying26 rfl (by rfl)
set_option maxRecDepth 100000 in
set_option maxHeartbeats 4000000 in
theorem ofDyad_any (bx ox : Nat) (n E : Int) (w : World) (hx : IntAt TW w ⟨bx, ox, none⟩ n) (hn : bl n ≤ 1100) (h0 : n ≠ 0) (hq : ∀ k, TzR n.natAbs k → (n.tdiv ((2 ^ k : Nat) : Int)).natAbs < 18446744073709551616) (hE : -5000 ≤ E ∧ E ≤ 5000) :
    Calls Tryz.prog 87 #[.pointer (some ⟨bx, ox, none⟩), .int .i64 E] w fun e w' => ∃ k : Nat, TzR n.natAbs k ∧ DyRet (sv (Lib.itoa (n.tdiv ((2 ^ k : Nat) : Int)))) (E + k) w e w' := by
  have SG := Lib.hid (isign_any bx ox n _ (hx.below (bnew w (.cells #[.string ⟨#[]⟩, .int .i64 0] 26))) (by omega))
  have TZ := Lib.hid (btz_any bx ox n _ (hx.below (bnew w (.cells #[.string ⟨#[]⟩, .int .i64 0] 26))) (by omega) h0)
  have s0 : (sigI n == 0) = false := by
    rw [beq_eq_false_iff_ne]; unfold sigI
    by_cases h : n < 0
    · rw [if_pos h]; decide
    · rw [if_neg h, if_neg h0]; decide
  have HX := Lib.hid hx
  have HN := Lib.hid hn
  have H0 := Lib.hid h0
  have HQ := Lib.hid hq
  obtain ⟨E1, E2⟩ := hE
  have PW := Lib.hid (fun k w h => pow_any k w h)
  clear hx hn h0 hq
  go_enter Tryz.func87, Tryz.ntmps87
  go_wp2_with fail
  refine SG.out.mono ?_
  rintro e w1 ⟨rfl, rfl⟩
  go_wp2_with fail
  refine TZ.out.mono ?_
  rintro e w1 ⟨⟨k, rfl, tz⟩, rfl⟩
  have KB : Hid (k < 1101) := Lib.hid (tz_lt tz (by have := H0.out; omega) HN.out)
  have TR := Lib.hid tz
  have k2 : (k : Int) < 1101 := by have := KB.out; omega
  clear tz
  go_wp2_with fail
  have BA := Lib.hid ((bnew w (.cells #[.string ⟨#[]⟩, .int .i64 0] 26)))
  have BB := Lib.hid (BA.out.trans ((bnew (w.alloc (.cells #[.string ⟨#[]⟩, .int .i64 0] 26)) (.cells #[.bool false, .slice none 0 0] 60)).mono BA.out.size))
  have ZZ := Lib.hid (znew (w.alloc (.cells #[.string ⟨#[]⟩, .int .i64 0] 26)))
  have HR0 : Hid (((w.alloc (.cells #[.string ⟨#[]⟩, .int .i64 0] 26)).alloc (.cells #[.bool false, .slice none 0 0] 60)).heap[w.heap.size]? = some (.cells #[.string ⟨#[]⟩, .int .i64 0] 26 (0, 0))) := Lib.hid ((below_alloc (w.alloc (.cells #[.string ⟨#[]⟩, .int .i64 0] 26)) (.cells #[.bool false, .slice none 0 0] 60)).block w.heap.size (by simp) |>.trans (heap_alloc_new w _))
  have LZ : Hid (w.heap.size < (w.alloc (.cells #[.string ⟨#[]⟩, .int .i64 0] 26)).heap.size) := Lib.hid (by simp)
  generalize hwA : (w.alloc (.cells #[.string ⟨#[]⟩, .int .i64 0] 26)).alloc (.cells #[.bool false, .slice none 0 0] 60) = wA at *
  have WAB : Hid (wA.heap.size = w.heap.size + 2) := Lib.hid (by rw [← hwA]; simp)
  rw [show (w.alloc (.cells #[.string ⟨#[]⟩, .int .i64 0] 26)).heap.size = w.heap.size + 1 by simp] at ZZ
  clear hwA BA
  refine (PW.out k wA (by have := KB.out; omega)).mono ?_
  rintro e w3 ⟨b3, rfl, hl3, hi3, hb3⟩
  have I3 := Lib.hid hi3
  have B3 := Lib.hid (BB.out.trans (hb3.mono BB.out.size))
  have Z3 := Lib.hid (ZZ.out.below hb3)
  have HR3 : Hid (w3.heap[w.heap.size]? = _) := Lib.hid ((hb3.block w.heap.size (by have := WAB.out; omega)).trans HR0.out)
  have N3 : Hid (b3 ≠ w.heap.size) := Lib.hid (by have := WAB.out; omega)
  clear hl3 hi3 hb3
  have HP : Hid (bl ((2 ^ k : Nat) : Int) ≤ 1101) := Lib.hid (by unfold bl; rw [Int.natAbs_natCast, blen_pow]; have := KB.out; omega)
  have DV : Hid (DivC n.natAbs (((2 ^ k : Nat) : Int)).natAbs) := Lib.hid (by rw [Int.natAbs_natCast]; exact DivC.pow k (by have := KB.out; omega))
  have QK := Lib.hid (HQ.out k TR.out)
  have QNZ : Hid (n.tdiv ((2 ^ k : Nat) : Int) ≠ 0) := Lib.hid (by
    intro h
    have h2 := congrArg Int.natAbs h
    rw [Int.natAbs_tdiv, Int.natAbs_natCast] at h2
    have h3 := (TR.out.split (by have := H0.out; omega)).2
    have h4 : n.natAbs / 2 ^ k = 0 := h2
    rw [h4] at h3
    exact absurd h3 (by decide))
  have QB : Hid (bl (n.tdiv ((2 ^ k : Nat) : Int)) ≤ 1100) := Lib.hid (Nat.le_trans (bl_tdiv _ _) HN.out)
  obtain ⟨P, hP⟩ : ∃ P : Int, ((2 ^ k : Nat) : Int) = P := ⟨_, rfl⟩
  rw [hP] at I3 HP DV QK QNZ QB
  have HPE := Lib.hid hP
  clear hP
  go_wp2_with fail
  refine (quo_any (w.heap.size + 1) 0 bx ox b3 0 n P w3 Z3.out (HX.out.below B3.out) I3.out (by have := HN.out; omega) (by have := HP.out; omega) DV.out).mono ?_
  rintro e w4 ⟨rfl, hi4, hr4⟩
  have I4 := Lib.hid hi4
  have B4 := Lib.hid (bwr B3.out hr4 (by omega))
  have HR4 : Hid (w4.heap[w.heap.size]? = _) := Lib.hid ((hr4.block w.heap.size (by have := Z3.out.lt; omega) (by omega)).trans HR3.out)
  clear hi4 hr4
  go_wp2_with fail
  refine (str_any (w.heap.size + 1) 0 (n.tdiv P) w4 I4.out QNZ.out QK.out).mono ?_
  rintro e w5 ⟨rfl, hb5⟩
  have HR5 : Hid (w5.heap[w.heap.size]? = some (.cells #[.string ⟨#[]⟩, .int .i64 0] 26 (0, 0))) := Lib.hid ((hb5.block w.heap.size (by have := I4.out.lt; omega)).trans HR4.out)
  have B5 := Lib.hid (B4.out.trans (hb5.mono B4.out.size))
  have C0 : w5.cell? ⟨w.heap.size, 0, none⟩ = some (.string ⟨#[]⟩) := by rw [cell_of_row _ _ _ _ _ _ HR5.out]; rfl
  have C1 : w5.cell? ⟨w.heap.size, 1, none⟩ = some (.int .i64 0) := by rw [cell_of_row _ _ _ _ _ _ HR5.out]; rfl
  have F0 := frozen_of_row w5 w.heap.size 0 _ _ HR5.out
  have F1 := frozen_of_row w5 w.heap.size 1 _ _ HR5.out
  clear hb5
  rw [← HPE.out]
  generalize hs : sv (Lib.itoa (n.tdiv ((2 ^ k : Nat) : Int))) = s
  have HS := Lib.hid hs
  clear hs
  go_wp2_with fail
  refine bodyPost_ret (v := .agg #[.string s, .int .i64 (E + (k : Int))]) ?_ rfl ⟨k, TR.out, by rw [HS.out], (B5.out.setCell (Nat.le_refl _) _).setCell (Nat.le_refl _) _⟩
  have H1 := heap_setCell_same w5 w.heap.size 0 _ _ (.string s) HR5.out
  have H2 := heap_setCell_same _ w.heap.size 1 _ _ (.int .i64 (E + (k : Int))) H1
  exact results_cell_row rfl _ _ w.heap.size _ #[.string s, .int .i64 (E + (k : Int))] (0, 0) _ rfl H2 Tryz.underlying26 rfl (by rfl)
end Go.Proofs.YtokmommlabdcdaaGreatDoor
set_option linter.unusedVariables false
set_option linter.unusedSimpArgs false
namespace Go.Proofs.YtokmommlabdcdaaGreatDoor
open Wd Fl Go.RowKit
theorem fv_num0 {x : Nat} : (fv x).num = 0 ↔ mant x = 0 := by
  have cr : (fv x).num * (UN : Int) = iv x * ((fv x).den : Int) := cross_of UN_ne rfl
  have hU : (UN : Int) ≠ 0 := by have := UN_pos; omega
  have hD : ((fv x).den : Int) ≠ 0 := by have := (fv x).den_pos; omega
  have hP : ((2 ^ (plc x - 1) : Nat) : Int) ≠ 0 := by have := Nat.two_pow_pos (plc x - 1); omega
  have hs : (smant x).natAbs = mant x := by unfold smant; split <;> simp
  constructor
  · intro h
    rw [h, Int.zero_mul] at cr
    rcases Int.mul_eq_zero.1 cr.symm with e | e
    · rw [iv_parts] at e
      rcases Int.mul_eq_zero.1 e with e | e
      · rw [← hs, e]; rfl
      · exact absurd e hP
    · exact absurd e hD
  · intro h
    have h1 : smant x = 0 := by rw [h] at hs; omega
    rw [iv_parts, h1, Int.zero_mul, Int.zero_mul] at cr
    rcases Int.mul_eq_zero.1 cr with e | e
    · exact e
    · exact absurd e hU
theorem num_of_tz {n : Int} {k : Nat} (h : TzR n.natAbs k) (h0 : n ≠ 0) : (n.tdiv ((2 ^ k : Nat) : Int)).natAbs % 2 = 1 ∧ n = n.tdiv ((2 ^ k : Nat) : Int) * ((2 ^ k : Nat) : Int) := by
  obtain ⟨e, o⟩ := h.split (by omega)
  have hq : (n.tdiv ((2 ^ k : Nat) : Int)).natAbs = n.natAbs / 2 ^ k := by rw [Int.natAbs_tdiv, Int.natAbs_natCast]; rfl
  refine ⟨by rw [hq]; exact o, ?_⟩
  have hd : ((2 ^ k : Nat) : Int) ∣ n := by
    rw [← Int.natAbs_dvd_natAbs, Int.natAbs_natCast]
    exact ⟨_, e⟩
  exact (Int.tdiv_mul_cancel hd).symm
theorem odd_of_tz {x i k : Nat} (hd : (fv x).den = 2 ^ i) (h0 : (fv x).num ≠ 0) (h : TzR (fv x).num.natAbs k) : OddV x ((fv x).num.tdiv ((2 ^ k : Nat) : Int)) ((k : Int) - i) :=
  OddV.of_frac (num_of_tz h h0).1 (num_of_tz h h0).2 hd
theorem OddV.small {x : Nat} {d e : Int} (h : OddV x d e) : d.natAbs < 2 ^ 53 := by
  obtain ⟨_, _, t, ht, _⟩ := h
  have := mant_lt x
  have h2 : d.natAbs ≤ mant x := by rw [ht]; exact Nat.le_mul_of_pos_left _ (Nat.two_pow_pos t)
  omega
/-- what Exact tells -/
def ExS (x : Nat) (s : ByteArray) (e c : Int) : Prop := (¬ fin x ∧ s = ⟨#[]⟩ ∧ e = 0 ∧ c = 20) ∨ (fin x ∧ mant x = 0 ∧ s = ⟨#[48]⟩ ∧ e = 0 ∧ c = 0) ∨ (fin x ∧ mant x ≠ 0 ∧ c = 0 ∧ ∃ d, OddV x d e ∧ s = sv (Lib.itoa d))
theorem ExS.unique {x : Nat} {s s' : ByteArray} {e e' c c' : Int} (h : ExS x s e c) (g : ExS x s' e' c') : s = s' ∧ e = e' ∧ c = c' := by
  rcases h with ⟨h1, rfl, rfl, rfl⟩ | ⟨h1, h2, rfl, rfl, rfl⟩ | ⟨h1, h2, rfl, d, h3, rfl⟩ <;> rcases g with ⟨g1, rfl, rfl, rfl⟩ | ⟨g1, g2, rfl, rfl, rfl⟩ | ⟨g1, g2, rfl, d', g3, rfl⟩
  all_goals first | exact ⟨rfl, rfl, rfl⟩ | exact absurd h1 g1 | exact absurd g1 h1 | exact absurd h2 g2 | exact absurd g2 h2 | skip
  obtain ⟨rfl, rfl⟩ := OddV.unique h3 g3
  exact ⟨rfl, rfl, rfl⟩
def ExO (x : Nat) (w : World) (en : Ending) (w' : World) : Prop := ∃ s e c, ExS x s e c ∧ ExRet s e c w en w'
theorem iexact_any (x : Nat) (hx : x < 2 ^ 64) (w : World) (hT : Tabs w) : Calls Tryz.prog 6 #[.float .f64 x] w (ExO x w) := by
  by_cases hf : fin x
  · by_cases h0 : mant x = 0
    · exact (exact_zero x hx hf h0 w).mono fun e w' h => ⟨_, _, _, .inr (.inl ⟨hf, h0, rfl, rfl, rfl⟩), h⟩
    · obtain ⟨d, e, h1, _, h2⟩ := exact_some x hx hf h0 w hT
      exact h2.mono fun e w' h => ⟨_, _, _, .inr (.inr ⟨hf, h0, rfl, d, h1, rfl⟩), h⟩
  · exact (exact_none x hx hf w).mono fun e w' h => ⟨_, _, _, .inl ⟨hf, rfl, rfl, rfl⟩, h⟩
/-- the dyadic of a finite number -/
def DyO (x : Nat) (w : World) (en : Ending) (w' : World) : Prop := ∃ s e, ExS x s e 0 ∧ DyRet s e w en w'
set_option maxRecDepth 100000 in
set_option maxHeartbeats 4000000 in
theorem ratNum_any (b : Nat) (w : World) (x : Rat) (hx : RatAt w b x) :
    Calls Tryz.prog 88 #[.pointer (some ⟨b, 0, none⟩)] w fun e w' => e = .returned (.pointer (some ⟨b, 0, none⟩)) ∧ w = w' := by
  obtain ⟨neg, a, cap, l, h1, h2, H3, OK, NM, HN, HE, HK, N1⟩ := IntAt.open hx.1
  clear hx
  go_enter Tryz.func88, Tryz.ntmps88
  go_wp2_with fail
  go_ret
  exact ⟨rfl, rfl⟩
set_option maxRecDepth 100000 in
set_option maxHeartbeats 4000000 in
theorem fracDyad_any (b x : Nat) (w : World) (hf : fin x) (hx : RatAt w b (fv x)) :
    Calls Tryz.prog 63 #[.pointer (some ⟨b, 0, none⟩)] w (DyO x w) := by
  have hxA := RatAt.below hx (bnew w (.cells #[.string ⟨#[]⟩, .int .i64 0] 26))
  have BA := Lib.hid (bnew w (.cells #[.string ⟨#[]⟩, .int .i64 0] 26))
  have HR0 := Lib.hid (heap_alloc_new w (.cells #[.string ⟨#[]⟩, .int .i64 0] 26))
  have SA : Hid ((w.alloc (.cells #[.string ⟨#[]⟩, .int .i64 0] 26)).heap.size = w.heap.size + 1) := Lib.hid (by simp)
  have NU := Lib.hid (ratNum_any b _ _ hxA)
  have DE := Lib.hid (denom_any b _ _ hxA)
  clear hxA
  have D := Dy.fv hf
  obtain ⟨i, hi, hd⟩ := D.den
  have DB : Hid (bl ((fv x).den : Int) = i + 1) := Lib.hid (by rw [hd]; unfold bl; rw [Int.natAbs_natCast, blen_pow])
  have BL : Hid (i < 1081) := Lib.hid (by omega)
  have NB : Hid (bl (fv x).num ≤ 1080) := Lib.hid D.num
  have HX := Lib.hid hx
  have iI : (i : Int) < 1081 := by omega
  have OF : Hid (∀ W, Below w.heap.size w W → Calls Tryz.prog 87 #[.pointer (some ⟨b, 0, none⟩), .int .i64 (-(i : Int))] W (DyO x W)) := Lib.hid (fun W hW => by
    by_cases h0 : (fv x).num = 0
    · have hi0 := hx.1
      rw [h0] at hi0
      exact (ofDyad_zero b 0 _ W (hi0.below hW)).mono fun e w' h => ⟨_, _, .inr (.inl ⟨hf, fv_num0.1 h0, rfl, rfl, rfl⟩), h⟩
    · refine (ofDyad_any b 0 (fv x).num (-(i : Int)) W (hx.1.below hW) (by have := NB.out; omega) h0 (fun k hk => ?_) ⟨by omega, by omega⟩).mono fun e w' h => ?_
      · have := OddV.small (odd_of_tz hd h0 hk)
        omega
      · obtain ⟨k, hk, hr⟩ := h
        have o := odd_of_tz hd h0 hk
        rw [show -(i : Int) + (k : Int) = (k : Int) - i by omega] at hr
        exact ⟨_, _, .inr (.inr ⟨hf, fun e => h0 (fv_num0.2 e), rfl, _, o, rfl⟩), hr⟩)
  clear hx D hi hd hf
  go_enter Tryz.func63, Tryz.ntmps63
  go_wp2_with fail
  refine NU.out.mono ?_
  rintro e w1 ⟨rfl, rfl⟩
  go_wp2_with fail
  refine DE.out.mono ?_
  rintro e w1 ⟨bp, op, rfl, hi1, hb1, _⟩
  have I1 := Lib.hid hi1
  have B1 := Lib.hid (BA.out.trans (hb1.mono BA.out.size))
  have HR1 : Hid (w1.heap[w.heap.size]? = _) := Lib.hid ((hb1.block w.heap.size (by have := SA.out; omega)).trans HR0.out)
  have L1 : Hid (w.heap.size < w1.heap.size) := Lib.hid (by have := hb1.size; have := SA.out; omega)
  clear hi1 hb1
  go_wp2_with fail
  refine (bitLen_any bp op _ w1 I1.out (by rw [DB.out]; have := BL.out; omega)).mono ?_
  rintro e w2 ⟨rfl, hb2⟩
  have B2 := Lib.hid (B1.out.trans (hb2.mono B1.out.size))
  have HR2 : Hid (w2.heap[w.heap.size]? = _) := Lib.hid ((hb2.block w.heap.size L1.out).trans HR1.out)
  have L2 : Hid (w.heap.size < w2.heap.size) := Lib.hid (by have := hb2.size; have := L1.out; omega)
  clear hb2
  rw [DB.out]
  have a2 : ((i + 1 : Nat) : Int) = (i : Int) + 1 := by omega
  have a1 : (i : Int) + 1 - 1 = (i : Int) := by omega
  rw [a2]
  go_wp2_with fail
  refine (OF.out w2 B2.out).mono ?_
  rintro e w3 ⟨s, E, hs, rfl, hb3⟩
  have HS := Lib.hid hs
  have B3 := Lib.hid (B2.out.trans (hb3.mono B2.out.size))
  have HR3 : Hid (w3.heap[w.heap.size]? = some (.cells #[.string ⟨#[]⟩, .int .i64 0] 26 (0, 0))) := Lib.hid ((hb3.block w.heap.size L2.out).trans HR2.out)
  have C0 : w3.cell? ⟨w.heap.size, 0, none⟩ = some (.string ⟨#[]⟩) := by rw [cell_of_row _ _ _ _ _ _ HR3.out]; rfl
  have C1 : w3.cell? ⟨w.heap.size, 1, none⟩ = some (.int .i64 0) := by rw [cell_of_row _ _ _ _ _ _ HR3.out]; rfl
  have F0 := frozen_of_row w3 w.heap.size 0 _ _ HR3.out
  have F1 := frozen_of_row w3 w.heap.size 1 _ _ HR3.out
  clear hs hb3
  go_wp2_with fail
  refine bodyPost_ret (v := .agg #[.string s, .int .i64 E]) ?_ rfl ⟨s, E, HS.out, rfl, (B3.out.setCell (Nat.le_refl _) _).setCell (Nat.le_refl _) _⟩
  have H1 := heap_setCell_same w3 w.heap.size 0 _ _ (.string s) HR3.out
  have H2 := heap_setCell_same _ w.heap.size 1 _ _ (.int .i64 E) H1
  exact results_cell_row rfl _ _ w.heap.size _ #[.string s, .int .i64 E] (0, 0) _ rfl H2 Tryz.underlying26 rfl (by rfl)
set_option maxRecDepth 100000 in
set_option maxHeartbeats 4000000 in
theorem rexact_fin (x : Nat) (hx : x < 2 ^ 64) (hf : fin x) (w : World) :
    Calls Tryz.prog 22 #[.float .f64 x] w (ExO x w) := by
  have nx : ¬ isNan x := by unfold fin at hf; unfold isNan; omega
  have NX := rnone_any x
  rw [decide_eq_false nx] at NX
  have IX := rinf_any x nx
  rw [decide_eq_false (not_not_intro hf)] at IX
  have NX := Lib.hid NX
  have IX := Lib.hid IX
  have SF := Lib.hid (fun b W hz => setFloat_any b x W hz hx hf)
  have FD := Lib.hid (fun b W h => fracDyad_any b x W hf h)
  clear hx hf nx
  have BA := Lib.hid (bnew w (.cells #[.string ⟨#[]⟩, .int .i64 0] 26))
  have BB := Lib.hid (BA.out.trans ((bnew (w.alloc (.cells #[.string ⟨#[]⟩, .int .i64 0] 26)) (.cells #[.bool false, .slice none 0 0, .bool false, .slice none 0 0] 71)).mono BA.out.size))
  have ZZ := znewr (w.alloc (.cells #[.string ⟨#[]⟩, .int .i64 0] 26))
  rw [show (w.alloc (.cells #[.string ⟨#[]⟩, .int .i64 0] 26)).heap.size = w.heap.size + 1 by simp] at ZZ
  have ZZ := Lib.hid ZZ
  have HR0 : Hid (((w.alloc (.cells #[.string ⟨#[]⟩, .int .i64 0] 26)).alloc (.cells #[.bool false, .slice none 0 0, .bool false, .slice none 0 0] 71)).heap[w.heap.size]? = some (.cells #[.string ⟨#[]⟩, .int .i64 0] 26 (0, 0))) := Lib.hid ((below_alloc (w.alloc (.cells #[.string ⟨#[]⟩, .int .i64 0] 26)) (.cells #[.bool false, .slice none 0 0, .bool false, .slice none 0 0] 71)).block w.heap.size (by simp) |>.trans (heap_alloc_new w _))
  go_enter Tryz.func22, Tryz.ntmps22
  go_wp2_with fail
  refine (NX.out _).mono ?_
  rintro e w1 ⟨rfl, rfl⟩
  go_wp2_with fail
  refine (IX.out _).mono ?_
  rintro e w1 ⟨rfl, rfl⟩
  go_wp2_with fail
  refine (SF.out (w.heap.size + 1) _ ZZ.out).mono ?_
  rintro e w1 ⟨rfl, hr1, hw1⟩
  have R1 := Lib.hid hr1
  have B1 := Lib.hid (bwr BB.out hw1 (by omega))
  have HR1 : Hid (w1.heap[w.heap.size]? = _) := Lib.hid ((hw1.block w.heap.size (by have := ZZ.out.lt; omega) (by omega)).trans HR0.out)
  have L1 : Hid (w.heap.size < w1.heap.size) := Lib.hid (by have := hw1.size; have := ZZ.out.lt; omega)
  clear hr1 hw1
  go_wp2_with fail
  refine (FD.out (w.heap.size + 1) w1 R1.out).mono ?_
  rintro e w3 ⟨s, E, hs, rfl, hb3⟩
  have HS := Lib.hid hs
  have B3 := Lib.hid (B1.out.trans (hb3.mono B1.out.size))
  have HR3 : Hid (w3.heap[w.heap.size]? = some (.cells #[.string ⟨#[]⟩, .int .i64 0] 26 (0, 0))) := Lib.hid ((hb3.block w.heap.size L1.out).trans HR1.out)
  have C0 : w3.cell? ⟨w.heap.size, 0, none⟩ = some (.string ⟨#[]⟩) := by rw [cell_of_row _ _ _ _ _ _ HR3.out]; rfl
  have C1 : w3.cell? ⟨w.heap.size, 1, none⟩ = some (.int .i64 0) := by rw [cell_of_row _ _ _ _ _ _ HR3.out]; rfl
  have F0 := frozen_of_row w3 w.heap.size 0 _ _ HR3.out
  have F1 := frozen_of_row w3 w.heap.size 1 _ _ HR3.out
  clear hs hb3
  go_wp2_with fail
  refine bodyPost_ret (v := .tuple #[.agg #[.string s, .int .i64 E], .int .i64 0]) ?_ rfl ⟨s, E, 0, HS.out, rfl, (B3.out.setCell (Nat.le_refl _) _).setCell (Nat.le_refl _) _⟩
  rw [results_cell_tmp rfl]
  have H1 := heap_setCell_same w3 w.heap.size 0 _ _ (.string s) HR3.out
  have H2 := heap_setCell_same _ w.heap.size 1 _ _ (.int .i64 E) H1
  have D0 := cell_of_row _ w.heap.size 0 _ _ _ H2
  have D1 := cell_of_row _ w.heap.size 1 _ _ _ H2
  simp at D0 D1
  go_simp
set_option maxRecDepth 100000 in
set_option maxHeartbeats 4000000 in
theorem rexact_any (x : Nat) (hx : x < 2 ^ 64) (w : World) :
    Calls Tryz.prog 22 #[.float .f64 x] w (ExO x w) := by
  by_cases hf : fin x
  · exact rexact_fin x hx hf w
  · have NX := rnone_any x
    have S : Hid (ExS x ⟨#[]⟩ 0 20) := Lib.hid (.inl ⟨hf, rfl, rfl, rfl⟩)
    by_cases nx : isNan x
    · rw [decide_eq_true nx] at NX
      have NX := Lib.hid NX
      clear hx hf nx
      go_enter Tryz.func22, Tryz.ntmps22
      go_wp2_with fail
      refine (NX.out _).mono ?_
      rintro e w1 ⟨rfl, rfl⟩
      go_wp2_with fail
      refine bodyPost_ret (v := .tuple #[.agg #[.string ⟨#[]⟩, .int .i64 0], .int .i64 20]) ?_ rfl ⟨_, _, _, S.out, rfl, below_alloc w _⟩
      rw [results_cell_tmp rfl]
      go_simp
    · rw [decide_eq_false nx] at NX
      have IX := rinf_any x nx
      rw [decide_eq_true hf] at IX
      have NX := Lib.hid NX
      have IX := Lib.hid IX
      clear hx hf nx
      go_enter Tryz.func22, Tryz.ntmps22
      go_wp2_with fail
      refine (NX.out _).mono ?_
      rintro e w1 ⟨rfl, rfl⟩
      go_wp2_with fail
      refine (IX.out _).mono ?_
      rintro e w1 ⟨rfl, rfl⟩
      go_wp2_with fail
      refine bodyPost_ret (v := .tuple #[.agg #[.string ⟨#[]⟩, .int .i64 0], .int .i64 20]) ?_ rfl ⟨_, _, _, S.out, rfl, below_alloc w _⟩
      rw [results_cell_tmp rfl]
      go_simp
end Go.Proofs.YtokmommlabdcdaaGreatDoor
