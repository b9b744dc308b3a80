/- Contracts of surdref0's Pow, OfDyad. Contracts of surdref0's FracDyad, surdref2's Exact; both Exacts in one form. Contract of math.Ldexp where the answer is a float's own odd number and its power of two. Contracts of surdref0's Int of a numeral, and of DyadFrac. Contracts of surdref0's form, digits, Whole, Dyad of the numerals at hand. -/
import Derived.Test.YtokmommlabdcdaaGreatDoorVBig23
import Derived.Test.YtokmommlabdcdaaGreatDoorVBStr
import Derived.Test.YtokmommlabdcdaaGreatDoorVExact
import Derived.Test.YtokmommlabdcdaaGreatDoorVFlOdd
import Derived.Test.YtokmommlabdcdaaGreatDoorVBig11
import Derived.Test.YtokmommlabdcdaaGreatDoorVBig36
import Derived.Test.YtokmommlabdcdaaGreatDoorVFlRel
import Derived.Test.YtokmommlabdcdaaGreatDoorVDBase
import Derived.Test.YtokmommlabdcdaaGreatDoorVBig27
import Derived.Test.YtokmommlabdcdaaGreatDoorVSetStr
import Derived.Lib.ItoaLen
set_option linter.unusedVariables false
set_option linter.unusedSimpArgs false
set_option linter.unusedVariables false
set_option linter.unusedSimpArgs false
namespace Go.Proofs.YtokmommlabdcdaaGreatDoor
open Wd Fl Go.RowKit
theorem bl_one : bl 1 ≤ 100000 := by decide
/-- two to the k -/
theorem pow_any (k : Nat) (w : World) (hk : k ≤ 2000) :
    Calls Tryz.prog 54 #[.int .i64 (k : Int)] w (NewRet TW ((2 ^ k : Nat) : Int) w) := by
  have HK := Lib.hid (show k ≤ 100000 by omega)
  obtain ⟨r, hr⟩ : ∃ r, (1 : Int) * ((2 ^ k : Nat) : Int) = r := ⟨_, rfl⟩
  have e : ((2 ^ k : Nat) : Int) = r := by rw [← hr, Int.one_mul]
  rw [e]
  have HR := Lib.hid hr
  have k1 : IntKind.u64.wrap (k : Int) = (k : Int) := u64w _ (by omega) (by omega)
  have k2 : (k : Int) < 9223372036854775808 := by omega
  clear hk hr e
  go_enter Tryz.func54, Tryz.ntmps54
  go_wp2_with fail
  refine (newInt_any 1 _ (by decide) (by decide)).mono ?_
  intro e w1 h1
  rcases h1 with ⟨b1, rfl, hle, hi, hb⟩
  have Z := Lib.hid ((znew w).below hb)
  have I1 := Lib.hid hi
  have B1 := Lib.hid ((bnew w (.cells #[.bool false, .slice none 0 0] 60)).trans (hb.mono (bnew w (.cells #[.bool false, .slice none 0 0] 60)).size))
  clear hle hi hb
  go_wp2_with fail
  refine (lsh_any w.heap.size 0 b1 0 1 k w1 Z.out I1.out bl_one HK.out).mono ?_
  rintro e w2 ⟨rfl, hi2, hr2⟩
  rw [HR.out] at hi2
  have I2 := Lib.hid hi2
  have B2 := Lib.hid (bwr B1.out hr2 (Nat.le_refl _))
  clear hi2 hr2
  go_wp2_with fail
  go_ret
  exact ⟨_, rfl, Nat.le_refl _, I2.out, B2.out⟩

theorem tz_lt {n k B : Nat} (h : TzR n k) (h0 : n ≠ 0) (hb : blen n ≤ B) : k < B + 1 := by
  have e := (h.split h0).1
  have h1 : 2 ^ k ≤ n := Nat.le_of_dvd (Nat.pos_of_ne_zero h0) ⟨_, e⟩
  have h2 := blen_lt n
  have := (Nat.pow_lt_pow_iff_right (a := 2) (by decide)).1 (Nat.lt_of_le_of_lt h1 h2)
  omega
/-- the answer: a dyadic -/
def DyRet (s : ByteArray) (e : Int) (w : World) (en : Ending) (w' : World) : Prop := en = .returned (.agg #[.string s, .int .i64 e]) ∧ Below w.heap.size w w'
set_option maxRecDepth 100000 in
set_option maxHeartbeats 4000000 in
theorem ofDyad_zero (bx ox : Nat) (E : Int) (w : World) (hx : IntAt TW w ⟨bx, ox, none⟩ 0) :
    Calls Tryz.prog 87 #[.pointer (some ⟨bx, ox, none⟩), .int .i64 E] w (DyRet ⟨#[48]⟩ 0 w) := by
  have SG := Lib.hid (isign_any bx ox 0 _ (hx.below (bnew w (.cells #[.string ⟨#[]⟩, .int .i64 0] 26))) (by decide))
  clear hx
  go_enter Tryz.func87, Tryz.ntmps87
  go_wp2_with fail
  refine SG.out.mono ?_
  rintro e w1 ⟨rfl, rfl⟩
  have s0 : (sigI 0 == 0) = true := rfl
  go_wp2_with fail
  refine bodyPost_ret (v := .agg #[.string ⟨#[48]⟩, .int .i64 0]) ?_ rfl ⟨rfl, below_alloc w _⟩
  exact results_cell_row rfl _ _ w.heap.size _ #[.string ⟨#[48]⟩, .int .i64 0] (0, 0) _ rfl (heap_alloc_new w _) Tryz.underlying26 rfl (by rfl)
set_option maxRecDepth 100000 in
set_option maxHeartbeats 4000000 in
theorem ofDyad_any (bx ox : Nat) (n E : Int) (w : World) (hx : IntAt TW w ⟨bx, ox, none⟩ n) (hn : bl n ≤ 1100) (h0 : n ≠ 0) (hq : ∀ k, TzR n.natAbs k → (n.tdiv ((2 ^ k : Nat) : Int)).natAbs < 18446744073709551616) (hE : -5000 ≤ E ∧ E ≤ 5000) :
    Calls Tryz.prog 87 #[.pointer (some ⟨bx, ox, none⟩), .int .i64 E] w fun e w' => ∃ k : Nat, TzR n.natAbs k ∧ DyRet (sv (Lib.itoa (n.tdiv ((2 ^ k : Nat) : Int)))) (E + k) w e w' := by
  have SG := Lib.hid (isign_any bx ox n _ (hx.below (bnew w (.cells #[.string ⟨#[]⟩, .int .i64 0] 26))) (by omega))
  have TZ := Lib.hid (btz_any bx ox n _ (hx.below (bnew w (.cells #[.string ⟨#[]⟩, .int .i64 0] 26))) (by omega) h0)
  have s0 : (sigI n == 0) = false := by
    rw [beq_eq_false_iff_ne]; unfold sigI
    by_cases h : n < 0
    · rw [if_pos h]; decide
    · rw [if_neg h, if_neg h0]; decide
  have HX := Lib.hid hx
  have HN := Lib.hid hn
  have H0 := Lib.hid h0
  have HQ := Lib.hid hq
  obtain ⟨E1, E2⟩ := hE
  have PW := Lib.hid (fun k w h => pow_any k w h)
  clear hx hn h0 hq
  go_enter Tryz.func87, Tryz.ntmps87
  go_wp2_with fail
  refine SG.out.mono ?_
  rintro e w1 ⟨rfl, rfl⟩
  go_wp2_with fail
  refine TZ.out.mono ?_
  rintro e w1 ⟨⟨k, rfl, tz⟩, rfl⟩
  have KB : Hid (k < 1101) := Lib.hid (tz_lt tz (by have := H0.out; omega) HN.out)
  have TR := Lib.hid tz
  have k2 : (k : Int) < 1101 := by have := KB.out; omega
  clear tz
  go_wp2_with fail
  have BA := Lib.hid ((bnew w (.cells #[.string ⟨#[]⟩, .int .i64 0] 26)))
  have BB := Lib.hid (BA.out.trans ((bnew (w.alloc (.cells #[.string ⟨#[]⟩, .int .i64 0] 26)) (.cells #[.bool false, .slice none 0 0] 60)).mono BA.out.size))
  have ZZ := Lib.hid (znew (w.alloc (.cells #[.string ⟨#[]⟩, .int .i64 0] 26)))
  have HR0 : Hid (((w.alloc (.cells #[.string ⟨#[]⟩, .int .i64 0] 26)).alloc (.cells #[.bool false, .slice none 0 0] 60)).heap[w.heap.size]? = some (.cells #[.string ⟨#[]⟩, .int .i64 0] 26 (0, 0))) := Lib.hid ((below_alloc (w.alloc (.cells #[.string ⟨#[]⟩, .int .i64 0] 26)) (.cells #[.bool false, .slice none 0 0] 60)).block w.heap.size (by simp) |>.trans (heap_alloc_new w _))
  have LZ : Hid (w.heap.size < (w.alloc (.cells #[.string ⟨#[]⟩, .int .i64 0] 26)).heap.size) := Lib.hid (by simp)
  generalize hwA : (w.alloc (.cells #[.string ⟨#[]⟩, .int .i64 0] 26)).alloc (.cells #[.bool false, .slice none 0 0] 60) = wA at *
  have WAB : Hid (wA.heap.size = w.heap.size + 2) := Lib.hid (by rw [← hwA]; simp)
  rw [show (w.alloc (.cells #[.string ⟨#[]⟩, .int .i64 0] 26)).heap.size = w.heap.size + 1 by simp] at ZZ
  clear hwA BA
  refine (PW.out k wA (by have := KB.out; omega)).mono ?_
  rintro e w3 ⟨b3, rfl, hl3, hi3, hb3⟩
  have I3 := Lib.hid hi3
  have B3 := Lib.hid (BB.out.trans (hb3.mono BB.out.size))
  have Z3 := Lib.hid (ZZ.out.below hb3)
  have HR3 : Hid (w3.heap[w.heap.size]? = _) := Lib.hid ((hb3.block w.heap.size (by have := WAB.out; omega)).trans HR0.out)
  have N3 : Hid (b3 ≠ w.heap.size) := Lib.hid (by have := WAB.out; omega)
  clear hl3 hi3 hb3
  have HP : Hid (bl ((2 ^ k : Nat) : Int) ≤ 1101) := Lib.hid (by unfold bl; rw [Int.natAbs_natCast, blen_pow]; have := KB.out; omega)
  have DV : Hid (DivC n.natAbs (((2 ^ k : Nat) : Int)).natAbs) := Lib.hid (by rw [Int.natAbs_natCast]; exact DivC.pow k (by have := KB.out; omega))
  have QK := Lib.hid (HQ.out k TR.out)
  have QNZ : Hid (n.tdiv ((2 ^ k : Nat) : Int) ≠ 0) := Lib.hid (by
    intro h
    have h2 := congrArg Int.natAbs h
    rw [Int.natAbs_tdiv, Int.natAbs_natCast] at h2
    have h3 := (TR.out.split (by have := H0.out; omega)).2
    have h4 : n.natAbs / 2 ^ k = 0 := h2
    rw [h4] at h3
    exact absurd h3 (by decide))
  have QB : Hid (bl (n.tdiv ((2 ^ k : Nat) : Int)) ≤ 1100) := Lib.hid (Nat.le_trans (bl_tdiv _ _) HN.out)
  obtain ⟨P, hP⟩ : ∃ P : Int, ((2 ^ k : Nat) : Int) = P := ⟨_, rfl⟩
  rw [hP] at I3 HP DV QK QNZ QB
  have HPE := Lib.hid hP
  clear hP
  go_wp2_with fail
  refine (quo_any (w.heap.size + 1) 0 bx ox b3 0 n P w3 Z3.out (HX.out.below B3.out) I3.out (by have := HN.out; omega) (by have := HP.out; omega) DV.out).mono ?_
  rintro e w4 ⟨rfl, hi4, hr4⟩
  have I4 := Lib.hid hi4
  have B4 := Lib.hid (bwr B3.out hr4 (by omega))
  have HR4 : Hid (w4.heap[w.heap.size]? = _) := Lib.hid ((hr4.block w.heap.size (by have := Z3.out.lt; omega) (by omega)).trans HR3.out)
  clear hi4 hr4
  go_wp2_with fail
  refine (str_any (w.heap.size + 1) 0 (n.tdiv P) w4 I4.out QNZ.out QK.out).mono ?_
  rintro e w5 ⟨rfl, hb5⟩
  have HR5 : Hid (w5.heap[w.heap.size]? = some (.cells #[.string ⟨#[]⟩, .int .i64 0] 26 (0, 0))) := Lib.hid ((hb5.block w.heap.size (by have := I4.out.lt; omega)).trans HR4.out)
  have B5 := Lib.hid (B4.out.trans (hb5.mono B4.out.size))
  have C0 : w5.cell? ⟨w.heap.size, 0, none⟩ = some (.string ⟨#[]⟩) := by rw [cell_of_row _ _ _ _ _ _ HR5.out]; rfl
  have C1 : w5.cell? ⟨w.heap.size, 1, none⟩ = some (.int .i64 0) := by rw [cell_of_row _ _ _ _ _ _ HR5.out]; rfl
  have F0 := frozen_of_row w5 w.heap.size 0 _ _ HR5.out
  have F1 := frozen_of_row w5 w.heap.size 1 _ _ HR5.out
  clear hb5
  rw [← HPE.out]
  generalize hs : sv (Lib.itoa (n.tdiv ((2 ^ k : Nat) : Int))) = s
  have HS := Lib.hid hs
  clear hs
  go_wp2_with fail
  refine bodyPost_ret (v := .agg #[.string s, .int .i64 (E + (k : Int))]) ?_ rfl ⟨k, TR.out, by rw [HS.out], (B5.out.setCell (Nat.le_refl _) _).setCell (Nat.le_refl _) _⟩
  have H1 := heap_setCell_same w5 w.heap.size 0 _ _ (.string s) HR5.out
  have H2 := heap_setCell_same _ w.heap.size 1 _ _ (.int .i64 (E + (k : Int))) H1
  exact results_cell_row rfl _ _ w.heap.size _ #[.string s, .int .i64 (E + (k : Int))] (0, 0) _ rfl H2 Tryz.underlying26 rfl (by rfl)
end Go.Proofs.YtokmommlabdcdaaGreatDoor
set_option linter.unusedVariables false
set_option linter.unusedSimpArgs false
namespace Go.Proofs.YtokmommlabdcdaaGreatDoor
open Wd Fl Go.RowKit
theorem fv_num0 {x : Nat} : (fv x).num = 0 ↔ mant x = 0 := by
  have cr : (fv x).num * (UN : Int) = iv x * ((fv x).den : Int) := cross_of UN_ne rfl
  have hU : (UN : Int) ≠ 0 := by have := UN_pos; omega
  have hD : ((fv x).den : Int) ≠ 0 := by have := (fv x).den_pos; omega
  have hP : ((2 ^ (plc x - 1) : Nat) : Int) ≠ 0 := by have := Nat.two_pow_pos (plc x - 1); omega
  have hs : (smant x).natAbs = mant x := by unfold smant; split <;> simp
  constructor
  · intro h
    rw [h, Int.zero_mul] at cr
    rcases Int.mul_eq_zero.1 cr.symm with e | e
    · rw [iv_parts] at e
      rcases Int.mul_eq_zero.1 e with e | e
      · rw [← hs, e]; rfl
      · exact absurd e hP
    · exact absurd e hD
  · intro h
    have h1 : smant x = 0 := by rw [h] at hs; omega
    rw [iv_parts, h1, Int.zero_mul, Int.zero_mul] at cr
    rcases Int.mul_eq_zero.1 cr with e | e
    · exact e
    · exact absurd e hU
theorem num_of_tz {n : Int} {k : Nat} (h : TzR n.natAbs k) (h0 : n ≠ 0) : (n.tdiv ((2 ^ k : Nat) : Int)).natAbs % 2 = 1 ∧ n = n.tdiv ((2 ^ k : Nat) : Int) * ((2 ^ k : Nat) : Int) := by
  obtain ⟨e, o⟩ := h.split (by omega)
  have hq : (n.tdiv ((2 ^ k : Nat) : Int)).natAbs = n.natAbs / 2 ^ k := by rw [Int.natAbs_tdiv, Int.natAbs_natCast]; rfl
  refine ⟨by rw [hq]; exact o, ?_⟩
  have hd : ((2 ^ k : Nat) : Int) ∣ n := by
    rw [← Int.natAbs_dvd_natAbs, Int.natAbs_natCast]
    exact ⟨_, e⟩
  exact (Int.tdiv_mul_cancel hd).symm
theorem odd_of_tz {x i k : Nat} (hd : (fv x).den = 2 ^ i) (h0 : (fv x).num ≠ 0) (h : TzR (fv x).num.natAbs k) : OddV x ((fv x).num.tdiv ((2 ^ k : Nat) : Int)) ((k : Int) - i) :=
  OddV.of_frac (num_of_tz h h0).1 (num_of_tz h h0).2 hd
theorem OddV.small {x : Nat} {d e : Int} (h : OddV x d e) : d.natAbs < 2 ^ 53 := by
  obtain ⟨_, _, t, ht, _⟩ := h
  have := mant_lt x
  have h2 : d.natAbs ≤ mant x := by rw [ht]; exact Nat.le_mul_of_pos_left _ (Nat.two_pow_pos t)
  omega
/-- what Exact tells -/
def ExS (x : Nat) (s : ByteArray) (e c : Int) : Prop := (¬ fin x ∧ s = ⟨#[]⟩ ∧ e = 0 ∧ c = 20) ∨ (fin x ∧ mant x = 0 ∧ s = ⟨#[48]⟩ ∧ e = 0 ∧ c = 0) ∨ (fin x ∧ mant x ≠ 0 ∧ c = 0 ∧ ∃ d, OddV x d e ∧ s = sv (Lib.itoa d))
theorem ExS.unique {x : Nat} {s s' : ByteArray} {e e' c c' : Int} (h : ExS x s e c) (g : ExS x s' e' c') : s = s' ∧ e = e' ∧ c = c' := by
  rcases h with ⟨h1, rfl, rfl, rfl⟩ | ⟨h1, h2, rfl, rfl, rfl⟩ | ⟨h1, h2, rfl, d, h3, rfl⟩ <;> rcases g with ⟨g1, rfl, rfl, rfl⟩ | ⟨g1, g2, rfl, rfl, rfl⟩ | ⟨g1, g2, rfl, d', g3, rfl⟩
  all_goals first | exact ⟨rfl, rfl, rfl⟩ | exact absurd h1 g1 | exact absurd g1 h1 | exact absurd h2 g2 | exact absurd g2 h2 | skip
  obtain ⟨rfl, rfl⟩ := OddV.unique h3 g3
  exact ⟨rfl, rfl, rfl⟩
def ExO (x : Nat) (w : World) (en : Ending) (w' : World) : Prop := ∃ s e c, ExS x s e c ∧ ExRet s e c w en w'
theorem iexact_any (x : Nat) (hx : x < 2 ^ 64) (w : World) (hT : Tabs w) : Calls Tryz.prog 6 #[.float .f64 x] w (ExO x w) := by
  by_cases hf : fin x
  · by_cases h0 : mant x = 0
    · exact (exact_zero x hx hf h0 w).mono fun e w' h => ⟨_, _, _, .inr (.inl ⟨hf, h0, rfl, rfl, rfl⟩), h⟩
    · obtain ⟨d, e, h1, _, h2⟩ := exact_some x hx hf h0 w hT
      exact h2.mono fun e w' h => ⟨_, _, _, .inr (.inr ⟨hf, h0, rfl, d, h1, rfl⟩), h⟩
  · exact (exact_none x hx hf w).mono fun e w' h => ⟨_, _, _, .inl ⟨hf, rfl, rfl, rfl⟩, h⟩
/-- the dyadic of a finite number -/
def DyO (x : Nat) (w : World) (en : Ending) (w' : World) : Prop := ∃ s e, ExS x s e 0 ∧ DyRet s e w en w'
set_option maxRecDepth 100000 in
set_option maxHeartbeats 4000000 in
theorem ratNum_any (b : Nat) (w : World) (x : Rat) (hx : RatAt w b x) :
    Calls Tryz.prog 88 #[.pointer (some ⟨b, 0, none⟩)] w fun e w' => e = .returned (.pointer (some ⟨b, 0, none⟩)) ∧ w = w' := by
  obtain ⟨neg, a, cap, l, h1, h2, H3, OK, NM, HN, HE, HK, N1⟩ := IntAt.open hx.1
  clear hx
  go_enter Tryz.func88, Tryz.ntmps88
  go_wp2_with fail
  go_ret
  exact ⟨rfl, rfl⟩
set_option maxRecDepth 100000 in
set_option maxHeartbeats 4000000 in
theorem fracDyad_any (b x : Nat) (w : World) (hf : fin x) (hx : RatAt w b (fv x)) :
    Calls Tryz.prog 63 #[.pointer (some ⟨b, 0, none⟩)] w (DyO x w) := by
  have hxA := RatAt.below hx (bnew w (.cells #[.string ⟨#[]⟩, .int .i64 0] 26))
  have BA := Lib.hid (bnew w (.cells #[.string ⟨#[]⟩, .int .i64 0] 26))
  have HR0 := Lib.hid (heap_alloc_new w (.cells #[.string ⟨#[]⟩, .int .i64 0] 26))
  have SA : Hid ((w.alloc (.cells #[.string ⟨#[]⟩, .int .i64 0] 26)).heap.size = w.heap.size + 1) := Lib.hid (by simp)
  have NU := Lib.hid (ratNum_any b _ _ hxA)
  have DE := Lib.hid (denom_any b _ _ hxA)
  clear hxA
  have D := Dy.fv hf
  obtain ⟨i, hi, hd⟩ := D.den
  have DB : Hid (bl ((fv x).den : Int) = i + 1) := Lib.hid (by rw [hd]; unfold bl; rw [Int.natAbs_natCast, blen_pow])
  have BL : Hid (i < 1081) := Lib.hid (by omega)
  have NB : Hid (bl (fv x).num ≤ 1080) := Lib.hid D.num
  have HX := Lib.hid hx
  have iI : (i : Int) < 1081 := by omega
  have OF : Hid (∀ W, Below w.heap.size w W → Calls Tryz.prog 87 #[.pointer (some ⟨b, 0, none⟩), .int .i64 (-(i : Int))] W (DyO x W)) := Lib.hid (fun W hW => by
    by_cases h0 : (fv x).num = 0
    · have hi0 := hx.1
      rw [h0] at hi0
      exact (ofDyad_zero b 0 _ W (hi0.below hW)).mono fun e w' h => ⟨_, _, .inr (.inl ⟨hf, fv_num0.1 h0, rfl, rfl, rfl⟩), h⟩
    · refine (ofDyad_any b 0 (fv x).num (-(i : Int)) W (hx.1.below hW) (by have := NB.out; omega) h0 (fun k hk => ?_) ⟨by omega, by omega⟩).mono fun e w' h => ?_
      · have := OddV.small (odd_of_tz hd h0 hk)
        omega
      · obtain ⟨k, hk, hr⟩ := h
        have o := odd_of_tz hd h0 hk
        rw [show -(i : Int) + (k : Int) = (k : Int) - i by omega] at hr
        exact ⟨_, _, .inr (.inr ⟨hf, fun e => h0 (fv_num0.2 e), rfl, _, o, rfl⟩), hr⟩)
  clear hx D hi hd hf
  go_enter Tryz.func63, Tryz.ntmps63
  go_wp2_with fail
  refine NU.out.mono ?_
  rintro e w1 ⟨rfl, rfl⟩
  go_wp2_with fail
  refine DE.out.mono ?_
  rintro e w1 ⟨bp, op, rfl, hi1, hb1, _⟩
  have I1 := Lib.hid hi1
  have B1 := Lib.hid (BA.out.trans (hb1.mono BA.out.size))
  have HR1 : Hid (w1.heap[w.heap.size]? = _) := Lib.hid ((hb1.block w.heap.size (by have := SA.out; omega)).trans HR0.out)
  have L1 : Hid (w.heap.size < w1.heap.size) := Lib.hid (by have := hb1.size; have := SA.out; omega)
  clear hi1 hb1
  go_wp2_with fail
  refine (bitLen_any bp op _ w1 I1.out (by rw [DB.out]; have := BL.out; omega)).mono ?_
  rintro e w2 ⟨rfl, hb2⟩
  have B2 := Lib.hid (B1.out.trans (hb2.mono B1.out.size))
  have HR2 : Hid (w2.heap[w.heap.size]? = _) := Lib.hid ((hb2.block w.heap.size L1.out).trans HR1.out)
  have L2 : Hid (w.heap.size < w2.heap.size) := Lib.hid (by have := hb2.size; have := L1.out; omega)
  clear hb2
  rw [DB.out]
  have a2 : ((i + 1 : Nat) : Int) = (i : Int) + 1 := by omega
  have a1 : (i : Int) + 1 - 1 = (i : Int) := by omega
  rw [a2]
  go_wp2_with fail
  refine (OF.out w2 B2.out).mono ?_
  rintro e w3 ⟨s, E, hs, rfl, hb3⟩
  have HS := Lib.hid hs
  have B3 := Lib.hid (B2.out.trans (hb3.mono B2.out.size))
  have HR3 : Hid (w3.heap[w.heap.size]? = some (.cells #[.string ⟨#[]⟩, .int .i64 0] 26 (0, 0))) := Lib.hid ((hb3.block w.heap.size L2.out).trans HR2.out)
  have C0 : w3.cell? ⟨w.heap.size, 0, none⟩ = some (.string ⟨#[]⟩) := by rw [cell_of_row _ _ _ _ _ _ HR3.out]; rfl
  have C1 : w3.cell? ⟨w.heap.size, 1, none⟩ = some (.int .i64 0) := by rw [cell_of_row _ _ _ _ _ _ HR3.out]; rfl
  have F0 := frozen_of_row w3 w.heap.size 0 _ _ HR3.out
  have F1 := frozen_of_row w3 w.heap.size 1 _ _ HR3.out
  clear hs hb3
  go_wp2_with fail
  refine bodyPost_ret (v := .agg #[.string s, .int .i64 E]) ?_ rfl ⟨s, E, HS.out, rfl, (B3.out.setCell (Nat.le_refl _) _).setCell (Nat.le_refl _) _⟩
  have H1 := heap_setCell_same w3 w.heap.size 0 _ _ (.string s) HR3.out
  have H2 := heap_setCell_same _ w.heap.size 1 _ _ (.int .i64 E) H1
  exact results_cell_row rfl _ _ w.heap.size _ #[.string s, .int .i64 E] (0, 0) _ rfl H2 Tryz.underlying26 rfl (by rfl)
set_option maxRecDepth 100000 in
set_option maxHeartbeats 4000000 in
theorem rexact_fin (x : Nat) (hx : x < 2 ^ 64) (hf : fin x) (w : World) :
    Calls Tryz.prog 22 #[.float .f64 x] w (ExO x w) := by
  have nx : ¬ isNan x := by unfold fin at hf; unfold isNan; omega
  have NX := rnone_any x
  rw [decide_eq_false nx] at NX
  have IX := rinf_any x nx
  rw [decide_eq_false (not_not_intro hf)] at IX
  have NX := Lib.hid NX
  have IX := Lib.hid IX
  have SF := Lib.hid (fun b W hz => setFloat_any b x W hz hx hf)
  have FD := Lib.hid (fun b W h => fracDyad_any b x W hf h)
  clear hx hf nx
  have BA := Lib.hid (bnew w (.cells #[.string ⟨#[]⟩, .int .i64 0] 26))
  have BB := Lib.hid (BA.out.trans ((bnew (w.alloc (.cells #[.string ⟨#[]⟩, .int .i64 0] 26)) (.cells #[.bool false, .slice none 0 0, .bool false, .slice none 0 0] 71)).mono BA.out.size))
  have ZZ := znewr (w.alloc (.cells #[.string ⟨#[]⟩, .int .i64 0] 26))
  rw [show (w.alloc (.cells #[.string ⟨#[]⟩, .int .i64 0] 26)).heap.size = w.heap.size + 1 by simp] at ZZ
  have ZZ := Lib.hid ZZ
  have HR0 : Hid (((w.alloc (.cells #[.string ⟨#[]⟩, .int .i64 0] 26)).alloc (.cells #[.bool false, .slice none 0 0, .bool false, .slice none 0 0] 71)).heap[w.heap.size]? = some (.cells #[.string ⟨#[]⟩, .int .i64 0] 26 (0, 0))) := Lib.hid ((below_alloc (w.alloc (.cells #[.string ⟨#[]⟩, .int .i64 0] 26)) (.cells #[.bool false, .slice none 0 0, .bool false, .slice none 0 0] 71)).block w.heap.size (by simp) |>.trans (heap_alloc_new w _))
  go_enter Tryz.func22, Tryz.ntmps22
  go_wp2_with fail
  refine (NX.out _).mono ?_
  rintro e w1 ⟨rfl, rfl⟩
  go_wp2_with fail
  refine (IX.out _).mono ?_
  rintro e w1 ⟨rfl, rfl⟩
  go_wp2_with fail
  refine (SF.out (w.heap.size + 1) _ ZZ.out).mono ?_
  rintro e w1 ⟨rfl, hr1, hw1⟩
  have R1 := Lib.hid hr1
  have B1 := Lib.hid (bwr BB.out hw1 (by omega))
  have HR1 : Hid (w1.heap[w.heap.size]? = _) := Lib.hid ((hw1.block w.heap.size (by have := ZZ.out.lt; omega) (by omega)).trans HR0.out)
  have L1 : Hid (w.heap.size < w1.heap.size) := Lib.hid (by have := hw1.size; have := ZZ.out.lt; omega)
  clear hr1 hw1
  go_wp2_with fail
  refine (FD.out (w.heap.size + 1) w1 R1.out).mono ?_
  rintro e w3 ⟨s, E, hs, rfl, hb3⟩
  have HS := Lib.hid hs
  have B3 := Lib.hid (B1.out.trans (hb3.mono B1.out.size))
  have HR3 : Hid (w3.heap[w.heap.size]? = some (.cells #[.string ⟨#[]⟩, .int .i64 0] 26 (0, 0))) := Lib.hid ((hb3.block w.heap.size L1.out).trans HR1.out)
  have C0 : w3.cell? ⟨w.heap.size, 0, none⟩ = some (.string ⟨#[]⟩) := by rw [cell_of_row _ _ _ _ _ _ HR3.out]; rfl
  have C1 : w3.cell? ⟨w.heap.size, 1, none⟩ = some (.int .i64 0) := by rw [cell_of_row _ _ _ _ _ _ HR3.out]; rfl
  have F0 := frozen_of_row w3 w.heap.size 0 _ _ HR3.out
  have F1 := frozen_of_row w3 w.heap.size 1 _ _ HR3.out
  clear hs hb3
  go_wp2_with fail
  refine bodyPost_ret (v := .tuple #[.agg #[.string s, .int .i64 E], .int .i64 0]) ?_ rfl ⟨s, E, 0, HS.out, rfl, (B3.out.setCell (Nat.le_refl _) _).setCell (Nat.le_refl _) _⟩
  rw [results_cell_tmp rfl]
  have H1 := heap_setCell_same w3 w.heap.size 0 _ _ (.string s) HR3.out
  have H2 := heap_setCell_same _ w.heap.size 1 _ _ (.int .i64 E) H1
  have D0 := cell_of_row _ w.heap.size 0 _ _ _ H2
  have D1 := cell_of_row _ w.heap.size 1 _ _ _ H2
  simp at D0 D1
  go_simp
set_option maxRecDepth 100000 in
set_option maxHeartbeats 4000000 in
theorem rexact_any (x : Nat) (hx : x < 2 ^ 64) (w : World) :
    Calls Tryz.prog 22 #[.float .f64 x] w (ExO x w) := by
  by_cases hf : fin x
  · exact rexact_fin x hx hf w
  · have NX := rnone_any x
    have S : Hid (ExS x ⟨#[]⟩ 0 20) := Lib.hid (.inl ⟨hf, rfl, rfl, rfl⟩)
    by_cases nx : isNan x
    · rw [decide_eq_true nx] at NX
      have NX := Lib.hid NX
      clear hx hf nx
      go_enter Tryz.func22, Tryz.ntmps22
      go_wp2_with fail
      refine (NX.out _).mono ?_
      rintro e w1 ⟨rfl, rfl⟩
      go_wp2_with fail
      refine bodyPost_ret (v := .tuple #[.agg #[.string ⟨#[]⟩, .int .i64 0], .int .i64 20]) ?_ rfl ⟨_, _, _, S.out, rfl, below_alloc w _⟩
      rw [results_cell_tmp rfl]
      go_simp
    · rw [decide_eq_false nx] at NX
      have IX := rinf_any x nx
      rw [decide_eq_true hf] at IX
      have NX := Lib.hid NX
      have IX := Lib.hid IX
      clear hx hf nx
      go_enter Tryz.func22, Tryz.ntmps22
      go_wp2_with fail
      refine (NX.out _).mono ?_
      rintro e w1 ⟨rfl, rfl⟩
      go_wp2_with fail
      refine (IX.out _).mono ?_
      rintro e w1 ⟨rfl, rfl⟩
      go_wp2_with fail
      refine bodyPost_ret (v := .tuple #[.agg #[.string ⟨#[]⟩, .int .i64 0], .int .i64 20]) ?_ rfl ⟨_, _, _, S.out, rfl, below_alloc w _⟩
      rw [results_cell_tmp rfl]
      go_simp
end Go.Proofs.YtokmommlabdcdaaGreatDoor
set_option linter.unusedVariables false
set_option linter.unusedSimpArgs false
namespace Go.Proofs.YtokmommlabdcdaaGreatDoor
open Wd Fl Go.RowKit
theorem ldexp_exact (x : Nat) (d e : Int) (hx : x < 2 ^ 64) (hf : fin x) (h : OddV x d e) (w : World) :
    Calls Tryz.prog 13 #[.float .f64 (Go.floatOfInt .f64 d), .int .i64 e] w fun en w' => en = .returned (.float .f64 x) ∧ ∃ n, w' = w.drewN n := by
  obtain ⟨K, hK⟩ : ∃ K : Nat, K = 1074 := ⟨_, rfl⟩
  have hU : UN = 2 ^ K := (UN_eq K hK).symm
  have ds := OddV.small h
  obtain ⟨he, ix⟩ := OddV.iv h
  have d0 : d ≠ 0 := by intro q; have := h.1; rw [q] at this; simp at this
  have hy := IsI.ofInt d (by omega)
  obtain ⟨ho, hs, t, ht, hte⟩ := h
  have hm := mant_lt x
  have hp := plc_le hf
  obtain ⟨n0, E1, E2⟩ := expo (t := t) hK hU hy d0 (by rw [Nat.mul_comm, ← ht]; exact hm)
  have hyl := hy.2.2
  have hyf : rg (Go.floatOfInt .f64 d) < INF := hy.1
  have x0 : iv x ≠ 0 := by
    rw [ix]
    have := Nat.two_pow_pos (e + 1074).toNat
    intro q
    rcases Int.mul_eq_zero.1 q with q | q
    · exact d0 q
    · omega
  obtain ⟨E, hE⟩ : ∃ E, rg (Go.floatOfInt .f64 d) / 2 ^ 52 = E := ⟨_, rfl⟩
  by_cases c : 1 ≤ (E : Int) + e
  · have h1 : 1 ≤ (rg (Go.floatOfInt .f64 d) / 2 ^ 52 : Nat) + e := by rw [hE]; exact c
    have h2 : (rg (Go.floatOfInt .f64 d) / 2 ^ 52 : Nat) + e ≤ 2046 := by omega
    have is := iv_scaled hK hU hy n0 hyf h1 h2 he
    obtain ⟨a, b, cc, dd⟩ := ldx_facts (x := Go.floatOfInt .f64 d) (k := e) h1 h2
    have := iv_inj dd hx cc hf (by rw [is, ← ix]; exact x0) (is.trans ix.symm)
    rw [← this]
    exact ldexp_any _ e hyl n0 hyf h1 h2 w
  · have h1 : 1 ≤ (rg (Go.floatOfInt .f64 d) / 2 ^ 52 : Nat) + (e + 53) := by omega
    have h2 : (rg (Go.floatOfInt .f64 d) / 2 ^ 52 : Nat) + (e + 53) ≤ 2046 := by omega
    have is := iv_scaled hK hU hy n0 hyf h1 h2 (by omega)
    obtain ⟨a, b, cc, dd⟩ := ldx_facts (x := Go.floatOfInt .f64 d) (k := e + 53) h1 h2
    have M := mul_den_exact hK hU hx hf cc he x0 ix is
    have N := Lib.hid (ldexp_low_den _ x e hyl n0 hyf (by omega) (by omega) M)
    generalize Go.floatOfInt .f64 d = y at *
    clear ho hs ht hte hm hp n0 E1 E2 hyl hyf x0 hE c h1 h2 is a b cc dd M ix ds d0 he hU hK hy
    go_enter Tryz.func13, Tryz.ntmps13
    go_wp2_with (go_at_call 46; refine (N.out _).mono ?_; rintro e w' ⟨rfl, n, rfl⟩)
    go_ret
    exact ⟨rfl, _, rfl⟩
end Go.Proofs.YtokmommlabdcdaaGreatDoor
set_option linter.unusedVariables false
set_option linter.unusedSimpArgs false
namespace Go.Proofs.YtokmommlabdcdaaGreatDoor
open Wd Fl Go.RowKit
/-- a new fraction -/
def RNew (q : Rat) (w : World) (e : Ending) (w' : World) : Prop := ∃ b, e = .returned (.pointer (some ⟨b, 0, none⟩)) ∧ RatAt w' b q ∧ w.heap.size ≤ b ∧ Below w.heap.size w w'
theorem dec_len (n : Nat) (h : n < 18446744073709551616) : 0 < (Lib.decDigits n).length ∧ (Lib.decDigits n).length ≤ 100000 := by
  rw [Lib.decDigits_length]
  have := Lib.nDigits_pos n
  have := Lib.nDigits_le20 n h
  omega
theorem itoa_n (n : Nat) : Lib.itoa (n : Int) = Lib.decDigits n := Lib.itoa_nonneg n
set_option maxRecDepth 100000 in
set_option maxHeartbeats 2000000 in
/-- surdref0.Int of a numeral -/
theorem int_any (m : Int) (w : World) (hm : m.natAbs < 18446744073709551616) :
    Calls Tryz.prog 10 #[.string (sv (Lib.itoa m))] w (NewRet TW m w) := by
  have S : Calls Tryz.prog 42 #[.pointer (some ⟨w.heap.size, 0, none⟩), .string (sv (Lib.itoa m)), .int .i64 10] (w.alloc (.cells #[.bool false, .slice none 0 0] 60)) (SetRet w.heap.size 0 m (w.alloc (.cells #[.bool false, .slice none 0 0] 60))) := by
    by_cases h : m < 0
    · obtain ⟨u, rfl⟩ : ∃ u : Nat, m = -(u : Int) := ⟨m.natAbs, by omega⟩
      have hu : u < 18446744073709551616 := by omega
      rw [Lib.itoa_neg u (by omega)]
      have := setStr_neg w.heap.size 0 (Lib.decDigits u) _ (znew w) (digs_dec u) (dec_len u hu).1 (dec_len u hu).2
      rwa [pv_dec] at this
    · obtain ⟨u, rfl⟩ : ∃ u : Nat, m = (u : Int) := ⟨m.natAbs, by omega⟩
      have hu : u < 18446744073709551616 := by omega
      rw [itoa_n]
      have := setStr_pos w.heap.size 0 (Lib.decDigits u) _ (znew w) (digs_dec u) (dec_len u hu).1 (dec_len u hu).2
      rwa [pv_dec] at this
  have S := Lib.hid S
  generalize sv (Lib.itoa m) = s at *
  clear hm
  go_enter Tryz.func10, Tryz.ntmps10
  go_wp2_with fail
  refine S.out.mono ?_
  rintro e w1 ⟨rfl, hi, hr⟩
  have I := Lib.hid hi
  have B := Lib.hid (newW hr)
  clear hi hr
  go_wp2_with fail
  go_ret
  exact ⟨_, rfl, Nat.le_refl _, I.out, B.out⟩
/-- a whole number times a power of two -/
def dyq (m e : Int) : Rat := if 0 ≤ e then ((m * ((2 ^ e.toNat : Nat) : Int) : Int) : Rat) else mkRat m (2 ^ (-e).toNat)
set_option maxRecDepth 100000 in
set_option maxHeartbeats 4000000 in
theorem dyad_up (m : Int) (k : Nat) (w : World) (hm : bl m ≤ 64) (hm2 : m.natAbs < 18446744073709551616) (hk : k ≤ 1100) :
    Calls Tryz.prog 19 #[.agg #[.string (sv (Lib.itoa m)), .int .i64 (k : Int)]] w (RNew ((m * ((2 ^ k : Nat) : Int) : Int) : Rat) w) := by
  have IN := Lib.hid (fun w => int_any m w hm2)
  have PW := Lib.hid (fun w => pow_any k w (by omega))
  have HM := Lib.hid hm
  obtain ⟨P, hP⟩ : ∃ P : Int, ((2 ^ k : Nat) : Int) = P := ⟨_, rfl⟩
  have HPB : Hid (bl P ≤ 1200) := Lib.hid (by rw [← hP]; unfold bl; rw [Int.natAbs_natCast, blen_pow]; omega)
  rw [hP] at PW ⊢
  obtain ⟨q, hq⟩ : ∃ q : Int, m * P = q := ⟨_, rfl⟩
  have HQB : Hid (bl q ≤ 100000) := Lib.hid (by rw [← hq]; have := bl_mul m P; have := HPB.out; omega)
  have HQ := Lib.hid hq
  rw [hq]
  generalize sv (Lib.itoa m) = s at *
  have k0 : decide ((0 : Int) ≤ (k : Int)) = true := decide_eq_true (by omega)
  clear hm hm2 hk hP hq
  go_enter Tryz.func19, Tryz.ntmps19
  go_wp2_with fail
  refine (IN.out _).mono ?_
  intro e w1 h1
  rcases h1 with ⟨b1, rfl, hle, hi, hb⟩
  have LB := Lib.hid (show w.heap.size ≤ b1 by have := (bnew w (.cells #[.string s, .int .i64 (k : Int)] 26)).size; omega)
  have B1 := Lib.hid ((bnew w (.cells #[.string s, .int .i64 (k : Int)] 26)).trans (hb.mono (bnew w (.cells #[.string s, .int .i64 (k : Int)] 26)).size))
  have C1 : w1.cell? ⟨w.heap.size, 1, none⟩ = some (.int .i64 (k : Int)) := (hb.cell (p := ⟨w.heap.size, 1, none⟩) (by simp)).trans (by rw [World.cell?_alloc_new]; rfl)
  have I1 := Lib.hid hi
  have L1 := Lib.hid (show w.heap.size < w1.heap.size by have := hb.size; simp at this; omega)
  clear hle hi hb
  have C1' : (w1.alloc (.cells #[.bool false, .slice none 0 0, .bool false, .slice none 0 0] 71)).cell? ⟨w.heap.size, 1, none⟩ = some (.int .i64 (k : Int)) := ((bnew w1 _).cell (p := ⟨w.heap.size, 1, none⟩) L1.out).trans C1
  go_wp2_with fail
  refine (PW.out _).mono ?_
  intro e w2 h2
  rcases h2 with ⟨b2, rfl, hle, hi, hb⟩
  have Z2 := Lib.hid ((znewr w1).below hb)
  have I2 := Lib.hid ((I1.out.below (bnew w1 _)).below hb)
  have P2 := Lib.hid hi
  have B2 := Lib.hid ((bal B1.out).trans (hb.mono (bal B1.out).size))
  have L2 := Lib.hid (show w.heap.size ≤ w1.heap.size from B1.out.size)
  clear hle hi hb
  go_wp2_with fail
  refine (imul_any b1 0 b1 0 b2 0 m P w2 I2.out.z I2.out P2.out (by have := HM.out; omega) (by have := HPB.out; omega) (.inl (by have := HM.out; omega))).mono ?_
  rintro e w3 ⟨rfl, hi, hr⟩
  rw [HQ.out] at hi
  have I3 := Lib.hid hi
  have Z3 := Lib.hid (Z2.out.wr hr)
  have B3 := Lib.hid (bwr B2.out hr LB.out)
  clear hi hr
  go_wp2_with fail
  refine (setInt_any w1.heap.size b1 0 q w3 Z3.out I3.out HQB.out).mono ?_
  rintro e w4 ⟨rfl, hra, hr⟩
  have R := Lib.hid hra
  have B4 := Lib.hid (bwr B3.out hr L2.out)
  clear hra hr
  go_wp2_with fail
  go_ret
  exact ⟨_, rfl, R.out, L2.out, B4.out⟩
set_option maxRecDepth 100000 in
set_option maxHeartbeats 4000000 in
theorem dyad_down (m : Int) (k : Nat) (w : World) (hm : bl m ≤ 64) (hm2 : m.natAbs < 18446744073709551616) (hk : k ≤ 1100) (hk0 : 0 < k) :
    Calls Tryz.prog 19 #[.agg #[.string (sv (Lib.itoa m)), .int .i64 (-(k : Int))]] w (RNew (mkRat m (2 ^ k)) w) := by
  have IN := Lib.hid (fun w => int_any m w hm2)
  have PW := Lib.hid (fun w => pow_any k w (by omega))
  have HM := Lib.hid (show bl m ≤ 100000 by omega)
  obtain ⟨d, hd⟩ : ∃ d : Nat, 2 ^ k = d := ⟨_, rfl⟩
  have HD0 : Hid (0 < d) := Lib.hid (by rw [← hd]; exact Nat.two_pow_pos k)
  have HDB : Hid (bl (d : Int) ≤ 100000) := Lib.hid (by rw [← hd]; exact Nat.le_trans (bl_pow_le hk) (by decide))
  have HS : Hid (Sm m.natAbs d) := Lib.hid (by rw [← hd]; exact sm_pow _ _)
  rw [hd] at PW ⊢
  generalize sv (Lib.itoa m) = s at *
  obtain ⟨E, hE⟩ : ∃ E : Int, -(k : Int) = E := ⟨_, rfl⟩
  have k0 : decide ((0 : Int) ≤ E) = false := decide_eq_false (by omega)
  have k1 : RowKit.wrap64 (-E) = (k : Int) := by rw [w64 _ (by omega) (by omega)]; omega
  rw [hE]
  clear hm hm2 hk hk0 hd hE
  go_enter Tryz.func19, Tryz.ntmps19
  go_wp2_with fail
  refine (IN.out _).mono ?_
  intro e w1 h1
  rcases h1 with ⟨b1, rfl, hle, hi, hb⟩
  have LB := Lib.hid (show w.heap.size ≤ b1 by have := (bnew w (.cells #[.string s, .int .i64 E] 26)).size; omega)
  have B1 := Lib.hid ((bnew w (.cells #[.string s, .int .i64 E] 26)).trans (hb.mono (bnew w (.cells #[.string s, .int .i64 E] 26)).size))
  have C1 : w1.cell? ⟨w.heap.size, 1, none⟩ = some (.int .i64 E) := (hb.cell (p := ⟨w.heap.size, 1, none⟩) (by simp)).trans (by rw [World.cell?_alloc_new]; rfl)
  have I1 := Lib.hid hi
  have L1 := Lib.hid (show w.heap.size < w1.heap.size by have := hb.size; simp at this; omega)
  clear hle hi hb
  have C1' : (w1.alloc (.cells #[.bool false, .slice none 0 0, .bool false, .slice none 0 0] 71)).cell? ⟨w.heap.size, 1, none⟩ = some (.int .i64 E) := ((bnew w1 _).cell (p := ⟨w.heap.size, 1, none⟩) L1.out).trans C1
  go_wp2_with fail
  refine (PW.out _).mono ?_
  intro e w2 h2
  rcases h2 with ⟨b2, rfl, hle, hi, hb⟩
  have Z2 := Lib.hid ((znewr w1).below hb)
  have I2 := Lib.hid ((I1.out.below (bnew w1 _)).below hb)
  have P2 := Lib.hid hi
  have B2 := Lib.hid ((bal B1.out).trans (hb.mono (bal B1.out).size))
  have L2 := Lib.hid (show w.heap.size ≤ w1.heap.size from B1.out.size)
  clear hle hi hb
  go_wp2_with fail
  refine (setFrac_any w1.heap.size b1 0 b2 0 m d w2 Z2.out I2.out P2.out HD0.out HM.out HDB.out HS.out).mono ?_
  rintro e w4 ⟨rfl, hra, hr⟩
  have R := Lib.hid hra
  have B4 := Lib.hid (bwr B2.out hr L2.out)
  clear hra hr
  go_wp2_with fail
  go_ret
  exact ⟨_, rfl, R.out, L2.out, B4.out⟩
/-- surdref0.DyadFrac of a numeral and an exponent -/
theorem dyadFrac_any (m e : Int) (w : World) (hm : bl m ≤ 64) (hm2 : m.natAbs < 18446744073709551616) (he : -1100 ≤ e) (he2 : e ≤ 1100) :
    Calls Tryz.prog 19 #[.agg #[.string (sv (Lib.itoa m)), .int .i64 e]] w (RNew (dyq m e) w) := by
  unfold dyq
  by_cases h : 0 ≤ e
  · obtain ⟨k, rfl⟩ : ∃ k : Nat, e = k := ⟨e.toNat, by omega⟩
    rw [if_pos h, Int.toNat_natCast]
    exact dyad_up m k w hm hm2 (by omega)
  · obtain ⟨k, rfl⟩ : ∃ k : Nat, e = -(k : Int) := ⟨(-e).toNat, by omega⟩
    rw [if_neg h, Int.neg_neg, Int.toNat_natCast]
    exact dyad_down m k w hm hm2 (by omega) (by omega)
end Go.Proofs.YtokmommlabdcdaaGreatDoor
set_option linter.unusedVariables false
set_option linter.unusedSimpArgs false
namespace Go.Proofs.YtokmommlabdcdaaGreatDoor
open Wd Fl Go.RowKit
theorem dec_head {u : Nat} (h : u ≠ 0) : ((Lib.decDigits u).getD 0 0).toNat ≠ 48 := by
  induction u using Nat.strongRecOn with
  | _ u ih =>
    rw [Lib.decDigits]
    by_cases c : u < 10
    · rw [dif_pos c]
      have : (UInt8.ofNat (48 + u)).toNat = 48 + u := by rw [UInt8.toNat_ofNat']; omega
      rw [List.getD_cons_zero, this]; omega
    · rw [dif_neg c]
      have hl : 0 < (Lib.decDigits (u / 10)).length := by rw [Lib.decDigits_length]; exact Lib.nDigits_pos _
      rw [List.getD_eq_getElem?_getD, List.getElem?_append_left hl, ← List.getD_eq_getElem?_getD]
      exact ih (u / 10) (by omega) (by omega)
theorem dec_last (u : Nat) : ((Lib.decDigits u).getD ((Lib.decDigits u).length - 1) 0).toNat = 48 + u % 10 := by
  rw [Lib.decDigits]
  by_cases c : u < 10
  · rw [dif_pos c]
    have : (UInt8.ofNat (48 + u)).toNat = 48 + u := by rw [UInt8.toNat_ofNat']; omega
    simp only [List.length_singleton, Nat.sub_self, List.getD_cons_zero]
    rw [this]; omega
  · rw [dif_neg c]
    have : (UInt8.ofNat (48 + u % 10)).toNat = 48 + u % 10 := by rw [UInt8.toNat_ofNat']; omega
    rw [List.length_append, List.length_singleton, Nat.add_sub_cancel, List.getD_eq_getElem?_getD, List.getElem?_append_right (Nat.le_refl _), Nat.sub_self]
    exact this
/-- a numeral that begins with no nought -/
structure Nume (l : List UInt8) : Prop where
  dg : Digs l
  pos : 0 < l.length
  len : l.length ≤ 1000
  head : (l.getD 0 0).toNat ≠ 48
theorem Nume.dec {u : Nat} (h : u ≠ 0) (h2 : u < 18446744073709551616) : Nume (Lib.decDigits u) := ⟨digs_dec u, (dec_len u h2).1, by rw [Lib.decDigits_length]; have := Lib.nDigits_le20 u h2; omega, dec_head h⟩
theorem sv_inj {a b : List UInt8} (h : sv a = sv b) : a = b := by
  have := congrArg ByteArray.data h
  simpa [sv] using this
theorem ne_zero_text {l : List UInt8} (h : ¬ (l.getD 0 0).toNat = 48) : ((sv l).toList == [48]) = false := by
  rw [beq_eq_false_iff_ne, ByteArray.toList_eq]
  intro e
  have : l = [48] := by simpa [sv] using e
  subst this
  exact h rfl
/-- the loop: the place -/
def FmL (n : Nat) (si : Value) : Prop := ∃ i : Nat, i ≤ n ∧ si = .int .i64 (i : Int)
set_option maxRecDepth 100000 in
set_option maxHeartbeats 4000000 in
theorem form_pos (l : List UInt8) (w : World) (h : Nume l) :
    Calls Tryz.prog 43 #[.string (sv l)] w fun e w' => e = .returned (.bool true) ∧ w = w' := by
  have q := ne_zero_text h.head
  have q2 : ((sv l).toList == ByteArray.toList ⟨#[48]⟩) = false := by rw [show ByteArray.toList ⟨#[48]⟩ = [48] by rw [ByteArray.toList_eq]]; exact q
  obtain ⟨s, hs⟩ : ∃ s, sv l = s := ⟨_, rfl⟩
  obtain ⟨n, hn⟩ : ∃ n, l.length = n := ⟨_, rfl⟩
  have sz : s.size = n := by rw [← hs, sv_size, hn]
  have AT := Lib.hid (fun i hi w => sv_at (P := Tryz.prog) 9 Tryz.underlying9 l i hi w)
  rw [hs, hn] at AT
  rw [hs] at q q2 ⊢
  have DG := Lib.hid (fun i (hi : i < n) => h.dg.get (i := i) (by omega))
  have n0 : 0 < n := by rw [← hn]; exact h.pos
  have nL : n ≤ 1000 := by rw [← hn]; exact h.len
  have nI : decide (0 < n) = true := decide_eq_true n0
  obtain ⟨c0, hc0⟩ : ∃ c0 : Int, (((l.getD 0 0).toNat : Nat) : Int) = c0 := ⟨_, rfl⟩
  have a0 : ∀ w, (Instr.index 9 (.string s) (.int .i64 0)).run Tryz.prog w = .ok (.int .u8 c0) w := fun w => by have := AT.out 0 n0 w; rwa [hc0] at this
  have d0 := DG.out 0 n0
  have e1 : (c0 == 45) = false := by rw [beq_eq_false_iff_ne]; omega
  have e2 : (c0 == 48) = false := by rw [beq_eq_false_iff_ne]; have := h.head; omega
  have e3 : ((n : Int) == 0) = false := by rw [beq_eq_false_iff_ne]; omega
  clear hs hn h hc0 d0
  go_enter Tryz.func43, Tryz.ntmps43
  go_wp2_with fail
  go_loop [3] (fun si => FmL n si) (fun si => n - (intOf si).toNat)
  case atStart => exact ⟨0, by omega, rfl⟩
  case round =>
    obtain ⟨i, hi, rfl⟩ := hrel
    clear nI a0 e1 e2 e3 q q2
    by_cases hlt : i < n
    · have hlt' : decide ((i : Int) < (n : Int)) = true := decide_eq_true (by omega)
      have hltI : (i : Int) < (n : Int) := by omega
      have iB : (i : Int) < 1000 := by omega
      obtain ⟨c, hc⟩ : ∃ c : Int, (((l.getD i 0).toNat : Nat) : Int) = c := ⟨_, rfl⟩
      have at_ : ∀ w, (Instr.index 9 (.string s) (.int .i64 (i : Int))).run Tryz.prog w = .ok (.int .u8 c) w := fun w => by have := AT.out i hlt w; rwa [hc] at this
      have dg := DG.out i hlt
      have f1 : decide (c < 48) = false := decide_eq_false (by omega)
      have f2 : decide (57 < c) = false := decide_eq_false (by omega)
      have NX : Hid (FmL n (.int .i64 ((i : Int) + 1))) := Lib.hid ⟨i + 1, by omega, by rw [Int.natCast_add]; rfl⟩
      clear hc dg hi
      go_wp2_with fail
      refine ⟨NX.out, ?_⟩
      simp only [intOf]; omega
    · have hlt' : decide ((i : Int) < (n : Int)) = false := decide_eq_false (by omega)
      go_wp2_with fail
      go_ret
      exact ⟨rfl, rfl⟩
set_option maxRecDepth 100000 in
set_option maxHeartbeats 4000000 in
theorem form_neg (l : List UInt8) (w : World) (h : Nume l) :
    Calls Tryz.prog 43 #[.string (sv (45 :: l))] w fun e w' => e = .returned (.bool true) ∧ w = w' := by
  have q := ne_zero_text (l := 45 :: l) (by rw [List.getD_cons_zero]; decide)
  have q2 : ((sv (45 :: l)).toList == ByteArray.toList ⟨#[48]⟩) = false := by rw [show ByteArray.toList ⟨#[48]⟩ = [48] by rw [ByteArray.toList_eq]]; exact q
  have CU := fun w => sv_cut (P := Tryz.prog) 9 Tryz.underlying9 45 l w
  have AM := fun w => sv_minus (P := Tryz.prog) 9 Tryz.underlying9 l w
  obtain ⟨S, hS⟩ : ∃ S, sv (45 :: l) = S := ⟨_, rfl⟩
  have sZ : S.size = l.length + 1 := by rw [← hS, sv_size]; rfl
  obtain ⟨s, hs⟩ : ∃ s, sv l = s := ⟨_, rfl⟩
  obtain ⟨n, hn⟩ : ∃ n, l.length = n := ⟨_, rfl⟩
  have sz : s.size = n := by rw [← hs, sv_size, hn]
  have AT := Lib.hid (fun i hi w => sv_at (P := Tryz.prog) 9 Tryz.underlying9 l i hi w)
  rw [hs, hn] at AT
  rw [hS] at q q2 CU AM ⊢
  rw [hs] at CU
  rw [hn] at sZ
  have DG := Lib.hid (fun i (hi : i < n) => h.dg.get (i := i) (by omega))
  have n0 : 0 < n := by rw [← hn]; exact h.pos
  have nL : n ≤ 1000 := by rw [← hn]; exact h.len
  have nI : decide (0 < n) = true := decide_eq_true n0
  obtain ⟨c0, hc0⟩ : ∃ c0 : Int, (((l.getD 0 0).toNat : Nat) : Int) = c0 := ⟨_, rfl⟩
  have a0 : ∀ w, (Instr.index 9 (.string s) (.int .i64 0)).run Tryz.prog w = .ok (.int .u8 c0) w := fun w => by have := AT.out 0 n0 w; rwa [hc0] at this
  have d0 := DG.out 0 n0
  have e1 : decide (0 < n + 1) = true := decide_eq_true (by omega)
  have e2 : (c0 == 48) = false := by rw [beq_eq_false_iff_ne]; have := h.head; omega
  have e3 : ((n : Int) == 0) = false := by rw [beq_eq_false_iff_ne]; omega
  clear hs hn h hc0 d0 hS
  go_enter Tryz.func43, Tryz.ntmps43
  go_wp2_with fail
  go_loop [3] (fun si => FmL n si) (fun si => n - (intOf si).toNat)
  case atStart => exact ⟨0, by omega, rfl⟩
  case round =>
    obtain ⟨i, hi, rfl⟩ := hrel
    clear nI a0 e1 e2 e3 q q2 CU AM sZ
    by_cases hlt : i < n
    · have hlt' : decide ((i : Int) < (n : Int)) = true := decide_eq_true (by omega)
      have hltI : (i : Int) < (n : Int) := by omega
      have iB : (i : Int) < 1000 := by omega
      obtain ⟨c, hc⟩ : ∃ c : Int, (((l.getD i 0).toNat : Nat) : Int) = c := ⟨_, rfl⟩
      have at_ : ∀ w, (Instr.index 9 (.string s) (.int .i64 (i : Int))).run Tryz.prog w = .ok (.int .u8 c) w := fun w => by have := AT.out i hlt w; rwa [hc] at this
      have dg := DG.out i hlt
      have f1 : decide (c < 48) = false := decide_eq_false (by omega)
      have f2 : decide (57 < c) = false := decide_eq_false (by omega)
      have NX : Hid (FmL n (.int .i64 ((i : Int) + 1))) := Lib.hid ⟨i + 1, by omega, by rw [Int.natCast_add]; rfl⟩
      clear hc dg hi
      go_wp2_with fail
      refine ⟨NX.out, ?_⟩
      simp only [intOf]; omega
    · have hlt' : decide ((i : Int) < (n : Int)) = false := decide_eq_false (by omega)
      go_wp2_with fail
      go_ret
      exact ⟨rfl, rfl⟩
set_option maxRecDepth 100000 in
set_option maxHeartbeats 4000000 in
theorem form_zero (w : World) :
    Calls Tryz.prog 43 #[.string ⟨#[48]⟩] w fun e w' => e = .returned (.bool true) ∧ w = w' := by
  have q : (ByteArray.toList ⟨#[48]⟩ == ByteArray.toList ⟨#[48]⟩) = true := by simp
  go_enter Tryz.func43, Tryz.ntmps43
  go_wp2_with fail
  go_ret
  exact ⟨rfl, rfl⟩
set_option maxRecDepth 100000 in
set_option maxHeartbeats 4000000 in
theorem digits_pos (l : List UInt8) (w : World) (h : Nume l) :
    Calls Tryz.prog 73 #[.string (sv l)] w fun e w' => e = .returned (.int .i64 (l.length : Nat)) ∧ w = w' := by
  obtain ⟨s, hs⟩ : ∃ s, sv l = s := ⟨_, rfl⟩
  obtain ⟨n, hn⟩ : ∃ n, l.length = n := ⟨_, rfl⟩
  have sz : s.size = n := by rw [← hs, sv_size, hn]
  have AT := Lib.hid (fun i hi w => sv_at (P := Tryz.prog) 9 Tryz.underlying9 l i hi w)
  rw [hs, hn] at AT
  have n0 : 0 < n := by rw [← hn]; exact h.pos
  have nL : n ≤ 1000 := by rw [← hn]; exact h.len
  have nI : decide (0 < n) = true := decide_eq_true n0
  have d0 := h.dg.get h.pos
  rw [hs, hn]
  obtain ⟨c0, hc0⟩ : ∃ c0 : Int, (((l.getD 0 0).toNat : Nat) : Int) = c0 := ⟨_, rfl⟩
  have a0 : ∀ w, (Instr.index 9 (.string s) (.int .i64 0)).run Tryz.prog w = .ok (.int .u8 c0) w := fun w => by have := AT.out 0 n0 w; rwa [hc0] at this
  have e1 : (c0 == 45) = false := by rw [beq_eq_false_iff_ne]; omega
  clear hs hn h hc0 d0
  go_enter Tryz.func73, Tryz.ntmps73
  go_wp2_with fail
  go_ret
  exact ⟨rfl, rfl⟩
set_option maxRecDepth 100000 in
set_option maxHeartbeats 4000000 in
theorem digits_neg (l : List UInt8) (w : World) (h : Nume l) :
    Calls Tryz.prog 73 #[.string (sv (45 :: l))] w fun e w' => e = .returned (.int .i64 (l.length : Nat)) ∧ w = w' := by
  have AM := fun w => sv_minus (P := Tryz.prog) 9 Tryz.underlying9 l w
  obtain ⟨S, hS⟩ : ∃ S, sv (45 :: l) = S := ⟨_, rfl⟩
  obtain ⟨n, hn⟩ : ∃ n, l.length = n := ⟨_, rfl⟩
  have sZ : S.size = n + 1 := by rw [← hS, sv_size, ← hn]; rfl
  have nL : n ≤ 1000 := by rw [← hn]; exact h.len
  have e1 : decide (0 < n + 1) = true := decide_eq_true (by omega)
  rw [hS] at AM ⊢
  rw [hn]
  clear hS hn h
  have W : RowKit.wrap64 (((n + 1 : Nat) : Int) - 1) = (n : Int) := by rw [w64 _ (by omega) (by omega)]; omega
  have W := Lib.hid W
  go_enter Tryz.func73, Tryz.ntmps73
  go_wp2_with fail
  go_ret
  exact ⟨ret_int (by first | rfl | exact W.out | omega), rfl⟩
set_option maxRecDepth 100000 in
set_option maxHeartbeats 4000000 in
theorem digits_zero (w : World) :
    Calls Tryz.prog 73 #[.string ⟨#[48]⟩] w fun e w' => e = .returned (.int .i64 1) ∧ w = w' := by
  have a0 : ∀ w, (Instr.index 9 (.string ⟨#[48]⟩) (.int .i64 0)).run Tryz.prog w = .ok (.int .u8 48) w := fun w => sv_at (P := Tryz.prog) 9 Tryz.underlying9 [48] 0 (by decide) w
  go_enter Tryz.func73, Tryz.ntmps73
  go_wp2_with fail
  go_ret
  exact ⟨rfl, rfl⟩
/-- a numeral's text -/
def TX (s : ByteArray) : Prop := (∃ l, Nume l ∧ (s = sv l ∨ s = sv (45 :: l))) ∨ s = ⟨#[48]⟩
theorem form_any {s : ByteArray} (h : TX s) (w : World) : Calls Tryz.prog 43 #[.string s] w fun e w' => e = .returned (.bool true) ∧ w = w' := by
  rcases h with ⟨l, h, rfl | rfl⟩ | rfl
  · exact form_pos l w h
  · exact form_neg l w h
  · exact form_zero w
theorem digits_any {s : ByteArray} (h : TX s) : ∃ n : Nat, n ≤ 1000 ∧ ∀ w : World, Calls Tryz.prog 73 #[.string s] w fun e w' => e = .returned (.int .i64 (n : Nat)) ∧ w = w' := by
  rcases h with ⟨l, h, rfl | rfl⟩ | rfl
  · exact ⟨_, h.len, fun w => digits_pos l w h⟩
  · exact ⟨_, h.len, fun w => digits_neg l w h⟩
  · exact ⟨1, by decide, fun w => digits_zero w⟩
set_option maxRecDepth 100000 in
set_option maxHeartbeats 4000000 in
theorem wholeT_any {s : ByteArray} (h : TX s) (w : World) : Calls Tryz.prog 44 #[.string s] w fun e w' => e = .returned (.int .i64 0) ∧ w = w' := by
  have F := Lib.hid (fun w => form_any h w)
  obtain ⟨n, hn, hd⟩ := digits_any h
  have D := Lib.hid hd
  have e1 : decide ((20000 : Int) < (n : Int)) = false := decide_eq_false (by omega)
  clear h hd hn
  go_enter Tryz.func44, Tryz.ntmps44
  go_wp2_with fail
  refine (F.out _).mono ?_
  rintro e w' ⟨rfl, rfl⟩
  go_wp2_with fail
  refine (D.out _).mono ?_
  rintro e w' ⟨rfl, rfl⟩
  go_wp2_with fail
  go_ret
  exact ⟨rfl, rfl⟩
set_option maxRecDepth 100000 in
set_option maxHeartbeats 4000000 in
theorem dyadT_zero (w : World) : Calls Tryz.prog 11 #[.agg #[.string ⟨#[48]⟩, .int .i64 0]] w fun e w' => e = .returned (.int .i64 0) ∧ Below w.heap.size w w' := by
  have F := Lib.hid (fun w => form_any (s := ⟨#[48]⟩) (.inr rfl) w)
  have W := Lib.hid (fun w => wholeT_any (s := ⟨#[48]⟩) (.inr rfl) w)
  have q : (ByteArray.toList ⟨#[48]⟩ == ByteArray.toList ⟨#[48]⟩) = true := by simp
  go_enter Tryz.func11, Tryz.ntmps11
  go_wp2_with fail
  refine (F.out _).mono ?_
  rintro e w' ⟨rfl, rfl⟩
  go_wp2_with fail
  refine (W.out _).mono ?_
  rintro e w' ⟨rfl, rfl⟩
  go_wp2_with fail
  go_ret
  exact ⟨rfl, below_alloc w _⟩
set_option maxRecDepth 100000 in
set_option maxHeartbeats 4000000 in
theorem dyadT_some (s : ByteArray) (n : Nat) (c E : Int) (w : World) (h : TX s) (hq : (s.toList == [48]) = false) (hn : s.size = n) (n0 : 0 < n) (nL : n ≤ 2000) (ha : ∀ w, (Instr.index 9 (.string s) (.int .i64 ((n : Int) - 1))).run Tryz.prog w = .ok (.int .u8 c) w) (c1 : 48 ≤ c) (c2 : c ≤ 57) (co : (c - 48) % 2 = 1) (E1 : -2000 ≤ E) (E2 : E ≤ 2000) :
    Calls Tryz.prog 11 #[.agg #[.string s, .int .i64 E]] w fun e w' => e = .returned (.int .i64 0) ∧ Below w.heap.size w w' := by
  have F := Lib.hid (fun w => form_any h w)
  have W := Lib.hid (fun w => wholeT_any h w)
  have q2 : (s.toList == ByteArray.toList ⟨#[48]⟩) = false := by rw [show ByteArray.toList ⟨#[48]⟩ = [48] by rw [ByteArray.toList_eq]]; exact hq
  have f1 : decide (E < -65536) = false := decide_eq_false (by omega)
  have f2 : decide (65536 < E) = false := decide_eq_false (by omega)
  have ct : ((c - 48) % 2 == 0) = false := by rw [beq_eq_false_iff_ne]; omega
  clear h
  go_enter Tryz.func11, Tryz.ntmps11
  go_wp2_with fail
  refine (F.out _).mono ?_
  rintro e w' ⟨rfl, rfl⟩
  go_wp2_with fail
  refine (W.out _).mono ?_
  rintro e w' ⟨rfl, rfl⟩
  go_wp2_with fail
  go_ret
  exact ⟨rfl, below_alloc w _⟩
end Go.Proofs.YtokmommlabdcdaaGreatDoor
