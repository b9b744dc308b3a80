/- Contracts of surdbig's Rat.cross, Mul, Quo, scaled. (Printed by wip/gen36.py.) surdbig's Rat.Quo by a number below 0. (Printed by wip/gen36.py.) surdbig's Rat.Quo by a number above 0. (Printed by wip/gen36.py.) Contract of surdbig's Rat.Quo. (Printed by wip/gen36.py.) How long a sum, a product, a quotient of two fractions is. No program in sight. -/
import Derived.Test.YtokmommlabdcdaaSBig27
import Derived.Deep.Cut
set_option linter.unusedVariables false
set_option linter.unusedSimpArgs false
set_option linter.unusedVariables false
set_option linter.unusedSimpArgs false
namespace Go.Proofs.Ytokmommlabdcdaa
open Wd Fl Go.RowKit
theorem rcross_any (bz ba oa bb ob bc oc bd od : Nat) (x y : Rat) (w : World) (hz : ZAt TW w bz 0 4) (ha : IntAt TW w ⟨ba, oa, none⟩ x.num) (hb : IntAt TW w ⟨bb, ob, none⟩ (x.den : Int)) (hc : IntAt TW w ⟨bc, oc, none⟩ y.num) (hd : IntAt TW w ⟨bd, od, none⟩ (y.den : Int)) (hbx : bl x.num ≤ 1201) (hby : bl y.num ≤ 1201) (hdx : bl (x.den : Int) ≤ 1201) (hdy : bl (y.den : Int) ≤ 1201) (hs1 : Sm x.num.natAbs y.den) (hs2 : Sm y.num.natAbs x.den) :
    Calls Try.prog 78 #[.pointer (some ⟨bz, 0, none⟩), .pointer (some ⟨ba, oa, none⟩), .pointer (some ⟨bb, ob, none⟩), .pointer (some ⟨bc, oc, none⟩), .pointer (some ⟨bd, od, none⟩)] w (RatRet bz (x * y) w) := by
  by_cases n1 : x.num = 0
  · exact rcross_zero bz ba oa bb ob bc oc bd od x y w hz ha hb hc hd hbx hby hdx hdy n1
  · by_cases n2 : y.num = 0
    · exact rcross_zero2 bz ba oa bb ob bc oc bd od x y w hz ha hb hc hd hbx hby hdx hdy n1 n2
    · by_cases d1 : y.den = 1
      · by_cases d2 : x.den = 1
        · exact rcross_aa bz ba oa bb ob bc oc bd od x y w hz ha hb hc hd hbx hby hdx hdy n1 n2 d1 d2
        · by_cases g2 : Nat.gcd y.num.natAbs x.den = 1
          · exact rcross_ab bz ba oa bb ob bc oc bd od x y w hz ha hb hc hd hbx hby hdx hdy n1 n2 d1 d2 g2 hs2
          · exact rcross_ac bz ba oa bb ob bc oc bd od x y w hz ha hb hc hd hbx hby hdx hdy n1 n2 d1 d2 g2 hs2
      · by_cases g1 : Nat.gcd x.num.natAbs y.den = 1
        · by_cases d2 : x.den = 1
          · exact rcross_ba bz ba oa bb ob bc oc bd od x y w hz ha hb hc hd hbx hby hdx hdy n1 n2 d1 g1 d2 hs1
          · by_cases g2 : Nat.gcd y.num.natAbs x.den = 1
            · exact rcross_bb bz ba oa bb ob bc oc bd od x y w hz ha hb hc hd hbx hby hdx hdy n1 n2 d1 g1 d2 g2 hs1 hs2
            · exact rcross_bc bz ba oa bb ob bc oc bd od x y w hz ha hb hc hd hbx hby hdx hdy n1 n2 d1 g1 d2 g2 hs1 hs2
        · by_cases d2 : x.den = 1
          · exact rcross_ca bz ba oa bb ob bc oc bd od x y w hz ha hb hc hd hbx hby hdx hdy n1 n2 d1 g1 d2 hs1
          · by_cases g2 : Nat.gcd y.num.natAbs x.den = 1
            · exact rcross_cb bz ba oa bb ob bc oc bd od x y w hz ha hb hc hd hbx hby hdx hdy n1 n2 d1 g1 d2 g2 hs1 hs2
            · exact rcross_cc bz ba oa bb ob bc oc bd od x y w hz ha hb hc hd hbx hby hdx hdy n1 n2 d1 g1 d2 g2 hs1 hs2
theorem bal {w W : World} {c : Obj} (h : Below w.heap.size w W) : Below w.heap.size w (W.alloc c) := h.trans ((bnew W c).mono h.size)
theorem bwr {w W W' : World} {b lo hi : Nat} (h : Below w.heap.size w W) (g : Wr b lo hi W W') (hb : w.heap.size ≤ b) : Below w.heap.size w W' := h.trans (g.below hb h.size)
theorem bdr (w : World) : Below w.heap.size w w.drew := (Below.refl _ w).drew
theorem znew2 (W : World) (c : Obj) : ZAt TW ((W.alloc c).alloc (.cells #[.bool false, .slice none 0 0] 45)) (W.heap.size + 1) 0 2 := by
  have := znew (W.alloc c)
  rwa [show (W.alloc c).heap.size = W.heap.size + 1 by simp] at this
/-- two new numbers -/
def TwoNew (w : World) (n m : Int) (sc sd : Value) (wx : World) : Prop := ∃ bC bD, sc = .pointer (some ⟨bC, 0, none⟩) ∧ sd = .pointer (some ⟨bD, 0, none⟩) ∧ IntAt TW wx ⟨bC, 0, none⟩ n ∧ IntAt TW wx ⟨bD, 0, none⟩ m ∧ Below w.heap.size w wx ∧ w.heap.size ≤ bC ∧ w.heap.size ≤ bD ∧ bC ≠ bD
theorem int_eq {w : World} {p : Addr} {n m : Int} (e : n = m) (h : IntAt TW w p m) : IntAt TW w p n := by rw [e]; exact h
theorem mul_whole {x y : Rat} (hx : x.den = 1) (hy : y.den = 1) : x * y = ((x.num * y.num : Int) : Rat) := by
  obtain ⟨e1, e2⟩ := Rl.mul_steps (x := x) (y := y) _ _ rfl rfl
  have g1 : Nat.gcd x.num.natAbs y.den = 1 := by rw [hy, Nat.gcd_one_right]
  have g2 : Nat.gcd y.num.natAbs x.den = 1 := by rw [hx, Nat.gcd_one_right]
  apply Rat.ext
  · rw [e1, tdiv_one_g g1, tdiv_one_g g2, Rat.num_intCast]
  · rw [e2, hx, hy, Rat.den_intCast]; simp
set_option maxRecDepth 100000 in
set_option maxHeartbeats 8000000 in
theorem rmul_whole (bz bx bY : Nat) (x y : Rat) (w : World) (hz : ZAt TW w bz 0 4) (hx : RatAt w bx x) (hy : RatAt w bY y) (hbx : bl x.num ≤ 1200) (hby : bl y.num ≤ 1200) (hdx : bl (x.den : Int) ≤ 1201) (hdy : bl (y.den : Int) ≤ 1201) (h1 : x.den = 1) (h2 : y.den = 1) :
    Calls Try.prog 50 #[.pointer (some ⟨bz, 0, none⟩), .pointer (some ⟨bx, 0, none⟩), .pointer (some ⟨bY, 0, none⟩)] w (RatRet bz (x * y) w) := by
  have HZ := Lib.hid hz
  have HX := Lib.hid hx
  have HY := Lib.hid hy
  have LZ := Lib.hid hz.lt
  have B := Lib.hid (Below.refl w.heap.size w)
  have WX := Lib.hid (whole_any bx x w hx)
  have WY := Lib.hid (whole_any bY y w hy)
  have HBX := Lib.hid (hbx)
  have HBY := Lib.hid (hby)
  have ES := Lib.hid (mul_whole h1 h2)
  rw [decide_eq_true h1] at WX
  rw [decide_eq_true h2] at WY
  obtain ⟨r, hr⟩ : ∃ r, x * y = r := ⟨_, rfl⟩
  rw [hr] at ES ⊢
  clear hz hx hy hbx hby hdx hdy h1 h2 hr
  go_enter Try.func50, Try.ntmps50
  go_wp2_with fail
  refine WX.out.mono ?_
  rintro e w' ⟨rfl, rfl⟩
  go_wp2_with fail
  refine WY.out.mono ?_
  rintro e w' ⟨rfl, rfl⟩
  go_wp2_with fail
  go_region_law (first | (go_simp; go_at_call 20; refine (imul_any w.heap.size 0 bx 0 bY 0 x.num y.num _ (znew w.drew) (HX.out.1.below ((Below.refl _ w).drew.trans (bnew w.drew _))) (HY.out.1.below ((Below.refl _ w).drew.trans (bnew w.drew _))) (Nat.le_trans HBX.out (by decide)) (Nat.le_trans HBY.out (by decide)) (.inl (Nat.le_trans HBX.out (by decide)))).mono ?_; rintro e w1 ⟨rfl, hi, hr⟩; have BS := Lib.hid ((Below.refl w.heap.size w).drew.trans (newW (w := w.drew) hr)); have T := Lib.hid hi; clear hi hr) | (go_simp; go_at_call 77; refine (entire_any bz w.heap.size 0 (x.num * y.num) w1 (HZ.out.below BS.out) (Nat.ne_of_gt LZ.out) T.out).mono ?_; rintro e w2 ⟨rfl, hra, hr⟩; have R := Lib.hid hra; have RW := Lib.hid ((Wr.of_below bz 0 4 BS.out).trans hr); clear hra hr))
  all_goals
    go_wp2_with fail
    go_ret
    exact ⟨rfl, by rw [ES.out]; exact R.out, RW.out⟩
set_option maxRecDepth 100000 in
set_option maxHeartbeats 8000000 in
theorem rmul_cross (bz bx bY : Nat) (x y : Rat) (w : World) (hz : ZAt TW w bz 0 4) (hx : RatAt w bx x) (hy : RatAt w bY y) (hbx : bl x.num ≤ 1200) (hby : bl y.num ≤ 1200) (hdx : bl (x.den : Int) ≤ 1201) (hdy : bl (y.den : Int) ≤ 1201) (hnw : ¬ (x.den = 1 ∧ y.den = 1)) (hs : Sm x.num.natAbs y.den) (hs2 : Sm y.num.natAbs x.den) :
    Calls Try.prog 50 #[.pointer (some ⟨bz, 0, none⟩), .pointer (some ⟨bx, 0, none⟩), .pointer (some ⟨bY, 0, none⟩)] w (RatRet bz (x * y) w) := by
  have HZ := Lib.hid hz
  have HX := Lib.hid hx
  have HY := Lib.hid hy
  have LZ := Lib.hid hz.lt
  have B := Lib.hid (Below.refl w.heap.size w)
  have WX := Lib.hid (whole_any bx x w hx)
  have WY := Lib.hid (whole_any bY y w hy)
  have HBX := Lib.hid (hbx)
  have HBY := Lib.hid (hby)
  have HDX := Lib.hid (hdx)
  have HDY := Lib.hid (hdy)
  have HS1 := Lib.hid (hs)
  have HS2 := Lib.hid (hs2)
  obtain ⟨r, hr⟩ : ∃ r, x * y = r := ⟨_, rfl⟩
  have ES := Lib.hid hr
  rw [hr]
  have two : (Hid (x.den = 1) ∧ Hid (decide (y.den = 1) = false)) ∨ Hid (decide (x.den = 1) = false) := by
    by_cases c1 : x.den = 1
    · exact .inl ⟨Lib.hid c1, Lib.hid (decide_eq_false fun h => hnw ⟨c1, h⟩)⟩
    · exact .inr (Lib.hid (decide_eq_false c1))
  rcases two with ⟨c1, c2⟩ | c1
  · rw [decide_eq_true c1.out] at WX
    rw [c2.out] at WY
    clear hz hx hy hbx hby hdx hdy hnw hr c1 c2 hs hs2
    go_enter Try.func50, Try.ntmps50
    go_wp2_with fail
    refine WX.out.mono ?_
    rintro e w' ⟨rfl, rfl⟩
    go_wp2_with fail
    refine WY.out.mono ?_
    rintro e w' ⟨rfl, rfl⟩
    go_wp2_with fail
    go_region_law (first | (go_simp; go_at_call 79; (with_reducible refine (denom_any bx x w.drew (HX.out.below (bdr w))).mono ?_); rintro e w1 ⟨bP, oP, rfl, hi, hb, hor⟩; have B1 := Lib.hid ((bdr w).trans (hb.mono (Nat.le_refl _))); have P := Lib.hid hi; have HY1 := Lib.hid (HY.out.below B1.out); clear hi hb hor) | (go_simp; go_at_call 79; (with_reducible refine (denom_any bY y w1 HY1.out).mono ?_); rintro e w2 ⟨bQ, oQ, rfl, hi, hb, hor⟩; have B2 := Lib.hid (B1.out.trans (hb.mono B1.out.size)); have P2 := Lib.hid (P.out.below hb); have Q := Lib.hid hi; clear hi hb hor) | (go_simp; go_at_call 78; (with_reducible refine (rcross_any bz bx 0 bP oP bY 0 bQ oQ x y w2 (HZ.out.below B2.out) (HX.out.below B2.out).num P2.out (HY.out.below B2.out).num Q.out (Nat.le_trans HBX.out (by decide)) (Nat.le_trans HBY.out (by decide)) HDX.out HDY.out HS1.out HS2.out).mono ?_); rintro e w3 ⟨rfl, hra, hr⟩; have R := Lib.hid hra; have RW := Lib.hid ((Wr.of_below bz 0 4 B2.out).trans hr); clear hra hr))
    all_goals
      go_wp2_with fail
      go_ret
      exact ⟨rfl, by rw [← ES.out]; exact R.out, RW.out⟩
  · rw [c1.out] at WX
    clear hz hx hy hbx hby hdx hdy hnw hr c1 hs hs2
    go_enter Try.func50, Try.ntmps50
    go_wp2_with fail
    refine WX.out.mono ?_
    rintro e w' ⟨rfl, rfl⟩
    go_wp2_with fail
    go_region_law (first | (go_simp; go_at_call 79; (with_reducible refine (denom_any bx x w.drew (HX.out.below (bdr w))).mono ?_); rintro e w1 ⟨bP, oP, rfl, hi, hb, hor⟩; have B1 := Lib.hid ((bdr w).trans (hb.mono (Nat.le_refl _))); have P := Lib.hid hi; have HY1 := Lib.hid (HY.out.below B1.out); clear hi hb hor) | (go_simp; go_at_call 79; (with_reducible refine (denom_any bY y w1 HY1.out).mono ?_); rintro e w2 ⟨bQ, oQ, rfl, hi, hb, hor⟩; have B2 := Lib.hid (B1.out.trans (hb.mono B1.out.size)); have P2 := Lib.hid (P.out.below hb); have Q := Lib.hid hi; clear hi hb hor) | (go_simp; go_at_call 78; (with_reducible refine (rcross_any bz bx 0 bP oP bY 0 bQ oQ x y w2 (HZ.out.below B2.out) (HX.out.below B2.out).num P2.out (HY.out.below B2.out).num Q.out (Nat.le_trans HBX.out (by decide)) (Nat.le_trans HBY.out (by decide)) HDX.out HDY.out HS1.out HS2.out).mono ?_); rintro e w3 ⟨rfl, hra, hr⟩; have R := Lib.hid hra; have RW := Lib.hid ((Wr.of_below bz 0 4 B2.out).trans hr); clear hra hr))
    all_goals
      go_wp2_with fail
      go_ret
      exact ⟨rfl, by rw [← ES.out]; exact R.out, RW.out⟩
/-- Rat.Mul of two fractions whose denominators are powers of two -/
theorem rmul_any (bz bx bY : Nat) (x y : Rat) (w : World) (hz : ZAt TW w bz 0 4) (hx : RatAt w bx x) (hy : RatAt w bY y) (dx : Dy 1200 x) (dy : Dy 1200 y) :
    Calls Try.prog 50 #[.pointer (some ⟨bz, 0, none⟩), .pointer (some ⟨bx, 0, none⟩), .pointer (some ⟨bY, 0, none⟩)] w (RatRet bz (x * y) w) := by
  obtain ⟨i, hi, ei⟩ := dx.den
  obtain ⟨j, hj, ej⟩ := dy.den
  have hbx : bl x.num ≤ 1200 := dx.num
  have hby : bl y.num ≤ 1200 := dy.num
  have hdx : bl (x.den : Int) ≤ 1201 := by rw [ei]; exact bl_pow_le hi
  have hdy : bl (y.den : Int) ≤ 1201 := by rw [ej]; exact bl_pow_le hj
  by_cases hnw : x.den = 1 ∧ y.den = 1
  · exact rmul_whole bz bx bY x y w hz hx hy hbx hby hdx hdy hnw.1 hnw.2
  · exact rmul_cross bz bx bY x y w hz hx hy hbx hby hdx hdy hnw (by rw [ej]; exact sm_pow _ _) (by rw [ei]; exact sm_pow _ _)
end Go.Proofs.Ytokmommlabdcdaa
set_option linter.unusedVariables false
set_option linter.unusedSimpArgs false
namespace Go.Proofs.Ytokmommlabdcdaa
open Wd Fl Go.RowKit
set_option maxRecDepth 100000 in
set_option maxHeartbeats 8000000 in
theorem rquo_neg (bz bx bY : Nat) (x y : Rat) (w : World) (hz : ZAt TW w bz 0 4) (hx : RatAt w bx x) (hy : RatAt w bY y) (hbx : bl x.num ≤ 1200) (hby : bl y.num ≤ 1200) (hdx : bl (x.den : Int) ≤ 1201) (hdy : bl (y.den : Int) ≤ 1201) (h0 : y.num ≠ 0) (hsg : y.num < 0) (hs : Sm x.num.natAbs y.num.natAbs) (hs2 : Sm y.den x.den) :
    Calls Try.prog 53 #[.pointer (some ⟨bz, 0, none⟩), .pointer (some ⟨bx, 0, none⟩), .pointer (some ⟨bY, 0, none⟩)] w (RatRet bz (x / y) w) := by
  have HZ := Lib.hid hz
  have HX := Lib.hid hx
  have HY := Lib.hid hy
  have LZ := Lib.hid hz.lt
  have B := Lib.hid (Below.refl w.heap.size w)
  have HBX := Lib.hid (hbx)
  have HBY := Lib.hid (hby)
  have HDX := Lib.hid (hdx)
  have HDY := Lib.hid (hdy)
  have SG := Lib.hid (hsg)
  obtain ⟨i1, i2⟩ := Rl.inv_parts h0
  rw [if_pos hsg] at i1
  obtain ⟨yi, hyi⟩ : ∃ q, y⁻¹ = q := ⟨_, rfl⟩
  have hq : x / y = x * yi := by rw [← hyi]; exact Rat.div_def _ _
  rw [hyi] at i1 i2
  have I1 := Lib.hid i1
  have I2 : Hid ((yi.den : Int) = ((y.num.natAbs : Nat) : Int)) := Lib.hid (by rw [i2])
  have HBI : Hid (bl yi.num ≤ 1201) := Lib.hid (by rw [i1]; rw [bl_neg]; exact hdy)
  have HDI : Hid (bl (yi.den : Int) ≤ 1201) := Lib.hid (by rw [i2]; unfold bl; rw [Int.natAbs_natCast]; exact Nat.le_trans hby (by decide))
  have HS1 : Hid (Sm x.num.natAbs yi.den) := Lib.hid (by rw [i2]; exact hs)
  have HS2 : Hid (Sm yi.num.natAbs x.den) := Lib.hid (by rw [i1]; rw [Int.natAbs_neg]; rw [Int.natAbs_natCast]; exact hs2)
  obtain ⟨r, hr⟩ : ∃ r, x / y = r := ⟨_, rfl⟩
  rw [hr] at hq ⊢
  have ES := Lib.hid hq.symm
  clear hz hx hy hbx hby hdx hdy h0 hsg hs hs2 i1 i2 hyi hq hr
  go_enter Try.func53, Try.ntmps53
  go_upto_region 1 with fail
  go_cut [7, 8] from 9 (fun sc sd wx => TwoNew w (y.den : Int) ((y.num.natAbs : Nat) : Int) sc sd wx)
  case first =>
    go_region_law (first | (go_simp; go_at_call 79; (with_reducible refine (denom_any bY y w.drew (HY.out.below (bdr w))).mono ?_); rintro e w1 ⟨bD0, oD0, rfl, hi, hb, hor⟩; have h0 : Below w.heap.size w (w.drew) := bdr w; have I1 := Lib.hid hi; have B1 := Lib.hid (h0.trans (hb.mono h0.size)); clear h0 hi hb hor) | (go_simp; go_at_call 79; (with_reducible refine (denom_any bY y (w.alloc (.cells #[.bool false, .slice none 0 0] 45)).drew (HY.out.below ((bal (Below.refl _ w)).drew))).mono ?_); rintro e w1 ⟨bD0, oD0, rfl, hi, hb, hor⟩; have h0 : Below w.heap.size w ((w.alloc (.cells #[.bool false, .slice none 0 0] 45)).drew) := (bal (Below.refl _ w)).drew; have I1 := Lib.hid hi; have B1 := Lib.hid (h0.trans (hb.mono h0.size)); have ZA : Hid (ZAt TW w1 w.heap.size 0 2) := Lib.hid (((znew w).below (bdr _)).below hb); clear h0 hi hb hor) | (go_simp; go_at_call 79; (with_reducible refine (denom_any bY y ((w.alloc (.cells #[.bool false, .slice none 0 0] 45)).alloc (.cells #[.bool false, .slice none 0 0] 45)).drew (HY.out.below ((bal (bal (Below.refl _ w))).drew))).mono ?_); rintro e w1 ⟨bD0, oD0, rfl, hi, hb, hor⟩; have h0 : Below w.heap.size w (((w.alloc (.cells #[.bool false, .slice none 0 0] 45)).alloc (.cells #[.bool false, .slice none 0 0] 45)).drew) := (bal (bal (Below.refl _ w))).drew; have I1 := Lib.hid hi; have B1 := Lib.hid (h0.trans (hb.mono h0.size)); have ZA : Hid (ZAt TW w1 w.heap.size 0 2) := Lib.hid ((((znew w).below (bnew _ _)).below (bdr _)).below hb); have ZB : Hid (ZAt TW w1 (w.heap.size + 1) 0 2) := Lib.hid (((znew2 w _).below (bdr _)).below hb); clear h0 hi hb hor) | (go_simp; go_at_call 86; refine (iset_any _ 0 bD0 oD0 ((y.den : Nat) : Int) _ (by first | exact znew _ | exact (znew _).below (bnew _ _) | exact znew2 _ _ | exact ZA.out | exact ZB.out | exact ZA.out.below (bnew _ _) | exact ZB.out.below (bnew _ _)) (by first | exact I1.out | exact I1.out.below (bnew _ _) | exact (I1.out.below (bnew _ _)).below (bnew _ _)) (Nat.le_trans HDY.out (by decide))).mono ?_; rintro e w2 ⟨rfl, hi, hr⟩; have C2 := Lib.hid hi; have B2 : Hid (Below w.heap.size w w2) := Lib.hid (bwr (by first | exact B1.out | exact bal B1.out | exact bal (bal B1.out)) hr (by have := B1.out.size; omega)); (try (have Y1 : Hid (ZAt TW w2 w.heap.size 0 2) := Lib.hid (ZAt.wr (by first | exact znew _ | exact (znew _).below (bnew _ _) | exact znew2 _ _ | exact ZA.out | exact ZB.out | exact ZA.out.below (bnew _ _) | exact ZB.out.below (bnew _ _)) hr))); (try (have Y2 : Hid (ZAt TW w2 (w.heap.size + 1) 0 2) := Lib.hid (ZAt.wr (by first | exact znew _ | exact (znew _).below (bnew _ _) | exact znew2 _ _ | exact ZA.out | exact ZB.out | exact ZA.out.below (bnew _ _) | exact ZB.out.below (bnew _ _)) hr))); (try (have Y3 : Hid (ZAt TW w2 w1.heap.size 0 2) := Lib.hid (ZAt.wr (by first | exact znew _ | exact (znew _).below (bnew _ _) | exact znew2 _ _ | exact ZA.out | exact ZB.out | exact ZA.out.below (bnew _ _) | exact ZB.out.below (bnew _ _)) hr))); (try (have Y4 : Hid (ZAt TW w2 (w1.heap.size + 1) 0 2) := Lib.hid (ZAt.wr (by first | exact znew _ | exact (znew _).below (bnew _ _) | exact znew2 _ _ | exact ZA.out | exact ZB.out | exact ZA.out.below (bnew _ _) | exact ZB.out.below (bnew _ _)) hr))); clear hi hr) | (go_simp; go_at_call 87; refine (iabs_any _ 0 bY 0 y.num _ (by first | exact znew _ | exact Y1.out | exact Y2.out | exact Y3.out | exact Y4.out) (by first | exact (HY.out.below B2.out).num | exact (HY.out.below (bal B2.out)).num) (Nat.le_trans HBY.out (by decide))).mono ?_; rintro e w3 ⟨rfl, hi, hr⟩; have D3 := Lib.hid hi; have B3 : Hid (Below w.heap.size w w3) := Lib.hid (bwr (by first | exact B2.out | exact bal B2.out) hr (by have := B1.out.size; have := B2.out.size; omega)); have C3 := Lib.hid (IntAt.wr (by first | exact C2.out | exact C2.out.below (bnew _ _)) hr (by first | exact znew _ | exact Y1.out | exact Y2.out | exact Y3.out | exact Y4.out) (.inl (by have := C2.out.lt; (try have := ZA.out.lt); (try have := ZB.out.lt); omega))); clear hi hr))
    all_goals (try go_wp2_with fail)
    all_goals go_meet
    all_goals exact ⟨_, _, rfl, rfl, C3.out, D3.out, B3.out, (by have := B1.out.size; have := B2.out.size; omega), (by have := B1.out.size; have := B2.out.size; omega), (by have := C2.out.lt; (try have := ZA.out.lt); (try have := ZB.out.lt); omega)⟩
  case rest =>
    obtain ⟨bC, bD, rfl, rfl, hC, hD, hb, lc, ld, ncd⟩ := hcut
    have C := Lib.hid hC
    have D := Lib.hid hD
    have BW := Lib.hid hb
    have LC := Lib.hid lc
    have LD := Lib.hid ld
    have NCD := Lib.hid ncd
    have HYC := Lib.hid (HY.out.below hb)
    clear hC hD hb lc ld ncd
    have cy := neg_open HYC.out.num SG.out
    go_wp2_with fail
    with_reducible refine (ineg_any bC 0 bC 0 (y.den : Int) wc C.out.z C.out (Nat.le_trans HDY.out (by decide))).mono ?_
    rintro e w4 ⟨rfl, hi, hr⟩
    have D4 := Lib.hid (D.out.wr hr C.out.z (.inl (Ne.symm NCD.out)))
    have B4 := Lib.hid (bwr BW.out hr LC.out)
    have C4 := Lib.hid hi
    clear hi hr cy
    go_wp2_with fail
    go_region_law (first | (go_simp; go_at_call 79; (with_reducible refine (denom_any bx x w4.drew (HX.out.below (B4.out.drew))).mono ?_); rintro e w5 ⟨bP, oP, rfl, hi, hb, hor⟩; have B5 := Lib.hid (B4.out.drew.trans (hb.mono B4.out.size)); have P := Lib.hid hi; have C5 := Lib.hid ((C4.out.below (bdr w4)).below hb); have D5 := Lib.hid ((D4.out.below (bdr w4)).below hb); clear hi hb hor) | (go_simp; go_at_call 78; (with_reducible refine (rcross_any bz bx 0 bP oP bC 0 bD 0 x yi w5 (HZ.out.below B5.out) (HX.out.below B5.out).num P.out (int_eq I1.out C5.out) (int_eq I2.out D5.out) (Nat.le_trans HBX.out (by decide)) HBI.out HDX.out HDI.out HS1.out HS2.out).mono ?_); rintro e w6 ⟨rfl, hra, hr⟩; have R := Lib.hid hra; have RW := Lib.hid ((Wr.of_below bz 0 4 B5.out).trans hr); clear hra hr))
    all_goals
      go_wp2_with fail
      go_ret
      exact ⟨rfl, by rw [← ES.out]; exact R.out, RW.out⟩
end Go.Proofs.Ytokmommlabdcdaa
set_option linter.unusedVariables false
set_option linter.unusedSimpArgs false
namespace Go.Proofs.Ytokmommlabdcdaa
open Wd Fl Go.RowKit
set_option maxRecDepth 100000 in
set_option maxHeartbeats 8000000 in
theorem rquo_pos (bz bx bY : Nat) (x y : Rat) (w : World) (hz : ZAt TW w bz 0 4) (hx : RatAt w bx x) (hy : RatAt w bY y) (hbx : bl x.num ≤ 1200) (hby : bl y.num ≤ 1200) (hdx : bl (x.den : Int) ≤ 1201) (hdy : bl (y.den : Int) ≤ 1201) (h0 : y.num ≠ 0) (hsg : ¬ y.num < 0) (hs : Sm x.num.natAbs y.num.natAbs) (hs2 : Sm y.den x.den) :
    Calls Try.prog 53 #[.pointer (some ⟨bz, 0, none⟩), .pointer (some ⟨bx, 0, none⟩), .pointer (some ⟨bY, 0, none⟩)] w (RatRet bz (x / y) w) := by
  have HZ := Lib.hid hz
  have HX := Lib.hid hx
  have HY := Lib.hid hy
  have LZ := Lib.hid hz.lt
  have B := Lib.hid (Below.refl w.heap.size w)
  have HBX := Lib.hid (hbx)
  have HBY := Lib.hid (hby)
  have HDX := Lib.hid (hdx)
  have HDY := Lib.hid (hdy)
  have SG := Lib.hid (hsg)
  obtain ⟨i1, i2⟩ := Rl.inv_parts h0
  rw [if_neg hsg] at i1
  obtain ⟨yi, hyi⟩ : ∃ q, y⁻¹ = q := ⟨_, rfl⟩
  have hq : x / y = x * yi := by rw [← hyi]; exact Rat.div_def _ _
  rw [hyi] at i1 i2
  have I1 := Lib.hid i1
  have I2 : Hid ((yi.den : Int) = ((y.num.natAbs : Nat) : Int)) := Lib.hid (by rw [i2])
  have HBI : Hid (bl yi.num ≤ 1201) := Lib.hid (by rw [i1]; exact hdy)
  have HDI : Hid (bl (yi.den : Int) ≤ 1201) := Lib.hid (by rw [i2]; unfold bl; rw [Int.natAbs_natCast]; exact Nat.le_trans hby (by decide))
  have HS1 : Hid (Sm x.num.natAbs yi.den) := Lib.hid (by rw [i2]; exact hs)
  have HS2 : Hid (Sm yi.num.natAbs x.den) := Lib.hid (by rw [i1]; rw [Int.natAbs_natCast]; exact hs2)
  obtain ⟨r, hr⟩ : ∃ r, x / y = r := ⟨_, rfl⟩
  rw [hr] at hq ⊢
  have ES := Lib.hid hq.symm
  clear hz hx hy hbx hby hdx hdy h0 hsg hs hs2 i1 i2 hyi hq hr
  go_enter Try.func53, Try.ntmps53
  go_upto_region 1 with fail
  go_cut [7, 8] from 9 (fun sc sd wx => TwoNew w (y.den : Int) ((y.num.natAbs : Nat) : Int) sc sd wx)
  case first =>
    go_region_law (first | (go_simp; go_at_call 79; (with_reducible refine (denom_any bY y w.drew (HY.out.below (bdr w))).mono ?_); rintro e w1 ⟨bD0, oD0, rfl, hi, hb, hor⟩; have h0 : Below w.heap.size w (w.drew) := bdr w; have I1 := Lib.hid hi; have B1 := Lib.hid (h0.trans (hb.mono h0.size)); clear h0 hi hb hor) | (go_simp; go_at_call 79; (with_reducible refine (denom_any bY y (w.alloc (.cells #[.bool false, .slice none 0 0] 45)).drew (HY.out.below ((bal (Below.refl _ w)).drew))).mono ?_); rintro e w1 ⟨bD0, oD0, rfl, hi, hb, hor⟩; have h0 : Below w.heap.size w ((w.alloc (.cells #[.bool false, .slice none 0 0] 45)).drew) := (bal (Below.refl _ w)).drew; have I1 := Lib.hid hi; have B1 := Lib.hid (h0.trans (hb.mono h0.size)); have ZA : Hid (ZAt TW w1 w.heap.size 0 2) := Lib.hid (((znew w).below (bdr _)).below hb); clear h0 hi hb hor) | (go_simp; go_at_call 79; (with_reducible refine (denom_any bY y ((w.alloc (.cells #[.bool false, .slice none 0 0] 45)).alloc (.cells #[.bool false, .slice none 0 0] 45)).drew (HY.out.below ((bal (bal (Below.refl _ w))).drew))).mono ?_); rintro e w1 ⟨bD0, oD0, rfl, hi, hb, hor⟩; have h0 : Below w.heap.size w (((w.alloc (.cells #[.bool false, .slice none 0 0] 45)).alloc (.cells #[.bool false, .slice none 0 0] 45)).drew) := (bal (bal (Below.refl _ w))).drew; have I1 := Lib.hid hi; have B1 := Lib.hid (h0.trans (hb.mono h0.size)); have ZA : Hid (ZAt TW w1 w.heap.size 0 2) := Lib.hid ((((znew w).below (bnew _ _)).below (bdr _)).below hb); have ZB : Hid (ZAt TW w1 (w.heap.size + 1) 0 2) := Lib.hid (((znew2 w _).below (bdr _)).below hb); clear h0 hi hb hor) | (go_simp; go_at_call 86; refine (iset_any _ 0 bD0 oD0 ((y.den : Nat) : Int) _ (by first | exact znew _ | exact (znew _).below (bnew _ _) | exact znew2 _ _ | exact ZA.out | exact ZB.out | exact ZA.out.below (bnew _ _) | exact ZB.out.below (bnew _ _)) (by first | exact I1.out | exact I1.out.below (bnew _ _) | exact (I1.out.below (bnew _ _)).below (bnew _ _)) (Nat.le_trans HDY.out (by decide))).mono ?_; rintro e w2 ⟨rfl, hi, hr⟩; have C2 := Lib.hid hi; have B2 : Hid (Below w.heap.size w w2) := Lib.hid (bwr (by first | exact B1.out | exact bal B1.out | exact bal (bal B1.out)) hr (by have := B1.out.size; omega)); (try (have Y1 : Hid (ZAt TW w2 w.heap.size 0 2) := Lib.hid (ZAt.wr (by first | exact znew _ | exact (znew _).below (bnew _ _) | exact znew2 _ _ | exact ZA.out | exact ZB.out | exact ZA.out.below (bnew _ _) | exact ZB.out.below (bnew _ _)) hr))); (try (have Y2 : Hid (ZAt TW w2 (w.heap.size + 1) 0 2) := Lib.hid (ZAt.wr (by first | exact znew _ | exact (znew _).below (bnew _ _) | exact znew2 _ _ | exact ZA.out | exact ZB.out | exact ZA.out.below (bnew _ _) | exact ZB.out.below (bnew _ _)) hr))); (try (have Y3 : Hid (ZAt TW w2 w1.heap.size 0 2) := Lib.hid (ZAt.wr (by first | exact znew _ | exact (znew _).below (bnew _ _) | exact znew2 _ _ | exact ZA.out | exact ZB.out | exact ZA.out.below (bnew _ _) | exact ZB.out.below (bnew _ _)) hr))); (try (have Y4 : Hid (ZAt TW w2 (w1.heap.size + 1) 0 2) := Lib.hid (ZAt.wr (by first | exact znew _ | exact (znew _).below (bnew _ _) | exact znew2 _ _ | exact ZA.out | exact ZB.out | exact ZA.out.below (bnew _ _) | exact ZB.out.below (bnew _ _)) hr))); clear hi hr) | (go_simp; go_at_call 87; refine (iabs_any _ 0 bY 0 y.num _ (by first | exact znew _ | exact Y1.out | exact Y2.out | exact Y3.out | exact Y4.out) (by first | exact (HY.out.below B2.out).num | exact (HY.out.below (bal B2.out)).num) (Nat.le_trans HBY.out (by decide))).mono ?_; rintro e w3 ⟨rfl, hi, hr⟩; have D3 := Lib.hid hi; have B3 : Hid (Below w.heap.size w w3) := Lib.hid (bwr (by first | exact B2.out | exact bal B2.out) hr (by have := B1.out.size; have := B2.out.size; omega)); have C3 := Lib.hid (IntAt.wr (by first | exact C2.out | exact C2.out.below (bnew _ _)) hr (by first | exact znew _ | exact Y1.out | exact Y2.out | exact Y3.out | exact Y4.out) (.inl (by have := C2.out.lt; (try have := ZA.out.lt); (try have := ZB.out.lt); omega))); clear hi hr))
    all_goals (try go_wp2_with fail)
    all_goals go_meet
    all_goals exact ⟨_, _, rfl, rfl, C3.out, D3.out, B3.out, (by have := B1.out.size; have := B2.out.size; omega), (by have := B1.out.size; have := B2.out.size; omega), (by have := C2.out.lt; (try have := ZA.out.lt); (try have := ZB.out.lt); omega)⟩
  case rest =>
    obtain ⟨bC, bD, rfl, rfl, hC, hD, hb, lc, ld, ncd⟩ := hcut
    have C := Lib.hid hC
    have D := Lib.hid hD
    have BW := Lib.hid hb
    have LC := Lib.hid lc
    have LD := Lib.hid ld
    have NCD := Lib.hid ncd
    have HYC := Lib.hid (HY.out.below hb)
    clear hC hD hb lc ld ncd
    have cy := nonneg_open HYC.out.num SG.out
    go_wp2_with fail
    go_region_law (first | (go_simp; go_at_call 79; (with_reducible refine (denom_any bx x wc.drew (HX.out.below (BW.out.drew))).mono ?_); rintro e w5 ⟨bP, oP, rfl, hi, hb, hor⟩; have B5 := Lib.hid (BW.out.drew.trans (hb.mono BW.out.size)); have P := Lib.hid hi; have C5 := Lib.hid ((C.out.below (bdr wc)).below hb); have D5 := Lib.hid ((D.out.below (bdr wc)).below hb); clear hi hb hor) | (go_simp; go_at_call 78; (with_reducible refine (rcross_any bz bx 0 bP oP bC 0 bD 0 x yi w5 (HZ.out.below B5.out) (HX.out.below B5.out).num P.out (int_eq I1.out C5.out) (int_eq I2.out D5.out) (Nat.le_trans HBX.out (by decide)) HBI.out HDX.out HDI.out HS1.out HS2.out).mono ?_); rintro e w6 ⟨rfl, hra, hr⟩; have R := Lib.hid hra; have RW := Lib.hid ((Wr.of_below bz 0 4 B5.out).trans hr); clear hra hr))
    all_goals
      go_wp2_with fail
      go_ret
      exact ⟨rfl, by rw [← ES.out]; exact R.out, RW.out⟩
end Go.Proofs.Ytokmommlabdcdaa
set_option linter.unusedVariables false
set_option linter.unusedSimpArgs false
namespace Go.Proofs.Ytokmommlabdcdaa
open Wd Fl Go.RowKit
theorem sm_odd {a b p q c d : Nat} (h1 : a = 2 ^ p * c) (h2 : c % 2 = 1) (h3 : c < 2 ^ 53) (g1 : b = 2 ^ q * d) (g2 : d % 2 = 1) (g3 : d < 2 ^ 53) : Sm a b :=
  .inr (.inr ⟨p, q, c, d, h1, g1, h2, g2, .inr (.inr ⟨by omega, by omega⟩)⟩)
theorem sm_dy {B : Nat} {x y : Rat} (dx : Dy B x) (dy : Dy B y) : Sm x.num.natAbs y.num.natAbs := by
  rcases dx.odd with h | ⟨p, c, h1, h2, h3⟩
  · exact .inl (by rw [h]; rfl)
  · rcases dy.odd with h | ⟨q, d, g1, g2, g3⟩
    · exact .inr (.inl (by rw [h]; rfl))
    · exact sm_odd h1 h2 h3 g1 g2 g3
/-- Rat.Quo of two fractions whose denominators are powers of two -/
theorem rquo_any (bz bx bY : Nat) (x y : Rat) (w : World) (hz : ZAt TW w bz 0 4) (hx : RatAt w bx x) (hy : RatAt w bY y) (dx : Dy 1200 x) (dy : Dy 1200 y) (h0 : y.num ≠ 0) :
    Calls Try.prog 53 #[.pointer (some ⟨bz, 0, none⟩), .pointer (some ⟨bx, 0, none⟩), .pointer (some ⟨bY, 0, none⟩)] w (RatRet bz (x / y) w) := by
  obtain ⟨i, hi, ei⟩ := dx.den
  obtain ⟨j, hj, ej⟩ := dy.den
  have hbx : bl x.num ≤ 1200 := dx.num
  have hby : bl y.num ≤ 1200 := dy.num
  have hdx : bl (x.den : Int) ≤ 1201 := by rw [ei]; exact bl_pow_le hi
  have hdy : bl (y.den : Int) ≤ 1201 := by rw [ej]; exact bl_pow_le hj
  have hs2 : Sm y.den x.den := by rw [ei]; exact sm_pow _ _
  by_cases hsg : y.num < 0
  · exact rquo_neg bz bx bY x y w hz hx hy hbx hby hdx hdy h0 hsg (sm_dy dx dy) hs2
  · exact rquo_pos bz bx bY x y w hz hx hy hbx hby hdx hdy h0 hsg (sm_dy dx dy) hs2
end Go.Proofs.Ytokmommlabdcdaa
set_option linter.unusedVariables false
set_option linter.unusedSimpArgs false
namespace Go.Proofs.Ytokmommlabdcdaa
open Wd Fl Go.RowKit
theorem rb_mkRat_bl {n : Int} {d B C : Nat} (hd : 0 < d) (h1 : bl n ≤ B) (h2 : bl (d : Int) ≤ C) : bl (mkRat n d).num ≤ B ∧ bl ((mkRat n d).den : Int) ≤ C := by
  obtain ⟨e1, e2⟩ := mkRat_parts n hd
  rw [e1, e2]
  exact ⟨Nat.le_trans (bl_tdiv _ _) h1, Nat.le_trans (bl_tdiv _ _) h2⟩
theorem rb_dy_den {B : Nat} {x : Rat} (h : Dy B x) : bl (x.den : Int) ≤ B + 1 := by
  obtain ⟨i, hi, e⟩ := h.den
  rw [e]; exact bl_pow_le hi
theorem rb_add_bl {x y : Rat} (hx : Dy 1200 x) (hy : Dy 1200 y) : bl (x + y).num ≤ 5000 ∧ bl ((x + y).den : Int) ≤ 5000 := by
  have a1 := rb_dy_den hx
  have a2 := rb_dy_den hy
  have b1 : bl x.num ≤ 1200 := hx.num
  have b2 : bl y.num ≤ 1200 := hy.num
  rw [Rat.add_def']
  have m1 := bl_mul x.num (y.den : Int)
  have m2 := bl_mul y.num (x.den : Int)
  have m3 := bl_mul (x.den : Int) (y.den : Int)
  have m4 := bl_add (x.num * (y.den : Int)) (y.num * (x.den : Int)) 2401 (by omega) (by omega)
  exact rb_mkRat_bl (Nat.mul_pos x.den_pos y.den_pos) (by omega) (by rw [Int.natCast_mul]; omega)
theorem rb_mul_bl {x y : Rat} {B : Nat} (hx : bl x.num ≤ B) (hy : bl y.num ≤ B) (dx : bl (x.den : Int) ≤ B) (dy : bl (y.den : Int) ≤ B) : bl (x * y).num ≤ 2 * B ∧ bl ((x * y).den : Int) ≤ 2 * B := by
  rw [Rat.mul_def']
  have m1 := bl_mul x.num y.num
  have m3 := bl_mul (x.den : Int) (y.den : Int)
  exact rb_mkRat_bl (Nat.mul_pos x.den_pos y.den_pos) (by omega) (by rw [Int.natCast_mul]; omega)
theorem rb_mul_bl' {x y : Rat} (hx : Dy 1200 x) (hy : Dy 1200 y) : bl (x * y).num ≤ 5000 ∧ bl ((x * y).den : Int) ≤ 5000 := by
  have a1 := rb_dy_den hx
  have a2 := rb_dy_den hy
  have b1 : bl x.num ≤ 1200 := hx.num
  have b2 : bl y.num ≤ 1200 := hy.num
  have := rb_mul_bl (x := x) (y := y) (B := 1201) (by omega) (by omega) a1 a2
  omega
theorem rb_div_bl {x y : Rat} (hx : Dy 1200 x) (hy : Dy 1200 y) (h0 : y.num ≠ 0) : bl (x / y).num ≤ 5000 ∧ bl ((x / y).den : Int) ≤ 5000 := by
  have a1 := rb_dy_den hx
  have a2 := rb_dy_den hy
  have b1 : bl x.num ≤ 1200 := hx.num
  have b2 : bl y.num ≤ 1200 := hy.num
  obtain ⟨i1, i2⟩ := Rl.inv_parts h0
  have c1 : bl (y⁻¹).num ≤ 1201 := by
    rw [i1]
    split
    · rw [bl_neg]; exact a2
    · exact a2
  have c2 : bl ((y⁻¹).den : Int) ≤ 1201 := by
    rw [i2]; unfold bl at *; rw [Int.natAbs_natCast]; omega
  have := rb_mul_bl (x := x) (y := y⁻¹) (B := 1201) (by omega) c1 a1 c2
  rw [← Rat.div_def] at this
  omega
end Go.Proofs.Ytokmommlabdcdaa
