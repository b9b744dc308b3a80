/- The walk of surdlaw2.IeeeUlps: for any two words it answers true, where the library's table of trailing zeros is as it was laid. -/
import Derived.Test.YtmfmgofafamemaaDoorDAwake
import Derived.Test.YtmfmgofafamemaaDoorFlUlp
namespace Go.Proofs.YtmfmgofafamemaaDoor
open Fl Go.RowKit Go.Joins
namespace Ul
theorem fn_any (a : Nat) (w : World) :
    Calls Tryd.prog 7 #[.int .u64 (a : Int)] w fun e w' => e = .returned (.float .f64 a) ∧ w = w' := f_any a w
theorem ul_nan (a b x y u : Nat) (HA : Hid (a < 2 ^ 64)) (HB : Hid (b < 2 ^ 64)) (H : Hid (x < 2 ^ 64)) (HY : Hid (y < 2 ^ 64)) (w : World) (HW : Hid (DAwake.Cell w))
    (hx : Hid (rg a = x)) (hy : Hid (rg b = y)) (hu : Hid (ulpW x = u)) (hun : Hid (ulpW (neg x) = u)) (su : Hid (sameB u u = true))
    (f0 : (FloatKind.f64.format.order x x != some Ordering.eq) = true) (f1 : (FloatKind.f64.format.order u u != some Ordering.eq) = true) :
    Calls Tryd.prog 6 #[.int .u64 a, .int .u64 b] w fun e w' => e = .returned (.bool true) ∧ Below w.heap.size w w' := by
  have hneg : ∀ w : World, (Op.unary .neg (.float .f64 x)).run Tryd.prog w = .ok (.float .f64 (neg x)) w := unary_neg x H.out
  go_enter Tryd.func6, Tryd.ntmps6
  go_wp2_with fail
  refine (fn_any a _).mono ?_
  rintro e w' ⟨rfl, rfl⟩
  go_wp2_with fail
  refine (abs_any a HA.out _).mono ?_
  rintro e w' ⟨rfl, rfl⟩
  rw [hx.out]
  go_wp2_with fail
  refine (fn_any b _).mono ?_
  rintro e w' ⟨rfl, rfl⟩
  go_wp2_with fail
  refine (abs_any b HB.out _).mono ?_
  rintro e w' ⟨rfl, rfl⟩
  rw [hy.out]
  go_wp2_with fail
  refine (ulp_any x H.out _).mono ?_
  rintro e w' ⟨rfl, rfl⟩
  rw [hu.out]
  go_wp2_with fail
  refine (ulp_any (neg x) (neg_lt x H.out) _).mono ?_
  rintro e w' ⟨rfl, rfl⟩
  rw [hun.out]
  go_wp2_with fail
  refine (sameF_any u u _).mono ?_
  rintro e w' ⟨rfl, rfl⟩
  rw [su.out]
  go_wp2_with fail
  refine (DAwake.awake_any _ HW.out).mono ?_
  rintro e w1 ⟨rfl, hb⟩
  have HB2 := Lib.hid hb; clear hb
  go_wp2_with fail
  go_ret
  exact ⟨rfl, HB2.out⟩
theorem ul_inf (a b x y u : Nat) (HA : Hid (a < 2 ^ 64)) (HB : Hid (b < 2 ^ 64)) (H : Hid (x < 2 ^ 64)) (HY : Hid (y < 2 ^ 64)) (w : World) (HW : Hid (DAwake.Cell w))
    (hx : Hid (rg a = x)) (hy : Hid (rg b = y)) (hu : Hid (ulpW x = u)) (hun : Hid (ulpW (neg x) = u)) (su : Hid (sameB u u = true))
    (f0 : (FloatKind.f64.format.order x x != some Ordering.eq) = false) (f1 : (FloatKind.f64.format.order u u != some Ordering.eq) = true) (f2 : (FloatKind.f64.format.order x 9218868437227405311 == some Ordering.gt) = true) :
    Calls Tryd.prog 6 #[.int .u64 a, .int .u64 b] w fun e w' => e = .returned (.bool true) ∧ Below w.heap.size w w' := by
  have hneg : ∀ w : World, (Op.unary .neg (.float .f64 x)).run Tryd.prog w = .ok (.float .f64 (neg x)) w := unary_neg x H.out
  go_enter Tryd.func6, Tryd.ntmps6
  go_wp2_with fail
  refine (fn_any a _).mono ?_
  rintro e w' ⟨rfl, rfl⟩
  go_wp2_with fail
  refine (abs_any a HA.out _).mono ?_
  rintro e w' ⟨rfl, rfl⟩
  rw [hx.out]
  go_wp2_with fail
  refine (fn_any b _).mono ?_
  rintro e w' ⟨rfl, rfl⟩
  go_wp2_with fail
  refine (abs_any b HB.out _).mono ?_
  rintro e w' ⟨rfl, rfl⟩
  rw [hy.out]
  go_wp2_with fail
  refine (ulp_any x H.out _).mono ?_
  rintro e w' ⟨rfl, rfl⟩
  rw [hu.out]
  go_wp2_with fail
  refine (ulp_any (neg x) (neg_lt x H.out) _).mono ?_
  rintro e w' ⟨rfl, rfl⟩
  rw [hun.out]
  go_wp2_with fail
  refine (sameF_any u u _).mono ?_
  rintro e w' ⟨rfl, rfl⟩
  rw [su.out]
  go_wp2_with fail
  refine (DAwake.awake_any _ HW.out).mono ?_
  rintro e w1 ⟨rfl, hb⟩
  have HB2 := Lib.hid hb; clear hb
  go_wp2_with fail
  go_ret
  exact ⟨rfl, HB2.out⟩
set_option maxHeartbeats 2000000 in
theorem ul_in (a b x y u : Nat) (HA : Hid (a < 2 ^ 64)) (HB : Hid (b < 2 ^ 64)) (H : Hid (x < 2 ^ 64)) (HY : Hid (y < 2 ^ 64)) (w : World) (HW : Hid (DAwake.Cell w))
    (hx : Hid (rg a = x)) (hy : Hid (rg b = y)) (hu : Hid (ulpW x = u)) (hun : Hid (ulpW (neg x) = u)) (su : Hid (sameB u u = true))
    (v n : Nat) (m : Int) (hv : Hid (ulpW y = v)) (hn : Hid (nxt x = n))
    (f0 : (FloatKind.f64.format.order x x != some Ordering.eq) = false) (f1 : (FloatKind.f64.format.order u u != some Ordering.eq) = false) (f2 : (FloatKind.f64.format.order x 9218868437227405311 == some Ordering.gt) = false) (f3 : (FloatKind.f64.format.order x 9218868437227405311 == some Ordering.lt) = true)
    (f4 : (FloatKind.f64.format.order 4602678819172646912 4602678819172646912 != some Ordering.eq) = false) (q : ∀ w, fop .sub n x w = u) (m1 : ¬ m < -1073) (m2 : ¬ 972 < m)
    (fr : Hid (∀ w : World, Calls Tryd.prog 20 #[.float .f64 u] w fun e w' => e = .returned (.tuple #[.float .f64 4602678819172646912, .int .i64 m]) ∧ ∃ n, w' = w.drewN n))
    (hc : (FloatKind.f64.format.order y y != some Ordering.eq) = true ∨ ((FloatKind.f64.format.order y y != some Ordering.eq) = false ∧ (FloatKind.f64.format.order y 9218868437227405311 == some Ordering.gt) = true) ∨ ((FloatKind.f64.format.order y y != some Ordering.eq) = false ∧ (FloatKind.f64.format.order y 9218868437227405311 == some Ordering.gt) = false ∧ (FloatKind.f64.format.order y x == some Ordering.lt) = true) ∨ ((FloatKind.f64.format.order y y != some Ordering.eq) = false ∧ (FloatKind.f64.format.order y 9218868437227405311 == some Ordering.gt) = false ∧ (FloatKind.f64.format.order y x == some Ordering.lt) = false ∧ (FloatKind.f64.format.order v u == some Ordering.gt) = true) ∨ ((FloatKind.f64.format.order y y != some Ordering.eq) = false ∧ (FloatKind.f64.format.order y 9218868437227405311 == some Ordering.gt) = false ∧ (FloatKind.f64.format.order y x == some Ordering.lt) = false ∧ (FloatKind.f64.format.order v u == some Ordering.gt) = false ∧ (FloatKind.f64.format.order v u == some Ordering.eq) = true)) :
    Calls Tryd.prog 6 #[.int .u64 a, .int .u64 b] w fun e w' => e = .returned (.bool true) ∧ Below w.heap.size w w' := by
  have hneg : ∀ w : World, (Op.unary .neg (.float .f64 x)).run Tryd.prog w = .ok (.float .f64 (neg x)) w := unary_neg x H.out
  rcases hc with c1 | ⟨c1, c2⟩ | ⟨c1, c2, c3⟩ | ⟨c1, c2, c3, c4⟩ | ⟨c1, c2, c3, c4, c5⟩
  all_goals
    go_enter Tryd.func6, Tryd.ntmps6
    go_wp2_with fail
    refine (fn_any a _).mono ?_
    rintro e w' ⟨rfl, rfl⟩
    go_wp2_with fail
    refine (abs_any a HA.out _).mono ?_
    rintro e w' ⟨rfl, rfl⟩
    rw [hx.out]
    go_wp2_with fail
    refine (fn_any b _).mono ?_
    rintro e w' ⟨rfl, rfl⟩
    go_wp2_with fail
    refine (abs_any b HB.out _).mono ?_
    rintro e w' ⟨rfl, rfl⟩
    rw [hy.out]
    go_wp2_with fail
    refine (ulp_any x H.out _).mono ?_
    rintro e w' ⟨rfl, rfl⟩
    rw [hu.out]
    go_wp2_with fail
    refine (ulp_any (neg x) (neg_lt x H.out) _).mono ?_
    rintro e w' ⟨rfl, rfl⟩
    rw [hun.out]
    go_wp2_with fail
    refine (sameF_any u u _).mono ?_
    rintro e w' ⟨rfl, rfl⟩
    rw [su.out]
    go_wp2_with fail
    refine (fr.out _).mono ?_
    rintro e w' ⟨rfl, k, rfl⟩
    go_wp2_with fail
    refine (next_any x H.out _).mono ?_
    rintro e w' ⟨rfl, rfl⟩
    rw [hn.out]
    go_wp2_with fail
    refine (ulp_any y HY.out _).mono ?_
    rintro e w' ⟨rfl, rfl⟩
    rw [hv.out]
    go_wp2_with fail
    all_goals
      refine (DAwake.awake_any _ (cell_later (below_drewN (Below.refl _ w) _) HW.out)).mono ?_
      rintro e w1 ⟨rfl, hb⟩
      have HB2 := Lib.hid ((below_drewN (Below.refl w.heap.size w) _).trans hb); clear hb
      go_wp2_with fail
      go_ret
      exact ⟨rfl, HB2.out⟩
set_option maxHeartbeats 2000000 in
theorem ul_max (a b x y u : Nat) (HA : Hid (a < 2 ^ 64)) (HB : Hid (b < 2 ^ 64)) (H : Hid (x < 2 ^ 64)) (HY : Hid (y < 2 ^ 64)) (w : World) (HW : Hid (DAwake.Cell w))
    (hx : Hid (rg a = x)) (hy : Hid (rg b = y)) (hu : Hid (ulpW x = u)) (hun : Hid (ulpW (neg x) = u)) (su : Hid (sameB u u = true))
    (v : Nat) (m : Int) (hv : Hid (ulpW y = v))
    (f0 : (FloatKind.f64.format.order x x != some Ordering.eq) = false) (f1 : (FloatKind.f64.format.order u u != some Ordering.eq) = false) (f2 : (FloatKind.f64.format.order x 9218868437227405311 == some Ordering.gt) = false) (f3 : (FloatKind.f64.format.order x 9218868437227405311 == some Ordering.lt) = false)
    (f4 : (FloatKind.f64.format.order 4602678819172646912 4602678819172646912 != some Ordering.eq) = false) (m1 : ¬ m < -1073) (m2 : ¬ 972 < m)
    (fr : Hid (∀ w : World, Calls Tryd.prog 20 #[.float .f64 u] w fun e w' => e = .returned (.tuple #[.float .f64 4602678819172646912, .int .i64 m]) ∧ ∃ n, w' = w.drewN n))
    (hc : (FloatKind.f64.format.order y y != some Ordering.eq) = true ∨ ((FloatKind.f64.format.order y y != some Ordering.eq) = false ∧ (FloatKind.f64.format.order y 9218868437227405311 == some Ordering.gt) = true) ∨ ((FloatKind.f64.format.order y y != some Ordering.eq) = false ∧ (FloatKind.f64.format.order y 9218868437227405311 == some Ordering.gt) = false ∧ (FloatKind.f64.format.order y x == some Ordering.lt) = true) ∨ ((FloatKind.f64.format.order y y != some Ordering.eq) = false ∧ (FloatKind.f64.format.order y 9218868437227405311 == some Ordering.gt) = false ∧ (FloatKind.f64.format.order y x == some Ordering.lt) = false ∧ (FloatKind.f64.format.order v u == some Ordering.gt) = true) ∨ ((FloatKind.f64.format.order y y != some Ordering.eq) = false ∧ (FloatKind.f64.format.order y 9218868437227405311 == some Ordering.gt) = false ∧ (FloatKind.f64.format.order y x == some Ordering.lt) = false ∧ (FloatKind.f64.format.order v u == some Ordering.gt) = false ∧ (FloatKind.f64.format.order v u == some Ordering.eq) = true)) :
    Calls Tryd.prog 6 #[.int .u64 a, .int .u64 b] w fun e w' => e = .returned (.bool true) ∧ Below w.heap.size w w' := by
  have hneg : ∀ w : World, (Op.unary .neg (.float .f64 x)).run Tryd.prog w = .ok (.float .f64 (neg x)) w := unary_neg x H.out
  rcases hc with c1 | ⟨c1, c2⟩ | ⟨c1, c2, c3⟩ | ⟨c1, c2, c3, c4⟩ | ⟨c1, c2, c3, c4, c5⟩
  all_goals
    go_enter Tryd.func6, Tryd.ntmps6
    go_wp2_with fail
    refine (fn_any a _).mono ?_
    rintro e w' ⟨rfl, rfl⟩
    go_wp2_with fail
    refine (abs_any a HA.out _).mono ?_
    rintro e w' ⟨rfl, rfl⟩
    rw [hx.out]
    go_wp2_with fail
    refine (fn_any b _).mono ?_
    rintro e w' ⟨rfl, rfl⟩
    go_wp2_with fail
    refine (abs_any b HB.out _).mono ?_
    rintro e w' ⟨rfl, rfl⟩
    rw [hy.out]
    go_wp2_with fail
    refine (ulp_any x H.out _).mono ?_
    rintro e w' ⟨rfl, rfl⟩
    rw [hu.out]
    go_wp2_with fail
    refine (ulp_any (neg x) (neg_lt x H.out) _).mono ?_
    rintro e w' ⟨rfl, rfl⟩
    rw [hun.out]
    go_wp2_with fail
    refine (sameF_any u u _).mono ?_
    rintro e w' ⟨rfl, rfl⟩
    rw [su.out]
    go_wp2_with fail
    refine (fr.out _).mono ?_
    rintro e w' ⟨rfl, k, rfl⟩
    go_wp2_with fail
    refine (ulp_any y HY.out _).mono ?_
    rintro e w' ⟨rfl, rfl⟩
    rw [hv.out]
    go_wp2_with fail
    all_goals
      refine (DAwake.awake_any _ (cell_later (below_drewN (Below.refl _ w) _) HW.out)).mono ?_
      rintro e w1 ⟨rfl, hb⟩
      have HB2 := Lib.hid ((below_drewN (Below.refl w.heap.size w) _).trans hb); clear hb
      go_wp2_with fail
      go_ret
      exact ⟨rfl, HB2.out⟩
theorem fop_const {op : BinOp} {x y r : Nat} (h : floatBits op .f64 x y = some r) : ∀ w, fop op x y w = r := by
  intro w; unfold fop; rw [h]
theorem y_cases {x y : Nat} (hy : y < 2 ^ 64) (sy : sg y = false) (sx : sg x = false) (fx : fin x) :
    (FloatKind.f64.format.order y y != some Ordering.eq) = true ∨ ((FloatKind.f64.format.order y y != some Ordering.eq) = false ∧ (FloatKind.f64.format.order y 9218868437227405311 == some Ordering.gt) = true) ∨
    ((FloatKind.f64.format.order y y != some Ordering.eq) = false ∧ (FloatKind.f64.format.order y 9218868437227405311 == some Ordering.gt) = false ∧ (FloatKind.f64.format.order y x == some Ordering.lt) = true) ∨
    ((FloatKind.f64.format.order y y != some Ordering.eq) = false ∧ (FloatKind.f64.format.order y 9218868437227405311 == some Ordering.gt) = false ∧ (FloatKind.f64.format.order y x == some Ordering.lt) = false ∧ (FloatKind.f64.format.order (ulpW y) (ulpW x) == some Ordering.gt) = true) ∨
    ((FloatKind.f64.format.order y y != some Ordering.eq) = false ∧ (FloatKind.f64.format.order y 9218868437227405311 == some Ordering.gt) = false ∧ (FloatKind.f64.format.order y x == some Ordering.lt) = false ∧ (FloatKind.f64.format.order (ulpW y) (ulpW x) == some Ordering.gt) = false ∧ (FloatKind.f64.format.order (ulpW y) (ulpW x) == some Ordering.eq) = true) := by
  by_cases ny : isNan y
  · exact .inl (ne_self_true ny)
  have n1 := ne_self_false ny
  have g := gt_max hy
  by_cases yi : y = INF
  · exact .inr (.inl ⟨n1, by rw [g]; exact decide_eq_true yi⟩)
  have g' : (FloatKind.f64.format.order y 9218868437227405311 == some Ordering.gt) = false := by rw [g]; exact decide_eq_false yi
  have ey : y = rg y := sg_false hy sy
  have fy : fin y := by unfold fin; unfold isNan at ny; omega
  have nx : ¬ isNan x := by unfold isNan; unfold fin at fx; omega
  cases l : (FloatKind.f64.format.order y x == some Ordering.lt)
  · have le := lt_of_order nx ny sx sy (by rw [l]; decide)
    rcases ulp_mono fx fy le with c | c
    · exact .inr (.inr (.inr (.inl ⟨n1, g', rfl, c⟩)))
    · exact .inr (.inr (.inr (.inr ⟨n1, g', rfl, c⟩)))
  · exact .inr (.inr (.inl ⟨n1, g', rfl⟩))
end Ul
theorem ieeeUlps_walk (a b : Nat) (ha : a < 2 ^ 64) (hb : b < 2 ^ 64) (w : World) (h : DAwake.Cell w) :
    Calls Tryd.prog 6 #[.int .u64 a, .int .u64 b] w fun e w' => e = .returned (.bool true) ∧ Below w.heap.size w w' := by
  have hx := rg_lt' a
  have hy := rg_lt' b
  have sx := sg_rg a
  have sy := sg_rg b
  have rx := rg_rg a
  by_cases nx : isNan (rg a)
  · have u0 : ulpW (rg a) = NANQ := by unfold ulpW; rw [if_pos (by unfold fin; unfold isNan at nx; omega)]
    exact Ul.ul_nan a b _ _ _ (Lib.hid ha) (Lib.hid hb) (Lib.hid hx) (Lib.hid hy) w (Lib.hid h) (Lib.hid rfl) (Lib.hid rfl) (Lib.hid rfl) (Lib.hid (ulpW_neg hx)) (Lib.hid (sameB_self _)) (ne_self_true nx) (by rw [u0]; exact ne_self_true (by decide))
  have g := gt_max hx
  by_cases xi : rg a = INF
  · have u0 : ulpW (rg a) = NANQ := by unfold ulpW; rw [if_pos (by unfold fin; omega)]
    exact Ul.ul_inf a b _ _ _ (Lib.hid ha) (Lib.hid hb) (Lib.hid hx) (Lib.hid hy) w (Lib.hid h) (Lib.hid rfl) (Lib.hid rfl) (Lib.hid rfl) (Lib.hid (ulpW_neg hx)) (Lib.hid (sameB_self _)) (ne_self_false nx) (by rw [u0]; exact ne_self_true (by decide)) (by rw [g]; exact decide_eq_true xi)
  have fx : fin (rg a) := by unfold fin; unfold isNan at nx; omega
  obtain ⟨u1, u2, u3, u4⟩ := ulpW_sg fx
  have nu : ¬ isNan (ulpW (rg a)) := by unfold isNan; unfold fin at u3; omega
  have g' : (FloatKind.f64.format.order (rg a) 9218868437227405311 == some Ordering.gt) = false := by rw [g]; exact decide_eq_false xi
  have fr : ∃ m : Int, ¬ m < -1073 ∧ ¬ 972 < m ∧ ∀ w : World, Calls Tryd.prog 20 #[.float .f64 (ulpW (rg a))] w fun e w' => e = .returned (.tuple #[.float .f64 4602678819172646912, .int .i64 m]) ∧ ∃ n, w' = w.drewN n := by
    unfold ulpW
    rw [if_neg (not_not_intro fx)]
    unfold fin INF at fx
    split
    · exact ⟨_, by omega, by omega, fun w => frexpT_sub (rg (rg a) / 2 ^ 52 - 1) (by omega) w⟩
    · exact ⟨_, by omega, by omega, fun w => frexpT_norm (rg (rg a) / 2 ^ 52 - 52) (by omega) (by omega) w⟩
  obtain ⟨m, m1, m2, fr⟩ := fr
  have hc := Ul.y_cases hy sy sx fx
  have l := lt_max nx sx
  have f4 : (FloatKind.f64.format.order 4602678819172646912 4602678819172646912 != some Ordering.eq) = false := ne_self_false (by decide)
  by_cases lm : rg (rg a) < 9218868437227405311
  · exact Ul.ul_in a b _ _ _ (Lib.hid ha) (Lib.hid hb) (Lib.hid hx) (Lib.hid hy) w (Lib.hid h) (Lib.hid rfl) (Lib.hid rfl) (Lib.hid rfl) (Lib.hid (ulpW_neg hx)) (Lib.hid (sameB_self _))
      _ _ m (Lib.hid rfl) (Lib.hid rfl) (ne_self_false nx) (ne_self_false nu) g' (by rw [l]; exact decide_eq_true lm) f4 (Ul.fop_const (next_diff sx hx (by unfold INF; omega))) m1 m2 (Lib.hid fr) hc
  · exact Ul.ul_max a b _ _ _ (Lib.hid ha) (Lib.hid hb) (Lib.hid hx) (Lib.hid hy) w (Lib.hid h) (Lib.hid rfl) (Lib.hid rfl) (Lib.hid rfl) (Lib.hid (ulpW_neg hx)) (Lib.hid (sameB_self _))
      _ m (Lib.hid rfl) (ne_self_false nx) (ne_self_false nu) g' (by rw [l]; exact decide_eq_false lm) f4 m1 m2 (Lib.hid fr) hc
end Go.Proofs.YtmfmgofafamemaaDoor
