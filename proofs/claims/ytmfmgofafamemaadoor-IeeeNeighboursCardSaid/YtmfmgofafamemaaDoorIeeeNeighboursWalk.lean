/- The walk of surdlaw2.IeeeNeighbours: for any word it answers true, where the library's table of trailing zeros is as it was laid. -/
import Derived.Test.YtmfmgofafamemaaDoorDAwake
import Derived.Test.YtmfmgofafamemaaDoorFlHalf
namespace Go.Proofs.YtmfmgofafamemaaDoor
open Fl Go.RowKit Go.Joins
namespace Nb
theorem fn_any (a : Nat) (w : World) :
    Calls Tryd.prog 7 #[.int .u64 (a : Int)] w fun e w' => e = .returned (.float .f64 a) ∧ w = w' := f_any a w
theorem nb_nan (x n p : Nat) (H : Hid (x < 2 ^ 64)) (HN : Hid (n < 2 ^ 64)) (HP : Hid (p < 2 ^ 64)) (hn : Hid (nxt x = n)) (hp : Hid (prv x = p)) (w : World) (HW : Hid (DAwake.Cell w))
    (f0 : (FloatKind.f64.format.order x x != some Ordering.eq) = true) (en : x = n) (ep : x = p) :
    Calls Tryd.prog 5 #[.int .u64 x] w fun e w' => e = .returned (.bool true) ∧ Below w.heap.size w w' := by
  subst en
  subst ep
  go_enter Tryd.func5, Tryd.ntmps5
  go_wp2_with fail
  refine (fn_any x _).mono ?_
  rintro e w' ⟨rfl, rfl⟩
  go_wp2_with fail
  refine (next_any x H.out _).mono ?_
  rintro e w' ⟨rfl, rfl⟩
  rw [hn.out]
  go_wp2_with fail
  refine (prev_any x H.out _).mono ?_
  rintro e w' ⟨rfl, rfl⟩
  rw [hp.out]
  go_wp2_with fail
  refine (DAwake.awake_any _ HW.out).mono ?_
  rintro e w1 ⟨rfl, hb⟩
  have HB := Lib.hid hb; clear hb
  go_wp2_with fail
  go_ret
  exact ⟨rfl, HB.out⟩
theorem nb_pinf (x n p : Nat) (H : Hid (x < 2 ^ 64)) (HN : Hid (n < 2 ^ 64)) (HP : Hid (p < 2 ^ 64)) (hn : Hid (nxt x = n)) (hp : Hid (prv x = p)) (w : World) (HW : Hid (DAwake.Cell w))
    (f0 : (FloatKind.f64.format.order x x != some Ordering.eq) = false) (hi : Hid (decide (x = INF) = true)) (s1 : Hid (sameB n x = true)) (s2 : Hid (sameB p 9218868437227405311 = true)) (hnp : Hid (nxt p = x)) (sx : Hid (sameB x x = true)) :
    Calls Tryd.prog 5 #[.int .u64 x] w fun e w' => e = .returned (.bool true) ∧ Below w.heap.size w w' := by
  go_enter Tryd.func5, Tryd.ntmps5
  go_wp2_with fail
  refine (fn_any x _).mono ?_
  rintro e w' ⟨rfl, rfl⟩
  go_wp2_with fail
  refine (next_any x H.out _).mono ?_
  rintro e w' ⟨rfl, rfl⟩
  rw [hn.out]
  go_wp2_with fail
  refine (prev_any x H.out _).mono ?_
  rintro e w' ⟨rfl, rfl⟩
  rw [hp.out]
  go_wp2_with fail
  refine (isInfp_any x H.out _).mono ?_
  rintro e w' ⟨rfl, rfl⟩
  rw [hi.out]
  go_wp2_with fail
  refine (sameF_any n x _).mono ?_
  rintro e w' ⟨rfl, rfl⟩
  rw [s1.out]
  go_wp2_with fail
  refine (sameF_any p _ _).mono ?_
  rintro e w' ⟨rfl, rfl⟩
  rw [s2.out]
  go_wp2_with fail
  refine (next_any p HP.out _).mono ?_
  rintro e w' ⟨rfl, rfl⟩
  rw [hnp.out]
  go_wp2_with fail
  refine (sameF_any x x _).mono ?_
  rintro e w' ⟨rfl, rfl⟩
  rw [sx.out]
  go_wp2_with fail
  refine (DAwake.awake_any _ HW.out).mono ?_
  rintro e w1 ⟨rfl, hb⟩
  have HB := Lib.hid hb; clear hb
  go_wp2_with fail
  go_ret
  exact ⟨rfl, HB.out⟩
theorem nb_minf (x n p : Nat) (H : Hid (x < 2 ^ 64)) (HN : Hid (n < 2 ^ 64)) (HP : Hid (p < 2 ^ 64)) (hn : Hid (nxt x = n)) (hp : Hid (prv x = p)) (w : World) (HW : Hid (DAwake.Cell w))
    (f0 : (FloatKind.f64.format.order x x != some Ordering.eq) = false) (hi : Hid (decide (x = INF) = false)) (hm : Hid (decide (neg x = INF) = true)) (s1 : Hid (sameB p x = true)) (s2 : Hid (sameB n 18442240474082181119 = true)) (hpn : Hid (prv n = x)) (sx : Hid (sameB x x = true)) :
    Calls Tryd.prog 5 #[.int .u64 x] w fun e w' => e = .returned (.bool true) ∧ Below w.heap.size w w' := by
  go_enter Tryd.func5, Tryd.ntmps5
  go_wp2_with fail
  refine (fn_any x _).mono ?_
  rintro e w' ⟨rfl, rfl⟩
  go_wp2_with fail
  refine (next_any x H.out _).mono ?_
  rintro e w' ⟨rfl, rfl⟩
  rw [hn.out]
  go_wp2_with fail
  refine (prev_any x H.out _).mono ?_
  rintro e w' ⟨rfl, rfl⟩
  rw [hp.out]
  go_wp2_with fail
  refine (isInfp_any x H.out _).mono ?_
  rintro e w' ⟨rfl, rfl⟩
  rw [hi.out]
  go_wp2_with fail
  refine (isInfm_any x H.out _).mono ?_
  rintro e w' ⟨rfl, rfl⟩
  rw [hm.out]
  go_wp2_with fail
  refine (sameF_any p x _).mono ?_
  rintro e w' ⟨rfl, rfl⟩
  rw [s1.out]
  go_wp2_with fail
  refine (sameF_any n _ _).mono ?_
  rintro e w' ⟨rfl, rfl⟩
  rw [s2.out]
  go_wp2_with fail
  refine (prev_any n HN.out _).mono ?_
  rintro e w' ⟨rfl, rfl⟩
  rw [hpn.out]
  go_wp2_with fail
  refine (sameF_any x x _).mono ?_
  rintro e w' ⟨rfl, rfl⟩
  rw [sx.out]
  go_wp2_with fail
  refine (DAwake.awake_any _ HW.out).mono ?_
  rintro e w1 ⟨rfl, hb⟩
  have HB := Lib.hid hb; clear hb
  go_wp2_with fail
  go_ret
  exact ⟨rfl, HB.out⟩
theorem nb_pz (x n p : Nat) (H : Hid (x < 2 ^ 64)) (HN : Hid (n < 2 ^ 64)) (HP : Hid (p < 2 ^ 64)) (hn : Hid (nxt x = n)) (hp : Hid (prv x = p)) (w : World) (HW : Hid (DAwake.Cell w))
    (f0 : (FloatKind.f64.format.order x x != some Ordering.eq) = false) (hi : Hid (decide (x = INF) = false)) (hm : Hid (decide (neg x = INF) = false))
    (ho1 : Hid (ordI x n = -1)) (ho2 : Hid (ordI p x = -1)) (hpn : Hid (prv n = x)) (hnp : Hid (nxt p = x)) (sx : Hid (sameB x x = true))
    (z0 : (FloatKind.f64.format.order x 0 == some Ordering.eq) = true) (z1 : (FloatKind.f64.format.order n 0 == some Ordering.eq) = false) (z2 : (FloatKind.f64.format.order p 0 == some Ordering.eq) = true) (hs : Hid (sg x = false)) :
    Calls Tryd.prog 5 #[.int .u64 x] w fun e w' => e = .returned (.bool true) ∧ Below w.heap.size w w' := by
  go_enter Tryd.func5, Tryd.ntmps5
  go_wp2_with fail
  refine (fn_any x _).mono ?_
  rintro e w' ⟨rfl, rfl⟩
  go_wp2_with fail
  refine (next_any x H.out _).mono ?_
  rintro e w' ⟨rfl, rfl⟩
  rw [hn.out]
  go_wp2_with fail
  refine (prev_any x H.out _).mono ?_
  rintro e w' ⟨rfl, rfl⟩
  rw [hp.out]
  go_wp2_with fail
  refine (isInfp_any x H.out _).mono ?_
  rintro e w' ⟨rfl, rfl⟩
  rw [hi.out]
  go_wp2_with fail
  refine (isInfm_any x H.out _).mono ?_
  rintro e w' ⟨rfl, rfl⟩
  rw [hm.out]
  go_wp2_with fail
  refine (order_any x n H.out HN.out _).mono ?_
  rintro e w' ⟨rfl, rfl⟩
  rw [ho1.out]
  go_wp2_with fail
  refine (order_any p x HP.out H.out _).mono ?_
  rintro e w' ⟨rfl, rfl⟩
  rw [ho2.out]
  go_wp2_with fail
  refine (prev_any n HN.out _).mono ?_
  rintro e w' ⟨rfl, rfl⟩
  rw [hpn.out]
  go_wp2_with fail
  refine (sameF_any x x _).mono ?_
  rintro e w' ⟨rfl, rfl⟩
  rw [sx.out]
  go_wp2_with fail
  refine (next_any p HP.out _).mono ?_
  rintro e w' ⟨rfl, rfl⟩
  rw [hnp.out]
  go_wp2_with fail
  refine (sameF_any x x _).mono ?_
  rintro e w' ⟨rfl, rfl⟩
  rw [sx.out]
  go_wp2_with fail
  refine (signbit_any x H.out _).mono ?_
  rintro e w' ⟨rfl, rfl⟩
  rw [hs.out]
  go_wp2_with fail
  refine (signbit_any x H.out _).mono ?_
  rintro e w' ⟨rfl, rfl⟩
  rw [hs.out]
  go_wp2_with fail
  refine (DAwake.awake_any _ HW.out).mono ?_
  rintro e w1 ⟨rfl, hb⟩
  have HB := Lib.hid hb; clear hb
  go_wp2_with fail
  go_ret
  exact ⟨rfl, HB.out⟩
theorem nb_mz (x n p : Nat) (H : Hid (x < 2 ^ 64)) (HN : Hid (n < 2 ^ 64)) (HP : Hid (p < 2 ^ 64)) (hn : Hid (nxt x = n)) (hp : Hid (prv x = p)) (w : World) (HW : Hid (DAwake.Cell w))
    (f0 : (FloatKind.f64.format.order x x != some Ordering.eq) = false) (hi : Hid (decide (x = INF) = false)) (hm : Hid (decide (neg x = INF) = false))
    (ho1 : Hid (ordI x n = -1)) (ho2 : Hid (ordI p x = -1)) (hpn : Hid (prv n = x)) (hnp : Hid (nxt p = x)) (sx : Hid (sameB x x = true))
    (z0 : (FloatKind.f64.format.order x 0 == some Ordering.eq) = true) (z1 : (FloatKind.f64.format.order n 0 == some Ordering.eq) = true) (z2 : (FloatKind.f64.format.order p 0 == some Ordering.eq) = false) (hs : Hid (sg x = true)) :
    Calls Tryd.prog 5 #[.int .u64 x] w fun e w' => e = .returned (.bool true) ∧ Below w.heap.size w w' := by
  go_enter Tryd.func5, Tryd.ntmps5
  go_wp2_with fail
  refine (fn_any x _).mono ?_
  rintro e w' ⟨rfl, rfl⟩
  go_wp2_with fail
  refine (next_any x H.out _).mono ?_
  rintro e w' ⟨rfl, rfl⟩
  rw [hn.out]
  go_wp2_with fail
  refine (prev_any x H.out _).mono ?_
  rintro e w' ⟨rfl, rfl⟩
  rw [hp.out]
  go_wp2_with fail
  refine (isInfp_any x H.out _).mono ?_
  rintro e w' ⟨rfl, rfl⟩
  rw [hi.out]
  go_wp2_with fail
  refine (isInfm_any x H.out _).mono ?_
  rintro e w' ⟨rfl, rfl⟩
  rw [hm.out]
  go_wp2_with fail
  refine (order_any x n H.out HN.out _).mono ?_
  rintro e w' ⟨rfl, rfl⟩
  rw [ho1.out]
  go_wp2_with fail
  refine (order_any p x HP.out H.out _).mono ?_
  rintro e w' ⟨rfl, rfl⟩
  rw [ho2.out]
  go_wp2_with fail
  refine (prev_any n HN.out _).mono ?_
  rintro e w' ⟨rfl, rfl⟩
  rw [hpn.out]
  go_wp2_with fail
  refine (sameF_any x x _).mono ?_
  rintro e w' ⟨rfl, rfl⟩
  rw [sx.out]
  go_wp2_with fail
  refine (next_any p HP.out _).mono ?_
  rintro e w' ⟨rfl, rfl⟩
  rw [hnp.out]
  go_wp2_with fail
  refine (sameF_any x x _).mono ?_
  rintro e w' ⟨rfl, rfl⟩
  rw [sx.out]
  go_wp2_with fail
  refine (signbit_any x H.out _).mono ?_
  rintro e w' ⟨rfl, rfl⟩
  rw [hs.out]
  go_wp2_with fail
  refine (signbit_any x H.out _).mono ?_
  rintro e w' ⟨rfl, rfl⟩
  rw [hs.out]
  go_wp2_with fail
  refine (DAwake.awake_any _ HW.out).mono ?_
  rintro e w1 ⟨rfl, hb⟩
  have HB := Lib.hid hb; clear hb
  go_wp2_with fail
  go_ret
  exact ⟨rfl, HB.out⟩
theorem nb_pt (x n p : Nat) (H : Hid (x < 2 ^ 64)) (HN : Hid (n < 2 ^ 64)) (HP : Hid (p < 2 ^ 64)) (hn : Hid (nxt x = n)) (hp : Hid (prv x = p)) (w : World) (HW : Hid (DAwake.Cell w))
    (f0 : (FloatKind.f64.format.order x x != some Ordering.eq) = false) (hi : Hid (decide (x = INF) = false)) (hm : Hid (decide (neg x = INF) = false))
    (ho1 : Hid (ordI x n = -1)) (ho2 : Hid (ordI p x = -1)) (hpn : Hid (prv n = x)) (hnp : Hid (nxt p = x)) (sx : Hid (sameB x x = true))
    (z0 : (FloatKind.f64.format.order x 0 == some Ordering.eq) = false) (i1 : Hid (decide (rg n = INF) = true)) (ab : (FloatKind.f64.format.order (rg x) 9218868437227405311 == some Ordering.eq) = true) :
    Calls Tryd.prog 5 #[.int .u64 x] w fun e w' => e = .returned (.bool true) ∧ Below w.heap.size w w' := by
  go_enter Tryd.func5, Tryd.ntmps5
  go_wp2_with fail
  refine (fn_any x _).mono ?_
  rintro e w' ⟨rfl, rfl⟩
  go_wp2_with fail
  refine (next_any x H.out _).mono ?_
  rintro e w' ⟨rfl, rfl⟩
  rw [hn.out]
  go_wp2_with fail
  refine (prev_any x H.out _).mono ?_
  rintro e w' ⟨rfl, rfl⟩
  rw [hp.out]
  go_wp2_with fail
  refine (isInfp_any x H.out _).mono ?_
  rintro e w' ⟨rfl, rfl⟩
  rw [hi.out]
  go_wp2_with fail
  refine (isInfm_any x H.out _).mono ?_
  rintro e w' ⟨rfl, rfl⟩
  rw [hm.out]
  go_wp2_with fail
  refine (order_any x n H.out HN.out _).mono ?_
  rintro e w' ⟨rfl, rfl⟩
  rw [ho1.out]
  go_wp2_with fail
  refine (order_any p x HP.out H.out _).mono ?_
  rintro e w' ⟨rfl, rfl⟩
  rw [ho2.out]
  go_wp2_with fail
  refine (prev_any n HN.out _).mono ?_
  rintro e w' ⟨rfl, rfl⟩
  rw [hpn.out]
  go_wp2_with fail
  refine (sameF_any x x _).mono ?_
  rintro e w' ⟨rfl, rfl⟩
  rw [sx.out]
  go_wp2_with fail
  refine (next_any p HP.out _).mono ?_
  rintro e w' ⟨rfl, rfl⟩
  rw [hnp.out]
  go_wp2_with fail
  refine (sameF_any x x _).mono ?_
  rintro e w' ⟨rfl, rfl⟩
  rw [sx.out]
  go_wp2_with fail
  refine (isInf0_any n HN.out _).mono ?_
  rintro e w' ⟨rfl, rfl⟩
  rw [i1.out]
  go_wp2_with fail
  refine (abs_any x H.out _).mono ?_
  rintro e w' ⟨rfl, rfl⟩
  go_wp2_with fail
  refine (DAwake.awake_any _ HW.out).mono ?_
  rintro e w1 ⟨rfl, hb⟩
  have HB := Lib.hid hb; clear hb
  go_wp2_with fail
  go_ret
  exact ⟨rfl, HB.out⟩
theorem nb_mt (x n p : Nat) (H : Hid (x < 2 ^ 64)) (HN : Hid (n < 2 ^ 64)) (HP : Hid (p < 2 ^ 64)) (hn : Hid (nxt x = n)) (hp : Hid (prv x = p)) (w : World) (HW : Hid (DAwake.Cell w))
    (f0 : (FloatKind.f64.format.order x x != some Ordering.eq) = false) (hi : Hid (decide (x = INF) = false)) (hm : Hid (decide (neg x = INF) = false))
    (ho1 : Hid (ordI x n = -1)) (ho2 : Hid (ordI p x = -1)) (hpn : Hid (prv n = x)) (hnp : Hid (nxt p = x)) (sx : Hid (sameB x x = true))
    (z0 : (FloatKind.f64.format.order x 0 == some Ordering.eq) = false) (i1 : Hid (decide (rg n = INF) = false)) (i2 : Hid (decide (rg p = INF) = true)) (ab : (FloatKind.f64.format.order (rg x) 9218868437227405311 == some Ordering.eq) = true) :
    Calls Tryd.prog 5 #[.int .u64 x] w fun e w' => e = .returned (.bool true) ∧ Below w.heap.size w w' := by
  go_enter Tryd.func5, Tryd.ntmps5
  go_wp2_with fail
  refine (fn_any x _).mono ?_
  rintro e w' ⟨rfl, rfl⟩
  go_wp2_with fail
  refine (next_any x H.out _).mono ?_
  rintro e w' ⟨rfl, rfl⟩
  rw [hn.out]
  go_wp2_with fail
  refine (prev_any x H.out _).mono ?_
  rintro e w' ⟨rfl, rfl⟩
  rw [hp.out]
  go_wp2_with fail
  refine (isInfp_any x H.out _).mono ?_
  rintro e w' ⟨rfl, rfl⟩
  rw [hi.out]
  go_wp2_with fail
  refine (isInfm_any x H.out _).mono ?_
  rintro e w' ⟨rfl, rfl⟩
  rw [hm.out]
  go_wp2_with fail
  refine (order_any x n H.out HN.out _).mono ?_
  rintro e w' ⟨rfl, rfl⟩
  rw [ho1.out]
  go_wp2_with fail
  refine (order_any p x HP.out H.out _).mono ?_
  rintro e w' ⟨rfl, rfl⟩
  rw [ho2.out]
  go_wp2_with fail
  refine (prev_any n HN.out _).mono ?_
  rintro e w' ⟨rfl, rfl⟩
  rw [hpn.out]
  go_wp2_with fail
  refine (sameF_any x x _).mono ?_
  rintro e w' ⟨rfl, rfl⟩
  rw [sx.out]
  go_wp2_with fail
  refine (next_any p HP.out _).mono ?_
  rintro e w' ⟨rfl, rfl⟩
  rw [hnp.out]
  go_wp2_with fail
  refine (sameF_any x x _).mono ?_
  rintro e w' ⟨rfl, rfl⟩
  rw [sx.out]
  go_wp2_with fail
  refine (isInf0_any n HN.out _).mono ?_
  rintro e w' ⟨rfl, rfl⟩
  rw [i1.out]
  go_wp2_with fail
  refine (isInf0_any p HP.out _).mono ?_
  rintro e w' ⟨rfl, rfl⟩
  rw [i2.out]
  go_wp2_with fail
  refine (abs_any x H.out _).mono ?_
  rintro e w' ⟨rfl, rfl⟩
  go_wp2_with fail
  refine (DAwake.awake_any _ HW.out).mono ?_
  rintro e w1 ⟨rfl, hb⟩
  have HB := Lib.hid hb; clear hb
  go_wp2_with fail
  go_ret
  exact ⟨rfl, HB.out⟩
theorem nb_small (x n p : Nat) (H : Hid (x < 2 ^ 64)) (HN : Hid (n < 2 ^ 64)) (HP : Hid (p < 2 ^ 64)) (hn : Hid (nxt x = n)) (hp : Hid (prv x = p)) (w : World) (HW : Hid (DAwake.Cell w))
    (f0 : (FloatKind.f64.format.order x x != some Ordering.eq) = false) (hi : Hid (decide (x = INF) = false)) (hm : Hid (decide (neg x = INF) = false))
    (ho1 : Hid (ordI x n = -1)) (ho2 : Hid (ordI p x = -1)) (hpn : Hid (prv n = x)) (hnp : Hid (nxt p = x)) (sx : Hid (sameB x x = true))
    (z0 : (FloatKind.f64.format.order x 0 == some Ordering.eq) = false) (i1 : Hid (decide (rg n = INF) = false)) (i2 : Hid (decide (rg p = INF) = false))
    (ab : (FloatKind.f64.format.order (rg x) 13510798882111488 == some Ordering.lt) = true) :
    Calls Tryd.prog 5 #[.int .u64 x] w fun e w' => e = .returned (.bool true) ∧ Below w.heap.size w w' := by
  go_enter Tryd.func5, Tryd.ntmps5
  go_wp2_with fail
  refine (fn_any x _).mono ?_
  rintro e w' ⟨rfl, rfl⟩
  go_wp2_with fail
  refine (next_any x H.out _).mono ?_
  rintro e w' ⟨rfl, rfl⟩
  rw [hn.out]
  go_wp2_with fail
  refine (prev_any x H.out _).mono ?_
  rintro e w' ⟨rfl, rfl⟩
  rw [hp.out]
  go_wp2_with fail
  refine (isInfp_any x H.out _).mono ?_
  rintro e w' ⟨rfl, rfl⟩
  rw [hi.out]
  go_wp2_with fail
  refine (isInfm_any x H.out _).mono ?_
  rintro e w' ⟨rfl, rfl⟩
  rw [hm.out]
  go_wp2_with fail
  refine (order_any x n H.out HN.out _).mono ?_
  rintro e w' ⟨rfl, rfl⟩
  rw [ho1.out]
  go_wp2_with fail
  refine (order_any p x HP.out H.out _).mono ?_
  rintro e w' ⟨rfl, rfl⟩
  rw [ho2.out]
  go_wp2_with fail
  refine (prev_any n HN.out _).mono ?_
  rintro e w' ⟨rfl, rfl⟩
  rw [hpn.out]
  go_wp2_with fail
  refine (sameF_any x x _).mono ?_
  rintro e w' ⟨rfl, rfl⟩
  rw [sx.out]
  go_wp2_with fail
  refine (next_any p HP.out _).mono ?_
  rintro e w' ⟨rfl, rfl⟩
  rw [hnp.out]
  go_wp2_with fail
  refine (sameF_any x x _).mono ?_
  rintro e w' ⟨rfl, rfl⟩
  rw [sx.out]
  go_wp2_with fail
  refine (isInf0_any n HN.out _).mono ?_
  rintro e w' ⟨rfl, rfl⟩
  rw [i1.out]
  go_wp2_with fail
  refine (isInf0_any p HP.out _).mono ?_
  rintro e w' ⟨rfl, rfl⟩
  rw [i2.out]
  go_wp2_with fail
  all_goals
    try (refine (abs_any x H.out _).mono ?_; rintro e w' ⟨rfl, rfl⟩; go_wp2_with fail)
    refine (DAwake.awake_any _ (cell_later (below_drewN (Below.refl _ w) _) HW.out)).mono ?_
    rintro e w1 ⟨rfl, hb⟩
    have HB := Lib.hid ((below_drewN (Below.refl w.heap.size w) _).trans hb); clear hb
    go_wp2_with fail
    go_ret
    exact ⟨rfl, HB.out⟩
theorem nb_bigx (x n p : Nat) (H : Hid (x < 2 ^ 64)) (HN : Hid (n < 2 ^ 64)) (HP : Hid (p < 2 ^ 64)) (hn : Hid (nxt x = n)) (hp : Hid (prv x = p)) (w : World) (HW : Hid (DAwake.Cell w))
    (f0 : (FloatKind.f64.format.order x x != some Ordering.eq) = false) (hi : Hid (decide (x = INF) = false)) (hm : Hid (decide (neg x = INF) = false))
    (ho1 : Hid (ordI x n = -1)) (ho2 : Hid (ordI p x = -1)) (hpn : Hid (prv n = x)) (hnp : Hid (nxt p = x)) (sx : Hid (sameB x x = true))
    (z0 : (FloatKind.f64.format.order x 0 == some Ordering.eq) = false) (i1 : Hid (decide (rg n = INF) = false)) (i2 : Hid (decide (rg p = INF) = false))
    (h1 h2 : Nat) (q1 : ∀ w, fop .quo x 4611686018427387904 w = h1) (q2 : ∀ w, fop .quo n 4611686018427387904 w = h2) (q3 : ∀ w, fop .add h1 h2 w = x) (fx : (FloatKind.f64.format.order x x == some Ordering.eq) = true) :
    Calls Tryd.prog 5 #[.int .u64 x] w fun e w' => e = .returned (.bool true) ∧ Below w.heap.size w w' := by
  go_enter Tryd.func5, Tryd.ntmps5
  go_wp2_with fail
  refine (fn_any x _).mono ?_
  rintro e w' ⟨rfl, rfl⟩
  go_wp2_with fail
  refine (next_any x H.out _).mono ?_
  rintro e w' ⟨rfl, rfl⟩
  rw [hn.out]
  go_wp2_with fail
  refine (prev_any x H.out _).mono ?_
  rintro e w' ⟨rfl, rfl⟩
  rw [hp.out]
  go_wp2_with fail
  refine (isInfp_any x H.out _).mono ?_
  rintro e w' ⟨rfl, rfl⟩
  rw [hi.out]
  go_wp2_with fail
  refine (isInfm_any x H.out _).mono ?_
  rintro e w' ⟨rfl, rfl⟩
  rw [hm.out]
  go_wp2_with fail
  refine (order_any x n H.out HN.out _).mono ?_
  rintro e w' ⟨rfl, rfl⟩
  rw [ho1.out]
  go_wp2_with fail
  refine (order_any p x HP.out H.out _).mono ?_
  rintro e w' ⟨rfl, rfl⟩
  rw [ho2.out]
  go_wp2_with fail
  refine (prev_any n HN.out _).mono ?_
  rintro e w' ⟨rfl, rfl⟩
  rw [hpn.out]
  go_wp2_with fail
  refine (sameF_any x x _).mono ?_
  rintro e w' ⟨rfl, rfl⟩
  rw [sx.out]
  go_wp2_with fail
  refine (next_any p HP.out _).mono ?_
  rintro e w' ⟨rfl, rfl⟩
  rw [hnp.out]
  go_wp2_with fail
  refine (sameF_any x x _).mono ?_
  rintro e w' ⟨rfl, rfl⟩
  rw [sx.out]
  go_wp2_with fail
  refine (isInf0_any n HN.out _).mono ?_
  rintro e w' ⟨rfl, rfl⟩
  rw [i1.out]
  go_wp2_with fail
  refine (isInf0_any p HP.out _).mono ?_
  rintro e w' ⟨rfl, rfl⟩
  rw [i2.out]
  go_wp2_with fail
  all_goals
    try (refine (abs_any x H.out _).mono ?_; rintro e w' ⟨rfl, rfl⟩; go_wp2_with fail)
    refine (DAwake.awake_any _ (cell_later (below_drewN (Below.refl _ w) _) HW.out)).mono ?_
    rintro e w1 ⟨rfl, hb⟩
    have HB := Lib.hid ((below_drewN (Below.refl w.heap.size w) _).trans hb); clear hb
    go_wp2_with fail
    go_ret
    exact ⟨rfl, HB.out⟩
theorem nb_bign (x n p : Nat) (H : Hid (x < 2 ^ 64)) (HN : Hid (n < 2 ^ 64)) (HP : Hid (p < 2 ^ 64)) (hn : Hid (nxt x = n)) (hp : Hid (prv x = p)) (w : World) (HW : Hid (DAwake.Cell w))
    (f0 : (FloatKind.f64.format.order x x != some Ordering.eq) = false) (hi : Hid (decide (x = INF) = false)) (hm : Hid (decide (neg x = INF) = false))
    (ho1 : Hid (ordI x n = -1)) (ho2 : Hid (ordI p x = -1)) (hpn : Hid (prv n = x)) (hnp : Hid (nxt p = x)) (sx : Hid (sameB x x = true))
    (z0 : (FloatKind.f64.format.order x 0 == some Ordering.eq) = false) (i1 : Hid (decide (rg n = INF) = false)) (i2 : Hid (decide (rg p = INF) = false))
    (h1 h2 : Nat) (q1 : ∀ w, fop .quo x 4611686018427387904 w = h1) (q2 : ∀ w, fop .quo n 4611686018427387904 w = h2) (q3 : ∀ w, fop .add h1 h2 w = n) (fn : (FloatKind.f64.format.order n n == some Ordering.eq) = true) :
    Calls Tryd.prog 5 #[.int .u64 x] w fun e w' => e = .returned (.bool true) ∧ Below w.heap.size w w' := by
  go_enter Tryd.func5, Tryd.ntmps5
  go_wp2_with fail
  refine (fn_any x _).mono ?_
  rintro e w' ⟨rfl, rfl⟩
  go_wp2_with fail
  refine (next_any x H.out _).mono ?_
  rintro e w' ⟨rfl, rfl⟩
  rw [hn.out]
  go_wp2_with fail
  refine (prev_any x H.out _).mono ?_
  rintro e w' ⟨rfl, rfl⟩
  rw [hp.out]
  go_wp2_with fail
  refine (isInfp_any x H.out _).mono ?_
  rintro e w' ⟨rfl, rfl⟩
  rw [hi.out]
  go_wp2_with fail
  refine (isInfm_any x H.out _).mono ?_
  rintro e w' ⟨rfl, rfl⟩
  rw [hm.out]
  go_wp2_with fail
  refine (order_any x n H.out HN.out _).mono ?_
  rintro e w' ⟨rfl, rfl⟩
  rw [ho1.out]
  go_wp2_with fail
  refine (order_any p x HP.out H.out _).mono ?_
  rintro e w' ⟨rfl, rfl⟩
  rw [ho2.out]
  go_wp2_with fail
  refine (prev_any n HN.out _).mono ?_
  rintro e w' ⟨rfl, rfl⟩
  rw [hpn.out]
  go_wp2_with fail
  refine (sameF_any x x _).mono ?_
  rintro e w' ⟨rfl, rfl⟩
  rw [sx.out]
  go_wp2_with fail
  refine (next_any p HP.out _).mono ?_
  rintro e w' ⟨rfl, rfl⟩
  rw [hnp.out]
  go_wp2_with fail
  refine (sameF_any x x _).mono ?_
  rintro e w' ⟨rfl, rfl⟩
  rw [sx.out]
  go_wp2_with fail
  refine (isInf0_any n HN.out _).mono ?_
  rintro e w' ⟨rfl, rfl⟩
  rw [i1.out]
  go_wp2_with fail
  refine (isInf0_any p HP.out _).mono ?_
  rintro e w' ⟨rfl, rfl⟩
  rw [i2.out]
  go_wp2_with fail
  all_goals
    try (refine (abs_any x H.out _).mono ?_; rintro e w' ⟨rfl, rfl⟩; go_wp2_with fail)
    refine (DAwake.awake_any _ (cell_later (below_drewN (Below.refl _ w) _) HW.out)).mono ?_
    rintro e w1 ⟨rfl, hb⟩
    have HB := Lib.hid ((below_drewN (Below.refl w.heap.size w) _).trans hb); clear hb
    go_wp2_with fail
    go_ret
    exact ⟨rfl, HB.out⟩
theorem fop_const {op : BinOp} {x y r : Nat} (h : floatBits op .f64 x y = some r) : ∀ w, fop op x y w = r := by
  intro w; unfold fop; rw [h]
end Nb
theorem ieeeNeighbours_walk (x : Nat) (hx : x < 2 ^ 64) (w : World) (h : DAwake.Cell w) :
    Calls Tryd.prog 5 #[.int .u64 x] w fun e w' => e = .returned (.bool true) ∧ Below w.heap.size w w' := by
  have H := Lib.hid hx
  have HW := Lib.hid h
  have HN := Lib.hid (nxt_lt hx)
  have HP := Lib.hid (prv_lt hx)
  by_cases nx : isNan x
  · exact Nb.nb_nan x _ _ H HN HP (Lib.hid rfl) (Lib.hid rfl) w HW (ne_self_true nx) (nxt_nan nx).symm (prv_nan nx).symm
  by_cases c1 : x = 9218868437227405312
  · subst c1
    exact Nb.nb_pinf 9218868437227405312 _ _ H HN HP (Lib.hid rfl) (Lib.hid rfl) w HW (ne_self_false nx) (Lib.hid (by decide +kernel)) (Lib.hid (by decide +kernel)) (Lib.hid (by decide +kernel)) (Lib.hid (by decide +kernel)) (Lib.hid (sameB_self _))
  by_cases c2 : x = 18442240474082181120
  · subst c2
    exact Nb.nb_minf 18442240474082181120 _ _ H HN HP (Lib.hid rfl) (Lib.hid rfl) w HW (ne_self_false nx) (Lib.hid (by decide +kernel)) (Lib.hid (by decide +kernel)) (Lib.hid (by decide +kernel)) (Lib.hid (by decide +kernel)) (Lib.hid (by decide +kernel)) (Lib.hid (sameB_self _))
  have p1 : pl x ≠ 9218868437227405312 := fun e => c1 (pl_inj hx (by decide) (e.trans (by decide)))
  have p2 : pl x ≠ -9218868437227405313 := fun e => c2 (pl_inj hx (by decide) (e.trans (by decide)))
  obtain ⟨f1, f2, f3, f4⟩ := nb_facts hx nx p1 p2
  have i1 : decide (x = INF) = false := decide_eq_false c1
  have i2 : decide (neg x = INF) = false := decide_eq_false fun e => c2 (by rw [← neg_neg x hx, e]; decide)
  by_cases c3 : x = 0
  · subst c3
    exact Nb.nb_pz 0 _ _ H HN HP (Lib.hid rfl) (Lib.hid rfl) w HW (ne_self_false nx) (Lib.hid i1) (Lib.hid i2) (Lib.hid f1) (Lib.hid f2) (Lib.hid f3) (Lib.hid f4) (Lib.hid (sameB_self _)) (by decide +kernel) (by decide +kernel) (by decide +kernel) (Lib.hid (by decide +kernel))
  by_cases c4 : x = 9223372036854775808
  · subst c4
    exact Nb.nb_mz 9223372036854775808 _ _ H HN HP (Lib.hid rfl) (Lib.hid rfl) w HW (ne_self_false nx) (Lib.hid i1) (Lib.hid i2) (Lib.hid f1) (Lib.hid f2) (Lib.hid f3) (Lib.hid f4) (Lib.hid (sameB_self _)) (by decide +kernel) (by decide +kernel) (by decide +kernel) (Lib.hid (by decide +kernel))
  by_cases c5 : x = 9218868437227405311
  · subst c5
    exact Nb.nb_pt 9218868437227405311 _ _ H HN HP (Lib.hid rfl) (Lib.hid rfl) w HW (ne_self_false nx) (Lib.hid i1) (Lib.hid i2) (Lib.hid f1) (Lib.hid f2) (Lib.hid f3) (Lib.hid f4) (Lib.hid (sameB_self _)) (by decide +kernel) (Lib.hid (by decide +kernel)) (by decide +kernel)
  by_cases c6 : x = 18442240474082181119
  · subst c6
    exact Nb.nb_mt 18442240474082181119 _ _ H HN HP (Lib.hid rfl) (Lib.hid rfl) w HW (ne_self_false nx) (Lib.hid i1) (Lib.hid i2) (Lib.hid f1) (Lib.hid f2) (Lib.hid f3) (Lib.hid f4) (Lib.hid (sameB_self _)) (by decide +kernel) (Lib.hid (by decide +kernel)) (Lib.hid (by decide +kernel)) (by decide +kernel)
  have bx := pl_num nx
  obtain ⟨n1, n2, n3⟩ := nxt_num nx p1
  obtain ⟨m1, m2, m3⟩ := prv_num nx p2
  have d3 : pl x ≠ 0 := fun e => c3 (pl_inj hx (by decide) (e.trans (by decide)))
  have d4 : pl x ≠ -1 := fun e => c4 (pl_inj hx (by decide) (e.trans (by decide)))
  have d5 : pl x ≠ 9218868437227405311 := fun e => c5 (pl_inj hx (by decide) (e.trans (by decide)))
  have d6 : pl x ≠ -9218868437227405312 := fun e => c6 (pl_inj hx (by decide) (e.trans (by decide)))
  have z0 : (FloatKind.f64.format.order x 0 == some Ordering.eq) = false := by
    rw [order_zeroB]; unfold zeroB
    refine decide_eq_false fun e => ?_
    cases hs : sg x
    · exact d3 (by rw [pl_false hs, e]; rfl)
    · exact d4 (by rw [pl_true hs, e]; rfl)
  have all : fin x ∧ fin (nxt x) ∧ fin (prv x) ∧ sg (nxt x) = sg x ∧ (rg (nxt x) = rg x + 1 ∨ rg x = rg (nxt x) + 1) := by
    unfold fin INF
    by_cases s : pl x < 0
    · have a := of_pl_neg s
      have b := of_pl_neg (x := nxt x) (by omega)
      have c := of_pl_neg (x := prv x) (by omega)
      refine ⟨by omega, by omega, by omega, by rw [a.1, b.1], by omega⟩
    · have a := of_pl_nonneg (x := x) (by omega)
      have b := of_pl_nonneg (x := nxt x) (by omega)
      have c := of_pl_nonneg (x := prv x) (by omega)
      refine ⟨by omega, by omega, by omega, by rw [a.1, b.1], by omega⟩
  obtain ⟨fx, fn, fp, es, er⟩ := all
  have j1 : decide (rg (nxt x) = INF) = false := decide_eq_false (by unfold fin at fn; omega)
  have j2 : decide (rg (prv x) = INF) = false := decide_eq_false (by unfold fin at fp; omega)
  by_cases s : rg x < 13510798882111488
  · have ab : (FloatKind.f64.format.order (rg x) 13510798882111488 == some Ordering.lt) = true := by
      have rr : rg (rg x) = rg x := Nat.mod_eq_of_lt (rg_lt x)
      have sr : sg (rg x) = false := by unfold sg; rw [Nat.div_eq_of_lt (rg_lt x)]; rfl
      have nr : ¬ isNan (rg x) := by unfold isNan; rw [rr]; exact nx
      rw [beq_iff_eq]
      refine (order_pl nr (by decide) fun e => absurd e.2 (by decide)).2.1.2 ?_
      rw [pl_false sr, rr, show pl 13510798882111488 = 13510798882111488 by decide]
      omega
    exact Nb.nb_small x _ _ H HN HP (Lib.hid rfl) (Lib.hid rfl) w HW (ne_self_false nx) (Lib.hid i1) (Lib.hid i2) (Lib.hid f1) (Lib.hid f2) (Lib.hid f3) (Lib.hid f4) (Lib.hid (sameB_self _)) z0 (Lib.hid j1) (Lib.hid j2) ab
  · obtain ⟨h1, h2, hf, q1, q2, q3, q⟩ := half_law hx n1 fx fn es er (by omega) (by omega)
    rcases q with rfl | e
    · exact Nb.nb_bigx hf _ _ H HN HP (Lib.hid rfl) (Lib.hid rfl) w HW (ne_self_false nx) (Lib.hid i1) (Lib.hid i2) (Lib.hid f1) (Lib.hid f2) (Lib.hid f3) (Lib.hid f4) (Lib.hid (sameB_self _)) z0 (Lib.hid j1) (Lib.hid j2) h1 h2 (Nb.fop_const q1) (Nb.fop_const q2) (Nb.fop_const q3) (eq_self nx)
    · rw [e] at q3
      exact Nb.nb_bign x _ _ H HN HP (Lib.hid rfl) (Lib.hid rfl) w HW (ne_self_false nx) (Lib.hid i1) (Lib.hid i2) (Lib.hid f1) (Lib.hid f2) (Lib.hid f3) (Lib.hid f4) (Lib.hid (sameB_self _)) z0 (Lib.hid j1) (Lib.hid j2) h1 h2 (Nb.fop_const q1) (Nb.fop_const q2) (Nb.fop_const q3) (eq_self n3)
end Go.Proofs.YtmfmgofafamemaaDoor
